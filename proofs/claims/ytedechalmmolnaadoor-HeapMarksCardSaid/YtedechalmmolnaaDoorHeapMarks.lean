/- PROVED: HeapMarks returns true whatever the number and the slice of numbers, and leaves both as they were; the table kiln/word.kinds starts as the program's text lays it. -/
import Derived.Test.YtedechalmmolnaaDoorRowKit
import Derived.Test.YtedechalmmolnaaDoorLawMarks
import Derived.Test.YtedechalmmolnaaDoorCards
import Derived.Test.YtedechalmmolnaaDoorTie
namespace Kiln
open Go Go.RowKit Go.Proofs Go.ChangeShapes Go.WideShapes Go.ChangeAt Go.WideMaps Go.WideElems Go.Proofs.YtedechalmmolnaaDoor

set_option maxRecDepth 100000 in
theorem marks_lifted (os : Os) (started : os.Started) (H : Type) (enc : TypeId × Value → H) :
    ReturnsInHanded {} Tryd.checked os 4 .any (fun w args => (Rows.heapMarksSpec.pre enc Tryd.prog Tryd.f4 [] false w args ∧ laidMetH Tryd.prog [("kiln/word.kinds", Rows.laid_kiln_word_kinds)] w) ∧ sizedMet enc Tryd.prog Tryd.f4 (OpenSpec.ofChange Rows.heapMarksSpec) false w args)
      (Rows.heapMarksSpec.post enc Tryd.prog Tryd.f4 false true false false) := by
  refine returnsInHanded_of_change_and (C := Tryd.checked) (X := fun w _ => laidMetH Tryd.prog [("kiln/word.kinds", Rows.laid_kiln_word_kinds)] w) (fun _ _ _ hh h => h.of_heap hh) own started (by kernel_rfl) Tryd.func4
    (ChangeSpec.witness_shaped (enc := enc) (C := Tryd.checked) (os := os) (X := fun w _ => laidMetH Tryd.prog [("kiln/word.kinds", Rows.laid_kiln_word_kinds)] w) false (World.doorLaid Tryd.prog 400 os) #[.int .i64 0, .slice none 0 0] 8 rfl (World.shaped_of_RefB (by kernel_rfl) (by kernel_rfl)) (by kernel_rfl) (by kernel_rfl) (by kernel_rfl) (door_met os _)) ?_
  intro W base args ds gs before hval0 hW _ _ hL hsz
  have hval : ∀ (j : Nat) t v, Tryd.f4.params[j]? = some t → args[j]? = some v → Value.okWide Tryd.prog W .any base t v := hval0
  have hW' := hW
  obtain ⟨p, q, hA0, hV, rfl, hfz, hnd⟩ := hW
  have hA : DataW.TrodAll enc Tryd.prog W 0 (fun _ => true) true Tryd.f4.params.toList args.toList ds p := hA0
  rw [Tryd.params4] at hA hval
  obtain ⟨v0, v1, d0, d1, p0, p1, hargs, rfl, rfl, h0, h1⟩ := trodAll_two hA
  obtain ⟨rfl, rfl⟩ := trodVars_none hV
  subst hargs
  obtain ⟨x, rfl, rfl, rfl, _⟩ := open_int Tryd.underlying3 (hval 0 3 v0 rfl rfl) h0
  obtain ⟨ao, b, off, cap, l, rfl, hl, hlen⟩ := ints_of (hval 1 41 v1 rfl rfl) h1
  refine (marks_calls W (kinds_of_laid hL) x ao b off cap l hl hlen).mono fun e W' ⟨he, hF⟩ => ?_
  subst he
  refine ⟨_, rfl, ?_⟩
  exact post_true rfl hW' rfl (by rw [Tryd.params4]; exact readable2 (by kernel_rfl) (by kernel_rfl) (by kernel_rfl) (by kernel_rfl)) rfl hF.toBelow

theorem marks_holds : Rows.HeapMarksSaid :=
  OpenClaim.holds_of_wide 4 Tryd.f4 rfl rfl rfl rfl rfl rfl rfl ⟨rfl, rfl, rfl, rfl, rfl⟩ rfl rfl rfl rfl rfl (by kernel_rfl) Tryd.func4 (by kernel_rfl)
    (of_decide_eq_true (by kernel_rfl)) (by unfold Func.isWrapper; first | (rw [if_pos (by decide +kernel)]; kernel_rfl) | (rw [if_neg (by decide +kernel)]; exact ⟨rfl, rfl⟩))
    (fun os started H enc _ => marks_lifted os started H enc)

theorem marks_card : Rows.HeapMarksCardSaid :=
  Claim7.holds_tied_plain_at .later [] [.data] true (true, "e5582f8dc48765c978854b1510c022b4cd91e0dd87282b8f550ca62ea7e1f3b2") false
    marks_holds (fun _ h => by cases h) (by kernel_rfl) (fun _ h => by cases h) heapMarks_row_tie rfl ⟨rfl, rfl⟩ (by kernel_rfl) rfl
    (fun f fn hf hfn => by
      obtain rfl : f = 4 := Option.some.inj ((show Tryd.prog.funcNamed "kiln/kilnlaw2.HeapMarks" = some 4 by kernel_rfl).symm.trans hf) |>.symm
      obtain rfl : fn = Tryd.f4 := (Option.some.inj (Tryd.func4.symm.trans hfn)).symm
      exact ⟨by kernel_rfl, fun j t ht => by
        rw [Tryd.params4] at ht
        have hm : t ∈ [3, 41] := by simpa using Array.mem_of_getElem? ht
        have hall : ([3, 41].all fun u => !Tryd.prog.wantsStandIn u) = true := by kernel_rfl
        exact (show Tryd.prog.wantsStandIn t = false by simpa using List.all_eq_true.1 hall t hm)⟩)
    (by kernel_rfl)
end Kiln

namespace Go.Proofs.YtedechalmmolnaaDoor
theorem heapMarks_card_holds : Rows.HeapMarksCardSaid := Kiln.marks_card
#print axioms heapMarks_card_holds
end Go.Proofs.YtedechalmmolnaaDoor
