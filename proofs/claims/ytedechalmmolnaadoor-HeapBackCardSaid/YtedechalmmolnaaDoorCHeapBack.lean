/- PROVED: HeapBack returns true whatever the two numbers and the two scripts of steps, and leaves them as they were; the table kiln/word.kinds starts as the program's text lays it. -/
import Derived.Test.YtedechalmmolnaaDoorGr
import Derived.Test.YtedechalmmolnaaDoorCLawBack
import Derived.Test.YtedechalmmolnaaDoorCards
import Derived.Test.YtedechalmmolnaaDoorTie
namespace Kiln
open Go Go.RowKit Go.Proofs Go.ChangeShapes Go.WideShapes Go.ChangeAt Go.WideMaps Go.WideElems Go.Proofs.YtedechalmmolnaaDoor

set_option maxRecDepth 100000 in
theorem back_lifted (os : Os) (started : os.Started) (H : Type) (enc : TypeId × Value → H) :
    ReturnsInHanded {} Tryd.checked os 8 .any (fun w args => (Rows.heapBackSpec.pre enc Tryd.prog Tryd.f8 [] false w args ∧ laidMetH Tryd.prog [("kiln/word.kinds", Rows.laid_kiln_word_kinds)] w) ∧ sizedMet enc Tryd.prog Tryd.f8 (OpenSpec.ofChange Rows.heapBackSpec) false w args)
      (Rows.heapBackSpec.post enc Tryd.prog Tryd.f8 false true false false) := by
  refine returnsInHanded_of_change_and (C := Tryd.checked) (X := fun w _ => laidMetH Tryd.prog [("kiln/word.kinds", Rows.laid_kiln_word_kinds)] w) (fun _ _ _ hh h => h.of_heap hh) own started (by kernel_rfl) Tryd.func8
    (ChangeSpec.witness_shaped (enc := enc) (C := Tryd.checked) (os := os) (X := fun w _ => laidMetH Tryd.prog [("kiln/word.kinds", Rows.laid_kiln_word_kinds)] w) false (World.doorLaid Tryd.prog 400 os) #[.int .i64 0, .int .i64 0, .slice none 0 0, .slice none 0 0] 8 rfl (World.shaped_of_RefB (by kernel_rfl) (by kernel_rfl)) (by kernel_rfl) (by kernel_rfl) (by kernel_rfl) (door_met os _)) ?_
  intro W base args ds gs before hval0 hW _ hsz hL _
  have hval : ∀ (j : Nat) t v, Tryd.f8.params[j]? = some t → args[j]? = some v → Value.okWide Tryd.prog W .any base t v := hval0
  have hW' := hW
  obtain ⟨p, q, hA0, hV, rfl, hfz, hnd⟩ := hW
  have hA : DataW.TrodAll enc Tryd.prog W 0 (fun _ => true) true Tryd.f8.params.toList args.toList ds p := hA0
  rw [Tryd.params8] at hA hval hsz
  obtain ⟨v0, v1, v2, v3, d0, d1, d2, d3, p0, p1, p2, p3, hargs, rfl, rfl, h0, h1, h2, h3⟩ := trodAll_four hA
  obtain ⟨rfl, rfl⟩ := trodVars_none hV
  subst hargs
  obtain ⟨x, rfl, rfl, rfl, _⟩ := open_int Tryd.underlying3 (hval 0 3 v0 rfl rfl) h0
  obtain ⟨y, rfl, rfl, rfl, _⟩ := open_int Tryd.underlying3 (hval 1 3 v1 rfl rfl) h1
  obtain ⟨ao, b, off, cap, ss, rfl, hs, hlen⟩ := steps_of (hval 2 51 v2 rfl rfl) h2 (fun n hn => by
    have := List.all_eq_true.1 hsz _ (DataW.weights_mem_each (j := 2) (t := 51) (d := d2) rfl rfl n hn)
    simpa using this)
  obtain ⟨ao2, b2, off2, cap2, ts, rfl, ht, hlen2⟩ := steps_of (hval 3 51 v3 rfl rfl) h3 (fun n hn => by
    have := List.all_eq_true.1 hsz _ (DataW.weights_mem_each (j := 3) (t := 51) (d := d3) rfl rfl n hn)
    simpa using this)
  refine (back_calls W (kinds_of_laid hL) x y ao b off cap ss hs hlen ao2 b2 off2 cap2 ts ht hlen2).mono fun e W' ⟨he, hF⟩ => ?_
  subst he
  refine ⟨_, rfl, ?_⟩
  exact post_true rfl hW' rfl (by rw [Tryd.params8]; exact readable4 (by kernel_rfl) (by kernel_rfl) (by kernel_rfl) (by kernel_rfl) (by kernel_rfl) (by kernel_rfl) (by kernel_rfl) (by kernel_rfl)) rfl hF.toBelow

theorem back_holds : Rows.HeapBackSaid :=
  OpenClaim.holds_of_wide 8 Tryd.f8 rfl rfl rfl rfl rfl rfl rfl ⟨rfl, rfl, rfl, rfl, rfl⟩ rfl rfl rfl rfl rfl (by kernel_rfl) Tryd.func8 (by kernel_rfl)
    (of_decide_eq_true (by kernel_rfl)) (by unfold Func.isWrapper; first | (rw [if_pos (by decide +kernel)]; kernel_rfl) | (rw [if_neg (by decide +kernel)]; exact ⟨rfl, rfl⟩))
    (fun os started H enc _ => back_lifted os started H enc)

theorem back_card : Rows.HeapBackCardSaid :=
  Claim7.holds_tied_plain_at .later [] [.data] true (true, "e5582f8dc48765c978854b1510c022b4cd91e0dd87282b8f550ca62ea7e1f3b2") false
    back_holds (fun _ h => by cases h) (by kernel_rfl) (fun _ h => by cases h) heapBack_row_tie rfl ⟨rfl, rfl⟩ (by kernel_rfl) rfl
    (fun f fn hf hfn => by
      obtain rfl : f = 8 := Option.some.inj ((show Tryd.prog.funcNamed "kiln/kilnlaw2.HeapBack" = some 8 by kernel_rfl).symm.trans hf) |>.symm
      obtain rfl : fn = Tryd.f8 := (Option.some.inj (Tryd.func8.symm.trans hfn)).symm
      exact ⟨by kernel_rfl, fun j t ht => by
        rw [Tryd.params8] at ht
        have hm : t ∈ [3, 3, 51, 51] := by simpa using Array.mem_of_getElem? ht
        have hall : ([3, 3, 51, 51].all fun u => !Tryd.prog.wantsStandIn u) = true := by kernel_rfl
        exact (show Tryd.prog.wantsStandIn t = false by simpa using List.all_eq_true.1 hall t hm)⟩)
    (by kernel_rfl)
end Kiln

namespace Go.Proofs.YtedechalmmolnaaDoor
theorem heapBack_card_holds : Rows.HeapBackCardSaid := Kiln.back_card
#print axioms heapBack_card_holds
end Go.Proofs.YtedechalmmolnaaDoor
