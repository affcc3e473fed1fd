/- PROVED: BecomeForwarded returns true for every state, every two lists and all roots of bulk at most 1048576, and leaves them as they were; the table kiln/word.kinds starts as the program's text lays it. -/
import Derived.Test.YtlicomjfmdadoaaDoorCRowKit4
import Derived.Test.YtlicomjfmdadoaaDoorJe
import Derived.Test.YtlicomjfmdadoaaDoorGr
import Derived.Carry
import Derived.Test.YtlicomjfmdadoaaDoorCards
import Derived.Test.YtlicomjfmdadoaaDoorTie
import Derived.Deep.DeepHandedRow
namespace Kiln
open Go Go.RowKit Go.Proofs Go.ChangeShapes Go.WideShapes Go.ChangeAt Go.WideMaps Go.WideElems Go.Proofs.YtlicomjfmdadoaaDoor

section
variable {H : Type} {enc : TypeId × Value → H} {W : World}
theorem bulk_one (d : DataW H) : 1 ≤ Rows.uptoBulk d := by
  cases d with
  | lit l => cases l <;> simp [Rows.uptoBulk]
  | nil => simp [Rows.uptoBulk]
  | ptr d => simp [Rows.uptoBulk]
  | slice elems spare => simp [Rows.uptoBulk]
  | agg parts => simp [Rows.uptoBulk]
  | iface t d => simp [Rows.uptoBulk]
  | map entries => simp [Rows.uptoBulk]
  | held h => simp [Rows.uptoBulk]
theorem bulk_len (l : List (DataW H)) : l.length ≤ Rows.uptoBulkAll l := by
  induction l with
  | nil => simp [Rows.uptoBulkAll]
  | cons x r ih => have := bulk_one x; simp only [Rows.uptoBulkAll, List.length_cons]; omega
theorem bulk_part {d : DataW H} {l : List (DataW H)} (h : d ∈ l) : Rows.uptoBulk d ≤ Rows.uptoBulkAll l := by
  induction l with
  | nil => cases h
  | cons x r ih =>
    simp only [Rows.uptoBulkAll]
    cases List.mem_cons.1 h with
    | inl e => subst e; omega
    | inr e => have := ih e; omega
set_option maxRecDepth 100000 in
/-- numbers that came in, of small bulk -/
theorem ints_small {t e : TypeId} {base : Nat} {v : Value} {d : DataW H} {p : List MemPlace} (ht : Tryd.prog.underlying t = some (.slice e)) (he : Tryd.prog.underlying e = some (.int .i64)) (hc : Tryd.prog.cellsOf e = 1)
    (hv : Value.okWide Tryd.prog W .any base t v) (h : DataW.Trod enc Tryd.prog W 0 (fun _ => true) true t v d p) (hw : Rows.uptoBulk d ≤ 1048576) :
    ∃ (ao : Option Addr) (b off cap : Nat) (l : List Int), v = .slice ao l.length cap ∧ Ints W ao b off l ∧ l.length ≤ 1048576 := by
  obtain ⟨a0, len0, cap0, rfl⟩ := okWide_slice ht hv
  obtain ⟨fuel, hf⟩ := h
  obtain ⟨ao, b, off, cap, l, hcs, hl, _, hd⟩ := ints_cells ht he hc hf
  simp [Value.cells] at hcs
  obtain ⟨rfl, rfl, rfl⟩ := hcs
  refine ⟨_, b, off, _, l, rfl, hl, ?_⟩
  rcases hd with ⟨_, rfl⟩ | ⟨es, sp, hd, hle⟩
  · exact Nat.zero_le _
  · have hd' : d = .slice es sp := hd
    rw [hd'] at hw
    have := bulk_len es
    simp only [Rows.uptoBulk] at hw
    omega
end

theorem forwarded_reads (os : Os) {H : Type} (enc : TypeId × Value → H) : ∃ x places, DataW.whole enc Tryd.prog ((World.doorLaid Tryd.prog 400 os).forCall (fun _ _ => 0) ⟨#[], #[.agg #[.int .i64 0, .int .i64 0, .int .i64 0, .slice none 0 0], .slice none 0 0, .slice none 0 0, .slice none 0 0], []⟩).memory Tryd.f9.params.toList Rows.becomeForwardedSpec.vars false #[Value.agg #[.int .i64 0, .int .i64 0, .int .i64 0, .slice none 0 0], .slice none 0 0, .slice none 0 0, .slice none 0 0].toList 8 = some (x, [], places) ∧ x = [.agg [.lit (.int .i64 0), .lit (.int .i64 0), .lit (.int .i64 0), .nil], .nil, .nil, .nil] :=
  ⟨_, [], by kernel_rfl, rfl⟩

set_option maxRecDepth 100000 in
theorem forwarded_lifted (os : Os) (started : os.Started) (H : Type) (enc : TypeId × Value → H) (F : Stop.Interp) :
    ReturnsInHanded {} Tryd.checked os 9 .any ((Rows.OpenSpec.upto Rows.becomeForwardedSpec).preRow enc Tryd.prog Tryd.f9 Rows.becomeForwardedUptoRow.domain false Rows.becomeForwardedUptoRow.laid) (((Rows.OpenSpec.upto Rows.becomeForwardedSpec).at F).post enc Tryd.prog Tryd.f9 false true false false) := by
  obtain ⟨x, places, hx, hx2⟩ := forwarded_reads os enc
  refine returnsInHanded_of_row (C := Tryd.checked) (s := Rows.OpenSpec.upto Rows.becomeForwardedSpec) own started (by kernel_rfl) Tryd.func9
    (witness_row_at (enc := enc) (C := Tryd.checked) false (World.doorLaid Tryd.prog 400 os) #[.agg #[.int .i64 0, .int .i64 0, .int .i64 0, .slice none 0 0], .slice none 0 0, .slice none 0 0, .slice none 0 0] rfl (by kernel_rfl) (by kernel_rfl) (by kernel_rfl)
      (OpenSpec.preRow_of_cond 8 hx (by subst hx2; kernel_rfl) (fun k hk => by cases hk; subst hx2; kernel_rfl) (by subst hx2; kernel_rfl) (door_met os _))) ?_
  intro W base args ds gs before hval0 hW _ hcond hsz hL _ _
  have hk : Rows.uptoSmall H (ds ++ gs) = true := hcond _ rfl
  have hval : ∀ (j : Nat) t v, Tryd.f9.params[j]? = some t → args[j]? = some v → Value.okWide Tryd.prog W .any base t v := hval0
  have hW' := hW
  obtain ⟨p, q, hA0, hV, rfl, hfz, hnd⟩ := hW
  have hA : DataW.TrodAll enc Tryd.prog W 0 (fun _ => true) true Tryd.f9.params.toList args.toList ds p := hA0
  rw [Tryd.params9] at hA hval hsz
  obtain ⟨v0, v1, v2, v3, d0, d1, d2, d3, p0, p1, p2, p3, hargs, rfl, rfl, h0, h1, h2, h3⟩ := trodAll_four hA
  obtain ⟨rfl, rfl⟩ := trodVars_none hV
  subst hargs
  have hb : Rows.uptoBulkAll [d0, d1, d2, d3] ≤ 1048576 := of_decide_eq_true (by simpa [Rows.uptoSmall] using hk)
  obtain ⟨Wd, O, m, ao, b, off, cap, hs, hst⟩ := state_of (hval 0 24 v0 rfl rfl) h0 (fun n hn => by
    have := List.all_eq_true.1 hsz _ (DataW.weights_mem_each (j := 0) (t := 24) (d := d0) rfl rfl n hn)
    simpa using this)
  obtain ⟨aa, ab, aoff, ac, la, rfl, ha, hla⟩ := ints_small Tryd.underlying41 Tryd.underlying3 (by kernel_rfl) (hval 1 41 v1 rfl rfl) h1 (Nat.le_trans (bulk_part (by simp)) hb)
  obtain ⟨ba, bb, boff, bc, lb, rfl, hbb, hlb⟩ := ints_small Tryd.underlying41 Tryd.underlying3 (by kernel_rfl) (hval 2 41 v2 rfl rfl) h2 (Nat.le_trans (bulk_part (by simp)) hb)
  obtain ⟨ra, rb, roff, rc, rs, rfl, hrr, hrs⟩ := ints_small Tryd.underlying80 Tryd.underlying70 (by kernel_rfl) (hval 3 80 v3 rfl rfl) h3 (Nat.le_trans (bulk_part (by simp)) hb)
  obtain ⟨rfl, ho, hlen, hlens⟩ := hst
  refine (forwarded_calls W (kinds_of_laid hL) Wd O m ao b off cap hs ho hlen hlens aa ba ra ab aoff bb boff ac bc rb roff rc la lb rs ha hbb hrr hla hlb hrs).mono fun e W' ⟨he, hF⟩ => ?_
  subst he
  refine ⟨_, rfl, ?_⟩
  exact post_true rfl hW' rfl (by rw [Tryd.params9]; exact readable4 (by kernel_rfl) (by kernel_rfl) (by kernel_rfl) (by kernel_rfl) (by kernel_rfl) (by kernel_rfl) (by kernel_rfl) (by kernel_rfl)) rfl hF.toBelow

theorem forwarded_holds : Rows.BecomeForwardedUptoSaid :=
  OpenClaim.holds_of_cond 9 Tryd.f9 rfl rfl rfl rfl rfl rfl rfl ⟨rfl, rfl, rfl, rfl, rfl⟩ rfl rfl rfl rfl rfl (by kernel_rfl) Tryd.func9 (by kernel_rfl)
    (of_decide_eq_true (by kernel_rfl)) (by unfold Func.isWrapper; first | (rw [if_pos (by decide +kernel)]; kernel_rfl) | (rw [if_neg (by decide +kernel)]; exact ⟨rfl, rfl⟩))
    (fun os started H enc _ F => by rw [OpenClaim.pre_eq_preRow]; exact forwarded_lifted os started H enc F)

theorem forwarded_card : Rows.BecomeForwardedUptoCardSaid :=
  Claim7.holds_tied_plain_at .later [] _ _ _ _ forwarded_holds (fun _ h => by cases h) (by kernel_rfl) (fun _ h => by cases h) becomeForwardedUpto_row_tie rfl ⟨rfl, rfl⟩ (by kernel_rfl) rfl
    (fun f fn hf hfn => by
      obtain rfl : f = 9 := Option.some.inj ((show Tryd.prog.funcNamed "kiln/kilnlaw4.BecomeForwarded" = some 9 by kernel_rfl).symm.trans hf) |>.symm
      obtain rfl : fn = Tryd.f9 := (Option.some.inj (Tryd.func9.symm.trans hfn)).symm
      exact ⟨by kernel_rfl, fun j t ht => by
        rw [Tryd.params9] at ht
        have hm : t ∈ [24, 41, 41, 80] := by simpa using Array.mem_of_getElem? ht
        have hall : ([24, 41, 41, 80].all fun u => !Tryd.prog.wantsStandIn u) = true := by kernel_rfl
        exact (show Tryd.prog.wantsStandIn t = false by simpa using List.all_eq_true.1 hall t hm)⟩)
    (by kernel_rfl)
end Kiln

namespace Go.Proofs.YtlicomjfmdadoaaDoor
theorem becomeForwardedUpto_card_holds : Rows.BecomeForwardedUptoCardSaid := Kiln.forwarded_card
#print axioms becomeForwardedUpto_card_holds
end Go.Proofs.YtlicomjfmdadoaaDoor
