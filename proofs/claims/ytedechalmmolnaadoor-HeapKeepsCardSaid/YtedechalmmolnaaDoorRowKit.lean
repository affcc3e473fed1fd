/- The rows: what all of them share: the listed table, the world at the call, 'true' and each argument as it was. -/
import Derived.Test.YtedechalmmolnaaDoorRows
import Derived.Test.YtedechalmmolnaaDoorHeapL
import Derived.ProofKit
import Derived.LaidMore
import Derived.OpenShut
import Derived.Stop.Joined
import Derived.Carry
import Derived.ChangeSlices
namespace Kiln
open Go Go.RowKit Go.Proofs Go.ChangeShapes Go.WideShapes Go.ChangeAt Go.WideMaps Go.WideElems Go.Proofs.YtedechalmmolnaaDoor

theorem own : ownKnob Tryd.prog.godebug = none := by kernel_rfl
theorem laidOut : laidOutB Tryd.prog = true := by kernel_rfl
theorem gKinds : Tryd.prog.globalNamed "kiln/word.kinds" = some 0 := by kernel_rfl
theorem tKinds : (Tryd.prog.globals[0]?).map (·.type) = some 181 := by kernel_rfl

/-- The door's own heap meets the condition. -/
theorem door_met (os : Os) (args : Array Value) : laidMetH Tryd.prog [("kiln/word.kinds", Rows.laid_kiln_word_kinds)] ((World.doorLaid Tryd.prog 400 os).forCall (fun _ _ => 0) ⟨#[], args, []⟩).memory :=
  laidMetH_of_parts3 (fuel := 8) (laidMet_of_run' 8 (by kernel_rfl) (by kernel_rfl)) (by kernel_rfl) (by kernel_rfl)

theorem list4 {α : Type _} {l : List α} (h : l.length = 4) : ∃ a b c d, l = [a, b, c, d] := by
  match l, h with
  | [a, b, c, d], _ => exact ⟨a, b, c, d, rfl⟩

set_option maxRecDepth 100000 in
theorem kinds_of_laid {W : World} (h : laidMetH Tryd.prog [("kiln/word.kinds", Rows.laid_kiln_word_kinds)] W) : KindsAt W := by
  rw [MakeChecks.laidMetH_plain _ _ _ (by kernel_rfl)] at h
  obtain ⟨ps, ⟨g1, t1, cs1, f1, p1, q1, hg1, ht1, hv1, hd1, _, _⟩, _, _⟩ := h
  obtain rfl := Option.some.inj (gKinds.symm.trans hg1)
  obtain rfl := Option.some.inj (tKinds.symm.trans ht1)
  obtain ⟨xs, m1, rfl, hx1, hlen, hn3, hel⟩ := DataW.trod_array Tryd.underlying181 hd1
  have c3 : Tryd.prog.cellsOf 3 = 1 := by kernel_rfl
  have c4 : Tryd.prog.cellsOf 181 = 4 := by kernel_rfl
  rw [c4] at hlen
  unfold Rows.laid_kiln_word_kinds at hx1
  have h0 := hel 0 (by decide)
  have h1 := hel 1 (by decide)
  have h2 := hel 2 (by decide)
  have h3 := hel 3 (by decide)
  rw [c3] at h0 h1 h2 h3
  simp only [Prod.mk.injEq, DataW.agg.injEq] at hx1
  have hc := World.var?_cell hg1 hv1
  obtain ⟨l1⟩ := cs1
  obtain ⟨x0, x1, x2, x3, rfl⟩ := list4 hn3
  obtain ⟨a0, a1, a2, a3, rfl⟩ := list4 (show l1.length = 4 from hlen)
  · simp only [List.map_cons, List.map_nil, List.cons.injEq] at hx1
    obtain ⟨⟨q0, q1, q2, q3, _⟩, _⟩ := hx1
    obtain ⟨k0, e0, u0, _⟩ := DataW.trod_int Tryd.underlying3 (show DataW.trod _ Tryd.prog W 0 _ false m1 3 [a0] = some x0 from h0)
    obtain ⟨k1, e1, u1, _⟩ := DataW.trod_int Tryd.underlying3 (show DataW.trod _ Tryd.prog W 0 _ false m1 3 [a1] = some x1 from h1)
    obtain ⟨k2, e2, u2, _⟩ := DataW.trod_int Tryd.underlying3 (show DataW.trod _ Tryd.prog W 0 _ false m1 3 [a2] = some x2 from h2)
    obtain ⟨k3, e3, u3, _⟩ := DataW.trod_int Tryd.underlying3 (show DataW.trod _ Tryd.prog W 0 _ false m1 3 [a3] = some x3 from h3)
    rw [u0] at q0
    rw [u1] at q1
    rw [u2] at q2
    rw [u3] at q3
    have w0 : k0 = 3 := by simpa using q0.symm
    have w1 : k1 = 1 := by simpa using q1.symm
    have w2 : k2 = 2 := by simpa using q2.symm
    have w3 : k3 = 1 := by simpa using q3.symm
    subst w0; subst w1; subst w2; subst w3
    simp only [List.cons.injEq, and_true] at e0 e1 e2 e3
    subst e0; subst e1; subst e2; subst e3
    intro i hi
    have hh := hc i
    have hi4 : i = 0 ∨ i = 1 ∨ i = 2 ∨ i = 3 := by omega
    rcases hi4 with rfl | rfl | rfl | rfl <;> simpa [kindTab] using hh

theorem Fr.toBelow {w w' : World} (h : Fr (fun _ => False) w w') : Below w.heap.size w w' :=
  ⟨h.os, h.tape, h.output, h.size, fun k hk => h.block k hk id⟩

theorem trodAll_below {H : Type} {enc : TypeId × Value → H} {P : Program} (hl : laidOutB P = true) {W W' : World} (hb : Below W.heap.size W W') :
    ∀ {ts : List TypeId} {vs : List Value} {ds : List (DataW H)} {ps : List MemPlace}, (∀ t ∈ ts, P.readableRec t = true ∧ t < P.types.size) → (∀ x ∈ ps, x.block < W.heap.size) →
      DataW.TrodAll enc P W 0 (fun _ => true) true ts vs ds ps → DataW.TrodAll enc P W' 0 (fun b => decide (b < W.heap.size)) true ts vs ds ps
  | [], [], [], _, _, _, h => h
  | [], _ :: _, _, _, _, _, h => h.elim
  | [], [], _ :: _, _, _, _, h => h.elim
  | _ :: _, [], _, _, _, _, h => h.elim
  | _ :: _, _ :: _, [], _, _, _, h => h.elim
  | t :: ts, v :: vs, d :: ds, ps, ht, hlt, h => by
    obtain ⟨p, q, h1, h2, rfl⟩ := h
    exact ⟨p, q, Below.trod hl (ht t (by simp)).1 (ht t (by simp)).2 h1 hb (fun x hx => hlt x (by simp [hx])),
      trodAll_below hl hb (fun t h => ht t (by simp [h])) (fun x hx => hlt x (by simp [hx])) h2, rfl⟩

theorem post_true {H : Type} {enc : TypeId × Value → H} {f : Func} {s : ChangeSpec} {W W' : World} {args : Array Value} {ds : List (DataW H)} {before : List MemPlace} (hv : s.vars = [])
    (hW : DataW.Whole enc Tryd.prog f.params.toList s.vars false W args.toList ds [] before) (hfn : s.fn H (ds ++ []) = { results := [.lit (.bool true)], args := ds })
    (hts : ∀ t ∈ f.params.toList, Tryd.prog.readableRec t = true ∧ t < Tryd.prog.types.size) (hres : f.resultTypes = #[4]) (hb : Below W.heap.size W W') :
    s.post enc Tryd.prog f false true false false W args (.bool true) W' := by
  have hW' := hW
  obtain ⟨p, q, hA0, hV, rfl, hfz, hnd⟩ := hW
  refine ⟨ds, [], _, [], p, [], hW', ?_, ?_, ?_, hb.frame _, fun h => by cases h⟩
  · rw [hfn, hres]
    exact trodAll_mk1 (shut_bool Tryd.underlying4 _)
  · rw [hfn]
    exact trodAll_below laidOut hb hts (fun x hx => hW'.lt x (List.mem_append_left _ hx)) hA0
  · rw [hfn, hv]
    rfl

set_option maxRecDepth 100000 in
/-- a slice of whole numbers, as the walks have it -/
theorem ints_of {H : Type} {enc : TypeId × Value → H} {W : World} {base : Nat} {v : Value} {d : DataW H} {p : List MemPlace} (hv : Value.okWide Tryd.prog W .any base 41 v) (h : DataW.Trod enc Tryd.prog W 0 (fun _ => true) true 41 v d p) :
    ∃ (ao : Option Addr) (b off cap : Nat) (l : List Int), v = .slice ao l.length cap ∧ Ints W ao b off l ∧ l.length ≤ 9223372036854775807 := by
  obtain ⟨a0, len0, cap0, rfl⟩ := okWide_slice Tryd.underlying41 hv
  obtain ⟨fuel, hf⟩ := h
  rcases open_ints Tryd.underlying41 Tryd.underlying3 (by kernel_rfl) hf with ⟨hc, _⟩ | ⟨a, len, cap, zs, hc, _, hlc, hm, hz, _, hcell, _⟩
  · simp [Value.cells] at hc
    obtain ⟨rfl, rfl, rfl⟩ := hc
    exact ⟨none, 0, 0, 0, [], rfl, ⟨fun h => absurd h (by decide), fun i hi => absurd hi (by simp)⟩, by decide⟩
  · simp [Value.cells] at hc
    obtain ⟨rfl, rfl, rfl⟩ := hc
    obtain ⟨b, off, spot⟩ := a
    have hzl : len0 ≤ zs.length := by rw [hz]; simp; exact hlc
    have htl : (zs.take len0).length = len0 := by rw [List.length_take]; omega
    unfold maxLen at hm
    refine ⟨_, b, off, cap0, zs.take len0, by rw [htl], ⟨fun h0 => ?_, fun i hi => ?_⟩, by rw [htl]; omega⟩
    · have h1 := hcell 0 (by omega)
      have hspot : spot = none := by simpa [Addr.add] using World.cell?_spot h1
      rw [hspot]
    · rw [htl] at hi
      have h1 := hcell 0 (by omega)
      have hspot : spot = none := by simpa [Addr.add] using World.cell?_spot h1
      subst hspot
      have h2 := hcell i (by omega)
      rw [show (⟨b, off, none⟩ : Addr).add i = ⟨b, off + i, none⟩ by unfold Addr.add; split <;> simp_all] at h2
      rw [h2, List.getD_eq_getElem?_getD, List.getD_eq_getElem?_getD, List.getElem?_take, if_pos hi]

set_option maxRecDepth 100000 in
theorem readable2 {a b : TypeId} (h1 : Tryd.prog.readableRec a = true) (h2 : Tryd.prog.readableRec b = true) (h3 : decide (a < Tryd.prog.types.size) = true) (h4 : decide (b < Tryd.prog.types.size) = true) : ∀ t ∈ (#[a, b] : Array TypeId).toList, Tryd.prog.readableRec t = true ∧ t < Tryd.prog.types.size := by
  intro t ht
  have ht' : t = a ∨ t = b := by
    cases ht with
    | head => exact .inl rfl
    | tail _ h => cases h with
      | head => exact .inr rfl
      | tail _ h => cases h
  rcases ht' with rfl | rfl
  · exact ⟨h1, of_decide_eq_true h3⟩
  · exact ⟨h2, of_decide_eq_true h4⟩
end Kiln
