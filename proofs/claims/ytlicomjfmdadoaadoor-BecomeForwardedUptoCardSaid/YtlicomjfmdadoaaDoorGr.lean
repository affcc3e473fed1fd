/- The rows: what all of them share: the listed table, the world at the call, 'true' and each argument as it was. The rows: a script of steps that came in. The rows: four arguments. -/
import Derived.Test.YtlicomjfmdadoaaDoorRows
import Derived.Test.YtlicomjfmdadoaaDoorGe
import Derived.ProofKit
import Derived.LaidMore
import Derived.OpenShut
import Derived.Stop.Joined
import Derived.Carry
import Derived.ChangeSlices
import Derived.Test.YtlicomjfmdadoaaDoorGm
import Derived.Deep.Slices
import Derived.SizedLaws
namespace Kiln
open Go Go.RowKit Go.Proofs Go.ChangeShapes Go.WideShapes Go.ChangeAt Go.WideMaps Go.WideElems Go.Proofs.YtlicomjfmdadoaaDoor

theorem own : ownKnob Tryd.prog.godebug = none := by kernel_rfl
theorem laidOut : laidOutB Tryd.prog = true := by kernel_rfl
theorem gKinds : Tryd.prog.globalNamed "kiln/word.kinds" = some 0 := by kernel_rfl
theorem tKinds : (Tryd.prog.globals[0]?).map (·.type) = some 171 := by kernel_rfl

/-- The door's own heap meets the condition. -/
theorem door_met (os : Os) (args : Array Value) : laidMetH Tryd.prog [("kiln/word.kinds", Rows.laid_kiln_word_kinds)] ((World.doorLaid Tryd.prog 400 os).forCall (fun _ _ => 0) ⟨#[], args, []⟩).memory :=
  laidMetH_of_parts3 (fuel := 8) (laidMet_of_run' 8 (by kernel_rfl) (by kernel_rfl)) (by kernel_rfl) (by kernel_rfl)

theorem list4 {α : Type _} {l : List α} (h : l.length = 4) : ∃ a b c d, l = [a, b, c, d] := by
  match l, h with
  | [a, b, c, d], _ => exact ⟨a, b, c, d, rfl⟩

set_option maxRecDepth 100000 in
theorem kinds_of_laid {W : World} (h : laidMetH Tryd.prog [("kiln/word.kinds", Rows.laid_kiln_word_kinds)] W) : KindsAt W := by
  rw [MakeChecks.laidMetH_plain _ _ _ (by kernel_rfl)] at h
  obtain ⟨ps, ⟨g1, t1, cs1, f1, p1, q1, hg1, ht1, hv1, hd1, _, _⟩, _, _⟩ := h
  obtain rfl := Option.some.inj (gKinds.symm.trans hg1)
  obtain rfl := Option.some.inj (tKinds.symm.trans ht1)
  obtain ⟨xs, m1, rfl, hx1, hlen, hn3, hel⟩ := DataW.trod_array Tryd.underlying171 hd1
  have c3 : Tryd.prog.cellsOf 3 = 1 := by kernel_rfl
  have c4 : Tryd.prog.cellsOf 171 = 4 := by kernel_rfl
  rw [c4] at hlen
  unfold Rows.laid_kiln_word_kinds at hx1
  have h0 := hel 0 (by decide)
  have h1 := hel 1 (by decide)
  have h2 := hel 2 (by decide)
  have h3 := hel 3 (by decide)
  rw [c3] at h0 h1 h2 h3
  simp only [Prod.mk.injEq, DataW.agg.injEq] at hx1
  have hc := World.var?_cell hg1 hv1
  obtain ⟨l1⟩ := cs1
  obtain ⟨x0, x1, x2, x3, rfl⟩ := list4 hn3
  obtain ⟨a0, a1, a2, a3, rfl⟩ := list4 (show l1.length = 4 from hlen)
  · simp only [List.map_cons, List.map_nil, List.cons.injEq] at hx1
    obtain ⟨⟨q0, q1, q2, q3, _⟩, _⟩ := hx1
    obtain ⟨k0, e0, u0, _⟩ := DataW.trod_int Tryd.underlying3 (show DataW.trod _ Tryd.prog W 0 _ false m1 3 [a0] = some x0 from h0)
    obtain ⟨k1, e1, u1, _⟩ := DataW.trod_int Tryd.underlying3 (show DataW.trod _ Tryd.prog W 0 _ false m1 3 [a1] = some x1 from h1)
    obtain ⟨k2, e2, u2, _⟩ := DataW.trod_int Tryd.underlying3 (show DataW.trod _ Tryd.prog W 0 _ false m1 3 [a2] = some x2 from h2)
    obtain ⟨k3, e3, u3, _⟩ := DataW.trod_int Tryd.underlying3 (show DataW.trod _ Tryd.prog W 0 _ false m1 3 [a3] = some x3 from h3)
    rw [u0] at q0
    rw [u1] at q1
    rw [u2] at q2
    rw [u3] at q3
    have w0 : k0 = 3 := by simpa using q0.symm
    have w1 : k1 = 1 := by simpa using q1.symm
    have w2 : k2 = 2 := by simpa using q2.symm
    have w3 : k3 = 1 := by simpa using q3.symm
    subst w0; subst w1; subst w2; subst w3
    simp only [List.cons.injEq, and_true] at e0 e1 e2 e3
    subst e0; subst e1; subst e2; subst e3
    intro i hi
    have hh := hc i
    have hi4 : i = 0 ∨ i = 1 ∨ i = 2 ∨ i = 3 := by omega
    rcases hi4 with rfl | rfl | rfl | rfl <;> simpa [kindTab] using hh

theorem Fr.toBelow {w w' : World} (h : Fr (fun _ => False) w w') : Below w.heap.size w w' :=
  ⟨h.os, h.tape, h.output, h.size, fun k hk => h.block k hk id⟩

theorem trodAll_below {H : Type} {enc : TypeId × Value → H} {P : Program} (hl : laidOutB P = true) {W W' : World} (hb : Below W.heap.size W W') :
    ∀ {ts : List TypeId} {vs : List Value} {ds : List (DataW H)} {ps : List MemPlace}, (∀ t ∈ ts, P.readableRec t = true ∧ t < P.types.size) → (∀ x ∈ ps, x.block < W.heap.size) →
      DataW.TrodAll enc P W 0 (fun _ => true) true ts vs ds ps → DataW.TrodAll enc P W' 0 (fun b => decide (b < W.heap.size)) true ts vs ds ps
  | [], [], [], _, _, _, h => h
  | [], _ :: _, _, _, _, _, h => h.elim
  | [], [], _ :: _, _, _, _, h => h.elim
  | _ :: _, [], _, _, _, _, h => h.elim
  | _ :: _, _ :: _, [], _, _, _, h => h.elim
  | t :: ts, v :: vs, d :: ds, ps, ht, hlt, h => by
    obtain ⟨p, q, h1, h2, rfl⟩ := h
    exact ⟨p, q, Below.trod hl (ht t (by simp)).1 (ht t (by simp)).2 h1 hb (fun x hx => hlt x (by simp [hx])),
      trodAll_below hl hb (fun t h => ht t (by simp [h])) (fun x hx => hlt x (by simp [hx])) h2, rfl⟩

theorem post_true {H : Type} {enc : TypeId × Value → H} {f : Func} {s : ChangeSpec} {W W' : World} {args : Array Value} {ds : List (DataW H)} {before : List MemPlace} (hv : s.vars = [])
    (hW : DataW.Whole enc Tryd.prog f.params.toList s.vars false W args.toList ds [] before) (hfn : s.fn H (ds ++ []) = { results := [.lit (.bool true)], args := ds })
    (hts : ∀ t ∈ f.params.toList, Tryd.prog.readableRec t = true ∧ t < Tryd.prog.types.size) (hres : f.resultTypes = #[4]) (hb : Below W.heap.size W W') :
    s.post enc Tryd.prog f false true false false W args (.bool true) W' := by
  have hW' := hW
  obtain ⟨p, q, hA0, hV, rfl, hfz, hnd⟩ := hW
  refine ⟨ds, [], _, [], p, [], hW', ?_, ?_, ?_, hb.frame _, fun h => by cases h⟩
  · rw [hfn, hres]
    exact trodAll_mk1 (shut_bool Tryd.underlying4 _)
  · rw [hfn]
    exact trodAll_below laidOut hb hts (fun x hx => hW'.lt x (List.mem_append_left _ hx)) hA0
  · rw [hfn, hv]
    rfl

set_option maxRecDepth 100000 in
/-- a slice of whole numbers, as the walks have it -/
theorem ints_of {H : Type} {enc : TypeId × Value → H} {W : World} {base : Nat} {v : Value} {d : DataW H} {p : List MemPlace} (hv : Value.okWide Tryd.prog W .any base 41 v) (h : DataW.Trod enc Tryd.prog W 0 (fun _ => true) true 41 v d p) :
    ∃ (ao : Option Addr) (b off cap : Nat) (l : List Int), v = .slice ao l.length cap ∧ Ints W ao b off l ∧ l.length ≤ 9223372036854775807 := by
  obtain ⟨a0, len0, cap0, rfl⟩ := okWide_slice Tryd.underlying41 hv
  obtain ⟨fuel, hf⟩ := h
  rcases open_ints Tryd.underlying41 Tryd.underlying3 (by kernel_rfl) hf with ⟨hc, _⟩ | ⟨a, len, cap, zs, hc, _, hlc, hm, hz, _, hcell, _⟩
  · simp [Value.cells] at hc
    obtain ⟨rfl, rfl, rfl⟩ := hc
    exact ⟨none, 0, 0, 0, [], rfl, ⟨fun h => absurd h (by decide), fun i hi => absurd hi (by simp)⟩, by decide⟩
  · simp [Value.cells] at hc
    obtain ⟨rfl, rfl, rfl⟩ := hc
    obtain ⟨b, off, spot⟩ := a
    have hzl : len0 ≤ zs.length := by rw [hz]; simp; exact hlc
    have htl : (zs.take len0).length = len0 := by rw [List.length_take]; omega
    unfold maxLen at hm
    refine ⟨_, b, off, cap0, zs.take len0, by rw [htl], ⟨fun h0 => ?_, fun i hi => ?_⟩, by rw [htl]; omega⟩
    · have h1 := hcell 0 (by omega)
      have hspot : spot = none := by simpa [Addr.add] using World.cell?_spot h1
      rw [hspot]
    · rw [htl] at hi
      have h1 := hcell 0 (by omega)
      have hspot : spot = none := by simpa [Addr.add] using World.cell?_spot h1
      subst hspot
      have h2 := hcell i (by omega)
      rw [show (⟨b, off, none⟩ : Addr).add i = ⟨b, off + i, none⟩ by unfold Addr.add; split <;> simp_all] at h2
      rw [h2, List.getD_eq_getElem?_getD, List.getD_eq_getElem?_getD, List.getElem?_take, if_pos hi]

set_option maxRecDepth 100000 in
theorem readable2 {a b : TypeId} (h1 : Tryd.prog.readableRec a = true) (h2 : Tryd.prog.readableRec b = true) (h3 : decide (a < Tryd.prog.types.size) = true) (h4 : decide (b < Tryd.prog.types.size) = true) : ∀ t ∈ (#[a, b] : Array TypeId).toList, Tryd.prog.readableRec t = true ∧ t < Tryd.prog.types.size := by
  intro t ht
  have ht' : t = a ∨ t = b := by
    cases ht with
    | head => exact .inl rfl
    | tail _ h => cases h with
      | head => exact .inr rfl
      | tail _ h => cases h
  rcases ht' with rfl | rfl
  · exact ⟨h1, of_decide_eq_true h3⟩
  · exact ⟨h2, of_decide_eq_true h4⟩
end Kiln

namespace Kiln
open Go Go.RowKit Go.Proofs Go.ChangeShapes Go.WideShapes Go.ChangeAt Go.WideMaps Go.WideElems Go.Proofs.YtlicomjfmdadoaaDoor Go.Deep

set_option maxRecDepth 100000 in
theorem readable3 {a b c : TypeId} (h1 : Tryd.prog.readableRec a = true) (h2 : Tryd.prog.readableRec b = true) (h3 : Tryd.prog.readableRec c = true) (g1 : decide (a < Tryd.prog.types.size) = true) (g2 : decide (b < Tryd.prog.types.size) = true) (g3 : decide (c < Tryd.prog.types.size) = true) :
    ∀ t ∈ (#[a, b, c] : Array TypeId).toList, Tryd.prog.readableRec t = true ∧ t < Tryd.prog.types.size := by
  intro t ht
  have ht' : t = a ∨ t = b ∨ t = c := by simpa using ht
  rcases ht' with rfl | rfl | rfl
  · exact ⟨h1, of_decide_eq_true g1⟩
  · exact ⟨h2, of_decide_eq_true g2⟩
  · exact ⟨h3, of_decide_eq_true g3⟩

theorem weightsAll_mem {H : Type} {P : Program} {e : TypeId} : ∀ {l : List (DataW H)} {d : DataW H}, d ∈ l → ∀ n, n ∈ d.weights P e → n ∈ DataW.weightsAll P e l
  | d0 :: l, d, h, n, hn => by
    rw [DataW.weightsAll, List.mem_append]
    rcases List.mem_cons.1 h with rfl | h
    · exact .inl hn
    · exact .inr (weightsAll_mem h n hn)
theorem addr_add (b off i : Nat) : (⟨b, off, none⟩ : Addr).add i = ⟨b, off + i, none⟩ := by
  unfold Addr.add
  split
  · next h => rw [h]; rfl
  · rfl

section
variable {H : Type} {enc : TypeId × Value → H} {W : World}

/-- numbers that came in, as cells -/
theorem ints_cells {t e : TypeId} {fuel : Nat} {cs : List Value} {x : DataW H × List MemPlace} (ht : Tryd.prog.underlying t = some (.slice e)) (he : Tryd.prog.underlying e = some (.int .i64)) (hc : Tryd.prog.cellsOf e = 1)
    (h : DataW.trod enc Tryd.prog W 0 (fun _ => true) true fuel t cs = some x) :
    ∃ (ao : Option Addr) (b off cap : Nat) (l : List Int), cs = [.slice ao l.length cap] ∧ Ints W ao b off l ∧ l.length ≤ 9223372036854775807 ∧ (x.1 = .nil ∧ l = [] ∨ ∃ es sp : List (DataW H), x.1 = .slice es sp ∧ l.length = es.length) := by
  rcases open_ints ht he hc h with ⟨rfl, rfl⟩ | ⟨a, len, cap, zs, rfl, _, hlc, hm, hz, rfl, hcell, _⟩
  · exact ⟨none, 0, 0, 0, [], rfl, ⟨fun h => absurd h (by decide), fun i hi => absurd hi (by simp)⟩, by decide, .inl ⟨rfl, rfl⟩⟩
  · obtain ⟨b, off, spot⟩ := a
    have hzl : len ≤ zs.length := by rw [hz]; simp; exact hlc
    have htl : (zs.take len).length = len := by rw [List.length_take]; omega
    unfold maxLen at hm
    refine ⟨_, b, off, cap, zs.take len, by rw [htl], ⟨fun h0 => ?_, fun i hi => ?_⟩, by rw [htl]; omega, .inr ⟨_, _, rfl, by unfold lits; rw [List.length_map]⟩⟩
    · have h1 := hcell 0 (by omega)
      have hspot : spot = none := by simpa [Addr.add] using World.cell?_spot h1
      rw [hspot]
    · rw [htl] at hi
      have h1 := hcell 0 (by omega)
      have hspot : spot = none := by simpa [Addr.add] using World.cell?_spot h1
      subst hspot
      have h2 := hcell i (by omega)
      rw [addr_add] at h2
      rw [h2, List.getD_eq_getElem?_getD, List.getD_eq_getElem?_getD, List.getElem?_take, if_pos hi]

theorem list7 {α : Type _} {l : List α} (h : l.length = 7) : ∃ a b c d e f g, l = [a, b, c, d, e, f, g] := by
  match l, h with
  | [a, b, c, d, e, f, g], _ => exact ⟨a, b, c, d, e, f, g, rfl⟩

theorem int_cell {t : TypeId} {fuel : Nat} {v : Value} {x : DataW H × List MemPlace} (ht : Tryd.prog.underlying t = some (.int .i64)) (h : DataW.trod enc Tryd.prog W 0 (fun _ => true) true fuel t [v] = some x) : ∃ k : Int, v = .int .i64 k := by
  obtain ⟨k, e, _⟩ := DataW.trod_int ht h
  exact ⟨k, by simpa using e⟩

set_option maxRecDepth 100000 in
theorem step_of {fuel : Nat} {cs : List Value} {x : DataW H × List MemPlace} (h : DataW.trod enc Tryd.prog W 0 (fun _ => true) true fuel 72 cs = some x) (hw : ∀ n, n ∈ x.1.weights Tryd.prog 72 → n ≤ reachBytes) :
    ∃ s : Sp, cs = spCells s ∧ Ints W s.ao s.lb s.off s.l ∧ s.l.length ≤ 17592186044416 := by
  have c7 : Tryd.prog.cellsOf 72 = 7 := by kernel_rfl
  have c1 : Tryd.prog.cellsOf 3 = 1 := by kernel_rfl
  have cw : Tryd.prog.cellsOf 70 = 1 := by kernel_rfl
  have cl : Tryd.prog.cellsOf 41 = 1 := by kernel_rfl
  have b8 : Tryd.prog.bytesOf 3 = 8 := by kernel_rfl
  obtain ⟨xs, n, rfl, rfl, hlen, hxs, hf⟩ := DataW.trod_struct Tryd.underlying72 h
  rw [c7] at hlen
  have hxs7 : xs.length = 7 := hxs
  obtain ⟨v0, v1, v2, v3, v4, v5, v6, rfl⟩ := list7 hlen
  obtain ⟨x0, x1, x2, x3, x4, x5, x6, rfl⟩ := list7 hxs7
  have f0 : DataW.trod enc Tryd.prog W 0 (fun _ => true) true n 3 ((([v0, v1, v2, v3, v4, v5, v6] : List Value).drop 0).take (Tryd.prog.cellsOf 3)) = some x0 := hf 0 _ rfl
  have f1 : DataW.trod enc Tryd.prog W 0 (fun _ => true) true n 3 ((([v0, v1, v2, v3, v4, v5, v6] : List Value).drop 1).take (Tryd.prog.cellsOf 3)) = some x1 := hf 1 _ rfl
  have f2 : DataW.trod enc Tryd.prog W 0 (fun _ => true) true n 3 ((([v0, v1, v2, v3, v4, v5, v6] : List Value).drop 2).take (Tryd.prog.cellsOf 3)) = some x2 := hf 2 _ rfl
  have f3 : DataW.trod enc Tryd.prog W 0 (fun _ => true) true n 3 ((([v0, v1, v2, v3, v4, v5, v6] : List Value).drop 3).take (Tryd.prog.cellsOf 3)) = some x3 := hf 3 _ rfl
  have f4 : DataW.trod enc Tryd.prog W 0 (fun _ => true) true n 3 ((([v0, v1, v2, v3, v4, v5, v6] : List Value).drop 4).take (Tryd.prog.cellsOf 3)) = some x4 := hf 4 _ rfl
  have f5 : DataW.trod enc Tryd.prog W 0 (fun _ => true) true n 70 ((([v0, v1, v2, v3, v4, v5, v6] : List Value).drop 5).take (Tryd.prog.cellsOf 70)) = some x5 := hf 5 _ rfl
  have f6 : DataW.trod enc Tryd.prog W 0 (fun _ => true) true n 41 ((([v0, v1, v2, v3, v4, v5, v6] : List Value).drop 6).take (Tryd.prog.cellsOf 41)) = some x6 := hf 6 _ rfl
  rw [c1] at f0 f1 f2 f3 f4
  rw [cw] at f5
  rw [cl] at f6
  obtain ⟨k0, rfl⟩ := int_cell Tryd.underlying3 (v := v0) (x := x0) f0
  obtain ⟨k1, rfl⟩ := int_cell Tryd.underlying3 (v := v1) (x := x1) f1
  obtain ⟨k2, rfl⟩ := int_cell Tryd.underlying3 (v := v2) (x := x2) f2
  obtain ⟨k3, rfl⟩ := int_cell Tryd.underlying3 (v := v3) (x := x3) f3
  obtain ⟨k4, rfl⟩ := int_cell Tryd.underlying3 (v := v4) (x := x4) f4
  obtain ⟨k5, rfl⟩ := int_cell Tryd.underlying70 (v := v5) (x := x5) f5
  obtain ⟨ao, b, off, cap, l, he, hl, _, hd⟩ := ints_cells Tryd.underlying41 Tryd.underlying3 c1 (show DataW.trod _ _ _ _ _ _ _ _ [v6] = some x6 from f6)
  obtain rfl : v6 = .slice ao l.length cap := by simpa using he
  refine ⟨⟨k0, k1, k2, k3, k4, k5, ao, b, off, cap, l⟩, rfl, hl, ?_⟩
  rcases hd with ⟨_, rfl⟩ | ⟨es, sp, hd, hle⟩
  · exact Nat.zero_le _
  · have := hw ((es.length + sp.length) * Tryd.prog.bytesOf 3) (by
      have hu := Tryd.underlying72
      unfold DataW.weights
      rw [hu]
      refine DataW.weights_mem_each (j := 6) (t := 41) (d := x6.1) rfl rfl _ ?_
      rw [hd]
      unfold DataW.weights
      rw [Tryd.underlying41]
      exact List.mem_cons_self)
    rw [b8] at this
    have hr := reachBytes_lt
    show l.length ≤ _
    omega

instance : Inhabited Sp := ⟨⟨0, 0, 0, 0, 0, 0, none, 0, 0, 0, []⟩⟩

set_option maxRecDepth 100000 in
theorem steps_of {base : Nat} {v : Value} {d : DataW H} {p : List MemPlace} (hv : Value.okWide Tryd.prog W .any base 61 v) (h : DataW.Trod enc Tryd.prog W 0 (fun _ => true) true 61 v d p) (hw : ∀ n, n ∈ d.weights Tryd.prog 61 → n ≤ reachBytes) :
    ∃ (ao : Option Addr) (b off cap : Nat) (ss : List Sp), v = .slice ao ss.length cap ∧ Steps W ao b off ss ∧ ss.length ≤ 9223372036854775807 := by
  obtain ⟨a0, len0, cap0, rfl⟩ := okWide_slice Tryd.underlying61 hv
  obtain ⟨fuel, hf⟩ := h
  have c7 : Tryd.prog.cellsOf 72 = 7 := by kernel_rfl
  rcases open_slice Tryd.underlying61 hf with ⟨hc, _⟩ | ⟨a, len, cap, m, n, D, Pl, hc, _, hlc, hm, hmm, hx, hel⟩
  · simp [Value.cells] at hc
    obtain ⟨rfl, rfl, rfl⟩ := hc
    exact ⟨none, 0, 0, 0, [], rfl, ⟨fun h => absurd h (by decide), fun i hi => absurd hi (by simp), fun s hs => (nomatch hs), fun s hs => (nomatch hs)⟩, Nat.zero_le _⟩
  · simp [Value.cells] at hc
    obtain ⟨rfl, rfl, rfl⟩ := hc
    obtain ⟨b, off, spot⟩ := a
    have hml : len0 ≤ m := by rw [hmm]; simp; exact hlc
    have hd : d = .slice ((List.range len0).map D) ((List.range (m - len0)).map fun j => D (len0 + j)) := congrArg Prod.fst hx
    unfold maxLen at hm
    rw [c7] at hel
    have hspot : 0 < len0 → spot = none := fun h0 => by
      obtain ⟨cs', h1, _⟩ := hel 0 (by omega)
      obtain ⟨_, hl7, h3⟩ := World.cells?_some h1
      have h4 := h3 0 (by omega)
      rw [List.getElem?_eq_getElem (by omega)] at h4
      simpa [Addr.add] using World.cell?_spot h4
    have key : ∀ i, i < len0 → ∃ s : Sp, Ints W s.ao s.lb s.off s.l ∧ s.l.length ≤ 17592186044416 ∧ ∀ (j : Nat) (u : Value), (spCells s)[j]? = some u → W.cell? ⟨b, off + i * 7 + j, none⟩ = some u := by
      intro i hi
      obtain ⟨cs', h1, h2⟩ := hel i (by omega)
      obtain ⟨s, hs, hint, hl⟩ := step_of h2 (fun n hn => hw n (by
        rw [hd]
        unfold DataW.weights
        rw [Tryd.underlying61]
        refine List.mem_cons_of_mem _ (List.mem_append_left _ (weightsAll_mem (List.mem_map.2 ⟨i, List.mem_range.2 hi, rfl⟩) n hn))))
      obtain ⟨_, hl7, h3⟩ := World.cells?_some h1
      have hsp := hspot (by omega)
      subst hsp
      refine ⟨s, hint, hl, fun j u hu => ?_⟩
      have hj : j < 7 := by
        have := (List.getElem?_eq_some_iff.1 hu).1
        have e7 : (spCells s).length = 7 := rfl
        omega
      have h4 := h3 j hj
      rw [hs, hu, addr_add, addr_add] at h4
      exact h4
    obtain ⟨f, hf⟩ := choose_lt key
    have hlen : ((List.range len0).map f).length = len0 := by simp
    refine ⟨_, b, off, cap0, (List.range len0).map f, by rw [hlen], ⟨fun h0 => ?_, fun i hi j u hu => ?_, fun s hs => ?_, fun s hs => ?_⟩, by rw [hlen]; omega⟩
    · rw [hlen] at h0
      rw [hspot h0]
    · rw [hlen] at hi
      have e : ((List.range len0).map f)[i]'(by rw [hlen]; exact hi) = f i := by simp
      rw [e] at hu
      exact (hf i hi).2.2 j u hu
    · obtain ⟨i, hi, rfl⟩ := List.mem_map.1 hs
      exact (hf i (List.mem_range.1 hi)).1
    · obtain ⟨i, hi, rfl⟩ := List.mem_map.1 hs
      exact (hf i (List.mem_range.1 hi)).2.1
end
end Kiln

namespace Kiln
open Go Go.RowKit Go.Proofs Go.ChangeShapes Go.WideShapes Go.ChangeAt Go.WideMaps Go.WideElems Go.Proofs.YtlicomjfmdadoaaDoor

set_option maxRecDepth 100000 in
theorem readable4 {a b c d : TypeId} (h1 : Tryd.prog.readableRec a = true) (h2 : Tryd.prog.readableRec b = true) (h3 : Tryd.prog.readableRec c = true) (h4 : Tryd.prog.readableRec d = true) (g1 : decide (a < Tryd.prog.types.size) = true) (g2 : decide (b < Tryd.prog.types.size) = true) (g3 : decide (c < Tryd.prog.types.size) = true) (g4 : decide (d < Tryd.prog.types.size) = true) :
    ∀ t ∈ (#[a, b, c, d] : Array TypeId).toList, Tryd.prog.readableRec t = true ∧ t < Tryd.prog.types.size := by
  intro t ht
  have ht' : t = a ∨ t = b ∨ t = c ∨ t = d := by simpa using ht
  rcases ht' with rfl | rfl | rfl | rfl
  · exact ⟨h1, of_decide_eq_true g1⟩
  · exact ⟨h2, of_decide_eq_true g2⟩
  · exact ⟨h3, of_decide_eq_true g3⟩
  · exact ⟨h4, of_decide_eq_true g4⟩
end Kiln
