/- Walks: Reach of package collect. The library's sort at numbers; Reach of package collect, proved. -/
import Derived.Test.YtlicomjfmdadoaaDoorJb
import Derived.Test.YtlicomjfmdadoaaDoorIa
import Derived.Maps.OwnIn
import Derived.Laws.EntriesVeiled
import Derived.Sort.MapsRangeIn
import Derived.Sort.OwnSorted
import Derived.Test.YtlicomjfmdadoaaDoorShelfS
import Derived.Sort.OwnSortedInts
import Derived.Shelf.SortM.Plain
namespace Kiln
open Go Go.RowKit Go.Proofs Go.Shelf
attribute [local go_sem] Oper.semAt_some

/-- what a walk of Reach holds -/
structure RcAt (w : World) (sb tb mb fb : Nat) (v : Value) (s t : List Int) (wr : World) : Prop where
  vs : VsAt wr w.heap.size sb tb mb v s t
  fc : wr.cell? ⟨fb, 0, none⟩ = some (.func (.func 108) #[] #[.pointer (some ⟨sb, 0, none⟩), .pointer (some ⟨tb, 0, none⟩)])
  fr : Fr (fun _ => False) w wr
  vb : v.ownBlock ≠ some fb
  f1 : fb ≠ mb
  f2 : fb ≠ tb
  n1 : w.heap.size ≤ mb
  n2 : w.heap.size ≤ tb
theorem RcAt.other {w : World} {sb tb mb fb : Nat} {v : Value} {s t : List Int} {wr w' : World} (h : RcAt w sb tb mb fb v s t wr) (f : Fr (fun _ => False) wr w') : RcAt w sb tb mb fb v s t w' :=
  ⟨h.vs.fr f id id id (fun _ _ => id), f.cell h.fc id, h.fr.trans f, h.vb, h.f1, h.f2, h.n1, h.n2⟩
theorem RcAt.visit {w : World} {sb tb mb fb : Nat} {v v' : Value} {s t s' t' : List Int} {wr w' : World} (h : RcAt w sb tb mb fb v s t wr) (hv : VsAt w' w.heap.size sb tb mb v' s' t') (f : Fr (fun k => k = mb ∨ k = tb ∨ v.ownBlock = some k) wr w') (ho : v'.ownBlock = v.ownBlock ∨ ∀ g, v'.ownBlock = some g → wr.heap.size ≤ g) : RcAt w sb tb mb fb v' s' t' w' := by
  have hfb := World.block_lt_of_cell? _ _ h.fc
  refine ⟨hv, f.cell h.fc (fun e => ?_), h.fr.trans' f (fun _ _ => id) (fun q hq e => ?_), ?_, h.f1, h.f2, h.n1, h.n2⟩
  · rcases e with e | e | e
    · exact h.f1 e
    · exact h.f2 e
    · exact h.vb e
  · have h1 := h.n1
    have h2 := h.n2
    rcases e with e | e | e
    · omega
    · omega
    · have := (h.vs.row.lt q e).1; omega
  · rcases ho with e | e
    · rw [e]; exact h.vb
    · intro e2
      have := e _ e2
      have h3 : fb < wr.heap.size := hfb
      omega

/-- the last one is taken off -/
theorem RcAt.pop {w : World} {sb tb mb fb gv vc m : Nat} {s t0 : List Int} {x : Int} {wr : World} (h : RcAt w sb tb mb fb (.slice (some ⟨gv, 0, none⟩) (m + 1) vc) s (t0 ++ [x]) wr) (hm : m = t0.length) : RcAt w sb tb mb fb (.slice (some ⟨gv, 0, none⟩) m vc) s t0 (wr.setCell ⟨tb, 0, none⟩ (.slice (some ⟨gv, 0, none⟩) m vc)) ∧ Fr (fun k => k = tb) wr (wr.setCell ⟨tb, 0, none⟩ (.slice (some ⟨gv, 0, none⟩) m vc)) := by
  have f : Fr (fun k => k = tb) wr (wr.setCell ⟨tb, 0, none⟩ (.slice (some ⟨gv, 0, none⟩) m vc)) := (Fr.refl (fun k => k = tb) wr).setCell (a := ⟨tb, 0, none⟩) (fun _ => rfl) _
  have hv := h.vs
  have hrow := hv.row
  rw [List.length_append, List.length_singleton, ← hm] at hrow
  have hrow2 := owns_shorter hrow
  have htk : ((t0 ++ [x]).map (Value.int .i64)).take m = t0.map (.int .i64) := by
    rw [List.map_append, hm, List.take_left' (by simp)]
  rw [htk] at hrow2
  have hd5 : gv ≠ tb := fun e => hv.d5 (by rw [e]; rfl)
  refine ⟨⟨⟨f.row hv.sbc hv.d1, ?_, hv.map.fr f hv.d3, ?_, hv.d1, hv.d2, hv.d3, hv.d4, hv.d5, hv.d6⟩, f.cell h.fc h.f2, h.fr.trans' f (fun _ _ => id) (fun q hq e => by have := h.n2; omega), h.vb, h.f1, h.f2, h.n1, h.n2⟩, f⟩
  · exact (hv.tbc.set 0 _).congr fun j hj => by rw [if_pos (by omega)]
  · have := owns_fr hrow2 f (fun g hg e => hd5 (by cases hg; exact e))
    rw [← hm]; exact this

theorem RcAt.keep {w : World} {sb tb mb fb : Nat} {v : Value} {s t : List Int} {wr w' : World} (h : RcAt w sb tb mb fb v s t wr) {S : Nat → Prop} (f : Fr S wr w') {C : Nat} (hS : ∀ k, S k → C ≤ k ∧ ∃ o, wr.heap[k]? = some o ∧ o.isCells = false) (h1 : sb < C) (h2 : tb < C) (h3 : mb < C) (h4 : fb < C) : RcAt w sb tb mb fb v s t w' := by
  have n1 := h.n1
  refine ⟨h.vs.fr f (fun e => ?_) (fun e => ?_) (fun e => ?_) (fun g hg e => ?_), f.cell h.fc (fun e => ?_), h.fr.trans' f (fun _ _ => id) (fun q hq e => ?_), h.vb, h.f1, h.f2, h.n1, h.n2⟩
  · have := (hS _ e).1; omega
  · have := (hS _ e).1; omega
  · have := (hS _ e).1; omega
  · obtain ⟨_, o, ho, hc⟩ := hS _ e
    rw [own_cells h.vs.row hg ho] at hc; cases hc
  · have := (hS _ e).1
    have h5 : fb < C := h4
    have h6 : C ≤ fb := this
    omega
  · have := (hS _ e).1; omega
theorem visL_bounds {l : List Ob} {s t0 xs : List Int} (hn : s.Nodup) (hs : ∀ x, x ∈ s → hasO l x) (hx : ∀ x, x ∈ xs → hasO l x) (hlt : t0.length ≤ s.length) : (visL (s, t0) xs).1.length ≤ l.length ∧ (visL (s, t0) xs).2.length ≤ (visL (s, t0) xs).1.length := by
  have h1 := visL_nodup xs (s, t0) hn
  have h2 := visL_len xs (s, t0)
  have h3 : (visL (s, t0) xs).1.length ≤ (l.map fun o => (o.oop : Int)).length := nodup_le h1 fun y hy => by
    have : hasO l y := ((visL_mem xs (s, t0) y).1 hy).elim (hs y) (hx y)
    obtain ⟨o, ho, e⟩ := this
    exact List.mem_map.2 ⟨o, ho, e⟩
  rw [List.length_map] at h3
  dsimp only at h2
  omega

/-- the search at its start -/
theorem srch_start (l : List Ob) (rs : List Int) : Srch l rs (visL ([], []) (nms l rs)).1 (visL ([], []) (nms l rs)).2 := by
  have hs := fun y => visL_mem (nms l rs) ([], []) y
  have ht := fun y => visL_todo (nms l rs) ([], []) y
  refine ⟨visL_nodup _ _ List.nodup_nil, fun x hx => ?_, fun x hx => ?_, fun o w x ho h1 h2 hw hn => ?_⟩
  · rcases (hs x).1 hx with h | h
    · cases h
    · obtain ⟨w, hw, hn⟩ := mem_nms.1 h
      exact .root hw hn
  · rcases (ht x).1 hx with h | ⟨h, _⟩
    · cases h
    · exact (hs x).2 (.inr h)
  · exfalso
    rcases (hs _).1 h1 with h | h
    · cases h
    · exact h2 ((ht _).2 (.inr ⟨h, by simp⟩))
theorem vis_len {l : List Ob} (ws : List Int) : (visL ([], []) (nms l ws)).1.length ≤ l.length ∧ (visL ([], []) (nms l ws)).2.length = (visL ([], []) (nms l ws)).1.length := by
  have h1 := (srch_start l ws).len
  have h2 := visL_len (nms l ws) ([], [])
  simp only [List.length_nil] at h2
  omega

/-- the library's sort at numbers, as it is proved -/
def SortC : Prop := ∀ (w : World) (B g cap : Nat) (zs : List Int) (_ : w.ownsRow B 3 1 (.slice (some ⟨g, 0, none⟩) zs.length cap) zs.length (zs.map (.int .i64))) (_ : zs.length < 4611686018427387904),
  Calls Tryd.prog 111 #[.slice (some ⟨g, 0, none⟩) zs.length cap] w fun e w' => e = .returned (.tuple #[]) ∧ w'.ownsRow B 3 1 (.slice (some ⟨g, 0, none⟩) zs.length cap) zs.length ((zs.mergeSort fun x y => decide (x ≤ y)).map (.int .i64)) ∧ Fr (fun k => k = g) w w'
/-- what Reach tells -/
def ReachPost (l : List Ob) (rs : List Int) (w : World) (e : Ending) (w' : World) : Prop :=
  ∃ (g cap : Nat) (out : List Int), e = .returned (.tuple #[.slice (some ⟨g, 0, none⟩) out.length cap, .int .i64 0]) ∧ ReachL l rs out ∧ w'.ownsRow w.heap.size 3 1 (.slice (some ⟨g, 0, none⟩) out.length cap) out.length (out.map (.int .i64)) ∧ Fr (fun _ => False) w w'
theorem sorted_lt {xs : List Int} (hn : xs.Nodup) : (xs.mergeSort fun x y => decide (x ≤ y)).Pairwise (· < ·) ∧ (∀ x, x ∈ (xs.mergeSort fun x y => decide (x ≤ y)) ↔ x ∈ xs) ∧ (xs.mergeSort fun x y => decide (x ≤ y)).length = xs.length := by
  have h1 := List.pairwise_mergeSort (le := fun x y : Int => decide (x ≤ y)) (fun a b c h1 h2 => by simp only [decide_eq_true_eq] at *; omega) (fun a b => by simp only [Bool.or_eq_true, decide_eq_true_eq]; omega) xs
  have hp := List.mergeSort_perm xs (fun x y : Int => decide (x ≤ y))
  have h2 : (xs.mergeSort fun x y => decide (x ≤ y)).Nodup := hp.nodup_iff.2 hn
  refine ⟨?_, fun x => hp.mem_iff, hp.length_eq⟩
  have h3 := h1.and h2
  exact h3.imp fun {a b} h => by
    have h4 := h.1
    simp only [decide_eq_true_eq] at h4
    have h5 : a ≠ b := h.2
    omega
/-- the keys that have come -/
def CollI (D : DataW Unit) (left : Lit → Bool) (xs : List Int) : Prop := xs.Nodup ∧ ∀ z, z ∈ xs ↔ ((Lit.int .i64 z).wf = true ∧ Maps.has D (.int .i64 z) = true ∧ left (.int .i64 z) = false)
theorem CollI.start (D : DataW Unit) : CollI D (Maps.has D) [] := ⟨List.nodup_nil, fun z => by cases Maps.has D (.int .i64 z) <;> simp⟩
theorem CollI.step {D : DataW Unit} {left : Lit → Bool} {xs : List Int} (h : CollI D left xs) {x : Int} {y : DataW Unit} (hw : (Lit.int .i64 x).wf = true) (hlk : left (.int .i64 x) = true) (hat : ∀ zd, D.atKey (.int .i64 x) zd = y) : CollI D (fun z => left z && !z.sameKey (.int .i64 x)) (xs ++ [x]) := by
  have hhas : Maps.has D (.int .i64 x) = true := Maps.has_true_of_atKey hat
  have hnew : x ∉ xs := fun hx => by have := ((h.2 x).1 hx).2.2; rw [hlk] at this; cases this
  refine ⟨nodup_snoc h.1 hnew, fun z => ?_⟩
  by_cases hz : z = x
  · subst hz; simp [hhas, hw, Lit.sameKey]
  · simp [h.2 z, hz, Lit.sameKey]

set_option maxRecDepth 100000 in
set_option maxHeartbeats 1000000 in
theorem reach_walk (hsort : SortC) (H : Hc) (w : World) (hA : HAt w H) (l : List Ob) (hS : Sim H l) (ra : Option Addr) (rb ro rc : Nat) (rs : List Int) (hr : Ints w ra rb ro rs) (hn : rs.length ≤ 17592186044416) :
    Calls Tryd.prog 49 #[H.ptr, .slice ra rs.length rc] w (ReachPost l rs w) := by
  obtain ⟨p, hp⟩ : ∃ p, p = H.b := ⟨_, rfl⟩
  have hpp : H.ptr = .pointer (some ⟨p, 0, none⟩) := by unfold Hc.ptr; rw [hp]
  obtain ⟨n, hnn⟩ : ∃ n, n = rs.length := ⟨_, rfl⟩
  rw [hpp, ← hnn]
  rw [← hnn] at hn
  have HH := Lib.hid (And.intro hA (And.intro hS (And.intro hr (And.intro hpp hnn))))
  clear hA hS hr hpp hp hnn
  have hmm := @run_makeMap Tryd.prog
  refine (callsIn_wide (n := 3)).1 ?_
  refine callsIn_of_wp_marks Tryd.func49 rfl trivial ?_ rfl
  simp only [Tryd.ntmps49, List.size_toArray, List.length_cons, List.length_nil, Nat.reduceAdd, Nat.reduceSub, Array.replicate_succ, Array.replicate_zero, List.push_toArray, List.append_toArray, List.nil_append, List.cons_append]
  gi_wp2
  obtain ⟨mb, hmb⟩ : ∃ mb, mb = w.heap.size := ⟨_, rfl⟩
  obtain ⟨sb, hsb⟩ : ∃ sb, sb = w.heap.size + 1 := ⟨_, rfl⟩
  obtain ⟨tb, htb⟩ : ∃ tb, tb = w.heap.size + 1 + 1 := ⟨_, rfl⟩
  obtain ⟨fb, hfb⟩ : ∃ fb, fb = w.heap.size + 1 + 1 + 1 := ⟨_, rfl⟩
  rw [← hfb, ← htb, ← hsb, ← hmb]
  obtain ⟨W0, hW0⟩ : ∃ W0, W0 = (((w.alloc (.map #[] 0)).alloc (.cells #[.map (some mb)] 149)).alloc (.cells #[.slice none 0 0] 41)).alloc (.cells #[.func (.func 108) #[] #[.pointer (some ⟨sb, 0, none⟩), .pointer (some ⟨tb, 0, none⟩)]] 140) := ⟨_, rfl⟩
  rw [← hW0]
  have hrc : RcAt w sb tb mb fb (.slice none 0 0) [] [] W0 := by
    obtain ⟨X1, hX1⟩ : ∃ X, X = w.alloc (.map #[] 0) := ⟨_, rfl⟩
    obtain ⟨X2, hX2⟩ : ∃ X, X = X1.alloc (.cells #[.map (some mb)] 149) := ⟨_, rfl⟩
    obtain ⟨X3, hX3⟩ : ∃ X, X = X2.alloc (.cells #[.slice none 0 0] 41) := ⟨_, rfl⟩
    rw [← hX1, ← hX2, ← hX3] at hW0
    have s1 : X1.heap.size = w.heap.size + 1 := by rw [hX1]; simp
    have s2 : X2.heap.size = w.heap.size + 1 + 1 := by rw [hX2, ← s1]; simp
    have s3 : X3.heap.size = w.heap.size + 1 + 1 + 1 := by rw [hX3, ← s2]; simp
    have F1 : Fr (fun _ => False) w X1 := by rw [hX1]; exact (Fr.refl _ _).alloc _
    have F2 : Fr (fun _ => False) X1 X2 := by rw [hX2]; exact (Fr.refl _ _).alloc _
    have F3 : Fr (fun _ => False) X2 X3 := by rw [hX3]; exact (Fr.refl _ _).alloc _
    have F4 : Fr (fun _ => False) X3 W0 := by rw [hW0]; exact (Fr.refl _ _).alloc _
    have hm := MapI.made w Tryd.prog 3 3
    rw [← hX1, ← hmb] at hm
    have hse : seenF [] = fun _ => none := by funext x; unfold seenF; rw [if_neg (by simp)]
    have one : ∀ (u : Value), ∀ i, i < (#[u] : Array Value).size → (#[u] : Array Value)[i]? = some u := fun u i hi => by
      have hi1 : i < 1 := hi
      obtain rfl : i = 0 := by omega
      rfl
    have r2 := World.rowIs_alloc X1 #[.map (some mb)] 149 (fun _ => .map (some mb)) (one _)
    have r3 := World.rowIs_alloc X2 #[.slice none 0 0] 41 (fun _ => .slice none 0 0) (one _)
    rw [← hX2, s1, ← hsb] at r2
    rw [← hX3, s2, ← htb] at r3
    refine ⟨⟨(F3.trans F4).row r2 id, F4.row r3 id, ?_, World.ownsRow_nil _ _ _ _, by omega, by omega, by omega, (fun h => by cases h), (fun h => by cases h), (fun h => by cases h)⟩, ?_, ((F1.trans F2).trans F3).trans F4, (fun h => by cases h), by omega, by omega, by omega, by omega⟩
    · rw [hse]
      exact hm.fr ((F2.trans F3).trans F4) id
    · rw [hW0, hfb, ← s3]
      exact new_cell _ _ _ _ _ rfl
  have HRC := Lib.hid hrc
  clear hrc hW0 hmb hsb htb hfb hmm
  gi_loopw [23] (fun i wr => ∃ (k : Nat) (v : Value), k ≤ n ∧ i = .int .i64 k ∧ RcAt w sb tb mb fb v (visL ([], []) (nms l (rs.take k))).1 (visL ([], []) (nms l (rs.take k))).2 wr) (fun i _ => n - (RowKit.intOf i).toNat)
  case atStart => exact ⟨0, _, Nat.zero_le _, rfl, HRC.out⟩
  case round =>
    obtain ⟨k, v, hk, rfl, hR⟩ := hrel
    by_cases hkn : k < n
    · obtain ⟨hA, hS, hr, hpp, hnn⟩ := HH.out
      have hkl : k < rs.length := by rw [← hnn]; exact hkn
      have hAr := hA.fr hR.fr (fun _ _ => id) id
      have hrr := hr.fr hR.fr (fun _ => id)
      obtain rfl := hrr.at0 (by omega)
      have ck := hrr.cell k hkl
      obtain ⟨x, hx⟩ : ∃ x, x = rs.getD k 0 := ⟨_, rfl⟩
      rw [← hx] at ck
      have gnm := named_calls H wr hAr l hS.body x
      rw [hpp] at gnm
      have htk : rs.take (k + 1) = rs.take k ++ [x] := by
        rw [List.take_succ_eq_append_getElem hkl, hx, List.getD_eq_getElem?_getD, List.getElem?_eq_getElem hkl]; rfl
      have hlen := vis_len (l := l) (rs.take k)
      have hl0 := hS.len_lt hA.T_ge
      have hT := hA.T_le
      have GNM := Lib.hid gnm
      have fc := hR.fc
      have lfb : fb < wr.heap.size := World.block_lt_of_cell? _ _ fc
      have HK := Lib.hid (And.intro hR (And.intro htk hkl))
      obtain ⟨s, hs⟩ : ∃ s, s = (visL ([], []) (nms l (rs.take k))).1 := ⟨_, rfl⟩
      obtain ⟨t, ht⟩ : ∃ t, t = (visL ([], []) (nms l (rs.take k))).2 := ⟨_, rfl⟩
      cases hb : nmB l x with
      | false =>
        have HB := Lib.hid hb
        clear hA hS hr hpp hnn hkl hAr hrr gnm htk hlen hl0 hT hR hx hs ht hb
        gi_wp2_with (refine ⟨trivial, ?_⟩; gi_at_call 109; refine (callsIn_wide.2 GNM.out).mono ?_; rintro e w' ⟨⟨v2, rfl, hv2⟩, rfl⟩; rw [HB.out])
        go_roundw
        case rel => exact ⟨k + 1, v, by omega, by go_num, by rw [HK.out.2.1, nms_append, nms_cons_no HB.out]; rw [show nms l [] = [] from rfl, List.append_nil]; exact HK.out.1⟩
        case measure => simp [RowKit.intOf]; omega
      | true =>
        have h4 := kind3 (nmB_iff.1 hb).kind
        have gv := visit_calls wr w.heap.size sb tb mb v s t (by rw [hs, ht]; exact hR.vs) hR.fr.size (x / 4) ⟨by omega, by omega⟩ (by rw [hs]; omega) (by rw [ht]; omega)
        obtain ⟨y, hy⟩ : ∃ y, y = x / 4 := ⟨_, rfl⟩
        rw [← hy] at gv
        have GV := Lib.hid gv
        have HB := Lib.hid (And.intro hb (And.intro hy (And.intro hs ht)))
        clear hA hS hr hpp hnn hkl hAr hrr gnm htk hlen hl0 hT hR hx hs ht gv h4 hy hb
        gi_wp2_with (first | (refine ⟨trivial, ?_⟩; gi_at_call 109; refine (callsIn_wide.2 GNM.out).mono ?_; rintro e w' ⟨⟨v2, rfl, hv2⟩, rfl⟩; rw [HB.out.1]; obtain rfl := (hv2 HB.out.1).trans HB.out.2.1.symm) | (refine ⟨trivial, ?_⟩; gi_at_call 108; refine (callsIn_wide.2 GV.out).mono ?_; rintro e w3 ⟨rfl, v3, hv3, F3, ho3⟩; have H3 := Lib.hid (And.intro hv3 (And.intro F3 ho3)); clear hv3 F3 ho3))
        refine ⟨⟨k + 1, v3, by omega, by go_num, ?_⟩, by simp [RowKit.intOf]; omega⟩
        obtain ⟨hb, hy, hs, ht⟩ := HB.out
        rw [HK.out.2.1, nms_append, nms_cons_yes hb, show nms l [] = [] from rfl, visL_snoc, ← hy, ← hs, ← ht]
        have hR := HK.out.1
        rw [← hs, ← ht] at hR
        exact hR.visit H3.out.1 H3.out.2.1 H3.out.2.2
    · obtain rfl : k = n := by omega
      have hsr : Srch l rs (visL ([], []) (nms l (rs.take k))).1 (visL ([], []) (nms l (rs.take k))).2 := by
        rw [HH.out.2.2.2.2, List.take_length]; exact srch_start l rs
      obtain ⟨s, hs⟩ : ∃ s, s = (visL ([], []) (nms l (rs.take k))).1 := ⟨_, rfl⟩
      obtain ⟨t, ht⟩ : ∃ t, t = (visL ([], []) (nms l (rs.take k))).2 := ⟨_, rfl⟩
      have hlt : t.length ≤ s.length := by rw [hs, ht]; exact Nat.le_of_eq (vis_len _).2
      have hroot : ∀ x, x ∈ nms l rs → x ∈ s := by
        intro x hx
        rw [hs, HH.out.2.2.2.2, List.take_length]
        exact (visL_mem _ _ x).2 (.inr hx)
      rw [← hs, ← ht] at hR hsr
      have HL2 := Lib.hid (And.intro hR (And.intro hsr (And.intro hlt hroot)))
      clear hR hsr hs ht hlt hroot HRC
      gi_wp2
      refine wpIn_loop_ghost (fun (g : List Int × List Int) a' wr' => ∃ (u13 u14 u38 u39 u40 u41 u42 u43 u44 u45 u46 u47 u48 u49 u50 u51 u52 u53 u54 u55 u56 u57 u58 : Value) (Ds : List Nat) (v : Value), RcAt w sb tb mb fb v g.1 g.2 wr' ∧ Srch l rs g.1 g.2 ∧ g.2.length ≤ g.1.length ∧ (∀ x, x ∈ nms l rs → x ∈ g.1) ∧ MkAt w.heap.size Ds wr' ∧
        a' = { tmps := #[.pointer (some ⟨p, 0, none⟩), .slice ra k rc, undef, undef, .slice none 0 0, .int .i64 0, .pointer (some ⟨sb, 0, none⟩), .pointer (some ⟨tb, 0, none⟩), .pointer (some ⟨fb, 0, none⟩), undef, u10, u11, u12, u13, u14, undef, undef, .pointer (some ⟨p, 0, none⟩), .bool false, .map (some mb), .func (.func 108) #[] #[.pointer (some ⟨sb, 0, none⟩), .pointer (some ⟨tb, 0, none⟩)], .slice ra k rc, .int .i64 k, .int .i64 k, .bool false, u25, u26, u27, u28, u29, u30, u31, u32, u33, u34, u35, u36, u37, u38, u39, u40, u41, u42, u43, u44, u45, u46, u47, u48, u49, u50, u51, u52, u53, u54, u55, u56, u57, u58, undef, undef, undef, undef, undef, undef, undef, undef, undef, undef, undef, undef, undef, undef, undef, undef], defers := Ds.map mkD }) (fun g => (l.length - g.1.length) + g.2.length) (s, t) ⟨_, _, _, _, _, _, _, _, _, _, _, _, _, _, _, _, _, _, _, _, _, _, _, [], v, HL2.out.1, HL2.out.2.1, HL2.out.2.2.1, HL2.out.2.2.2, MkAt.nil _ _, rfl⟩ ?_
      clear HL2 v s t
      rintro ⟨s, t⟩ a' wq ⟨u13, u14, u38, u39, u40, u41, u42, u43, u44, u45, u46, u47, u48, u49, u50, u51, u52, u53, u54, u55, u56, u57, u58, Ds, v, hR, hsr, hlt, hroot, hM, rfl⟩
      dsimp only at hR hsr hlt hroot ⊢
      have c2 : wq.cell? ⟨tb, 0, none⟩ = some v := hR.vs.tbc.cell (i := 0) (by omega)
      have ltb : tb < wq.heap.size := World.block_lt_of_cell? _ _ c2
      have f2 := hR.vs.tbc.frozen 0
      rcases List.eq_nil_or_concat t with rfl | ⟨t0, x, rfl⟩
      · obtain ⟨va, vc, rfl⟩ : ∃ va vc, v = .slice va 0 vc := hR.vs.form
        obtain ⟨D, hown, htidy, hDs, hhas⟩ := hR.vs.map
        have hsl := hsr.len
        have hl0 := HH.out.2.1.len_lt HH.out.1.T_ge
        have hT := HH.out.1.T_le
        have hsz : Maps.size D ≤ 65537 := by omega
        obtain ⟨N, hN⟩ : ∃ N, N = Maps.size D := ⟨_, rfl⟩
        rw [← hN] at hsz
        have hmem : ∀ x, ((Lit.int .i64 x).wf = true ∧ Maps.has D (.int .i64 x) = true) ↔ Led l rs x := by
          intro x
          rw [← hsr.fin hroot x]
          constructor
          · rintro ⟨hw, hh⟩
            have h64 : I64 x := by
              have e1 : IntKind.i64.min = -9223372036854775808 := by decide
              have e2 : IntKind.i64.max = 9223372036854775807 := by decide
              simp [Lit.wf, e1, e2] at hw
              exact ⟨by omega, by omega⟩
            rw [(hhas x h64).1] at hh
            unfold seenF at hh
            split at hh
            · next h => exact h
            · cases hh
          · intro hx
            obtain ⟨q, hq, e⟩ := (hsr.led x hx).has
            have := (HH.out.2.1.body.each q hq).o2
            have h64 : I64 x := by constructor <;> omega
            refine ⟨h64.wf, ?_⟩
            rw [(hhas x h64).1]
            unfold seenF
            rw [if_pos hx]; rfl
        have c1 : wq.cell? ⟨sb, 0, none⟩ = some (.map (some mb)) := hR.vs.sbc.cell (i := 0) (by omega)
        have lsb : sb < wq.heap.size := World.block_lt_of_cell? _ _ c1
        obtain ⟨i0, hi, hz0, hz1, hz2⟩ := info_parts Tryd.infoInt
        have HI := Lib.hid (And.intro hi (And.intro hz0 (And.intro hz1 hz2)))
        have HO := Lib.hid (And.intro hown (And.intro hmem (And.intro hM (And.intro hR.fr (And.intro hN (And.intro hR.vs.map.lt hR.n1))))))
        have hmm := @run_makeMap Tryd.prog
        clear hown htidy hDs hhas hsl hl0 hT hmem hi hz0 hz1 hz2 hN hR hsr hlt hroot hM f2 hmm
        gi_wp2_with (first
          | (gi_at_len; refine wpListIn_len_own _ rfl _ 149 rfl 3 3 Tryd.underlying149 _ mb _ D rfl HO.out.1 ?_; rw [← HO.out.2.2.2.2.1])
          | (gi_at_make; refine wpListIn_make_own _ rfl _ _ 41 rfl wq.heap.size 3 i0 (.int .i64 0) 1 Tryd.underlying41 HI.out.1 HI.out.2.1 HI.out.2.2.1 _ _ _ N rfl rfl rfl (by rw [HI.out.2.2.2]; omega) (by unfold maxLen; omega) (Nat.le_refl _) ?_; intro w1 hrow1 hg1; have H1 := Lib.hid (And.intro hrow1 hg1); have c16 := (Fr.ofGrown hg1).cell c1 (fun e => by cases e); have lsb1 : sb < w1.heap.size := World.block_lt_of_cell? _ _ c16; clear hrow1 hg1)
          | (gi_at_range; refine wpListIn_range_own _ rfl _ 149 rfl 3 3 (Maps.int_keyed Tryd.underlying3) Tryd.underlying149 _ mb _ D rfl (HO.out.1.kept H1.out.2 (by simp)) ?_; intro w0 hrg0 hg0 hs0; have H0 := Lib.hid (And.intro hrg0 (And.intro hg0 hs0)); clear hrg0 hg0 hs0))
        go_frame
        clear c16 lsb1 c1 lsb c2 ltb
        gi_loopw [15] (fun v wr => ∃ (left : Lit → Bool) (cnt : Nat) (xs : List Int), wr.ranges Tryd.prog 3 (plainElem Tryd.prog 3) mb w1.heap.size s.length D left cnt ∧ xs.length + cnt ≤ N ∧
            wr.ownsRow wq.heap.size 3 1 v xs.length (xs.map (.int .i64)) ∧ v ≠ .slice none 0 0 ∧ CollI D left xs ∧ MkAt w.heap.size Ds wr ∧ Fr (fun _ => False) wq wr) (fun _ wr => wr.rangeLeft mb w1.heap.size)
        case atStart =>
          obtain ⟨hrow1, hg1⟩ := H1.out
          obtain ⟨hrg0, hg0, hs0⟩ := H0.out
          have f1 : Fr (fun _ => False) wq w1 := (Fr.refl _ _).grown hg1 (fun q hq _ => by cases hq)
          have f0 : Fr (fun _ => False) w1 w0 := (Fr.refl _ _).grown hg0 (fun q hq _ => by cases hq)
          exact ⟨_, _, [], hrg0, by rw [HO.out.2.2.2.2.1]; simp, hrow1.kept hg0 (Or.inr (by simp [Value.ownBlock])), by simp, CollI.start D, (HO.out.2.2.1.fr f1 (fun _ _ => id)).fr f0 (fun _ _ => id), f1.trans f0⟩
        case round =>
          obtain ⟨left, cnt, xs, hrg, hcs, hrow, hnn, hC, hMk, hF⟩ := hrel
          obtain ⟨gx, vc2, rfl⟩ : ∃ g vc, u15 = .slice (some ⟨g, 0, none⟩) xs.length vc := by
            rcases hrow.2 with ⟨h1, h2⟩ | ⟨g, cap, cur, h1, _⟩
            · exact absurd h1 hnn
            · exact ⟨_, cap, h1⟩
          have HR := Lib.hid (And.intro hrg (And.intro hrow (And.intro hC (And.intro hMk hF))))
          obtain ⟨C, hCl⟩ : ∃ C, C = xs.length := ⟨_, rfl⟩
          have HC := Lib.hid hCl
          rw [← hCl] at hcs ⊢
          clear hrg hrow hC hMk hF hnn hCl
          gi_wp2_with (gi_at_next; refine wpListIn_next_ranges_ii _ rfl _ rfl 3 3 .i64 .i64 (Maps.int_keyed Tryd.underlying3) Tryd.underlying3 Tryd.underlying3 mb w1.heap.size s.length D left cnt rfl HR.out.1 ?_ ?_)
          · intro hc0 hl0
            have HL0 := Lib.hid (And.intro hc0 hl0)
            clear hc0 hl0
            have hnd := HR.out.2.2.1.1
            have hst := sorted_lt hnd
            have gs := hsort wr wq.heap.size gx vc2 xs HR.out.2.1 (by rw [← HC.out]; omega)
            rw [← HC.out] at gs
            have GS := Lib.hid gs
            have HST := Lib.hid hst
            clear gs hst hnd
            gi_wp2_with (refine ⟨trivial, ?_⟩; gi_at_call 111; refine (callsIn_wide.2 GS.out).mono ?_; rintro e w5 ⟨rfl, hown5, F5⟩; have H5 := Lib.hid (And.intro hown5 F5); clear hown5 F5)
            obtain ⟨hown5, F5⟩ := H5.out
            obtain ⟨_, hrow, hC, hMk, hF⟩ := HR.out
            have hM5 := hMk.fr F5 (fun D' hD (e : D' = gx) => mark_ne_own hrow (hMk.at_ D' hD) (by rw [e]; rfl))
            have hgx := (hrow.lt gx rfl).1
            have hsw := HO.out.2.2.2.1.size
            refine leaves_all Ds w5 hM5.nodup hM5.at_ fun W' f => ⟨_, results_tmp2 rfl _ _ _, gx, vc2, (xs.mergeSort fun x y => decide (x ≤ y)), ?_, ⟨HST.out.1, fun x => ?_⟩, ?_, ?_⟩
            · rw [HST.out.2.2, ← HC.out]; rfl
            · rw [HST.out.2.1 x, hC.2 x, ← HO.out.2.1 x]
              exact ⟨fun h => ⟨h.1, h.2.1⟩, fun h => ⟨h.1, h.2, HL0.out.2 _⟩⟩
            · rw [HST.out.2.2, ← HC.out]
              exact owns_base (owns_fr hown5 f (fun g hg hD => mark_ne_own hown5 (hM5.at_ g hD) hg)) hsw
            · exact ((HO.out.2.2.2.1.trans hF).trans' F5 (fun _ _ => id) (fun q hq (e : q = gx) => by omega)).trans' f (fun _ _ => id) (fun q hq e => by have := hM5.ge q e; omega)
          · intro x c w2 cnt2 hwx hwc hlk hat hrg2 hlt hg2 hs2 hen
            obtain ⟨hrg, hrow, hC, hMk, hF⟩ := HR.out
            have hne := row_ne_iter hrow hrg
            have hrow2 := hrow.kept hg2 (Or.inr hne.symm)
            have f2 := Fr.ofGrown hg2
            have hM2 := hMk.fr f2 (fun D' hD e => by
              obtain ⟨o, ho, hw⟩ := hrg.iter_walk
              have e2 : w1.heap.size = D' := Option.some.inj e
              rw [e2, hMk.at_ D' hD] at ho
              cases ho; cases hw)
            have hs1 := H1.out.2.size
            have hF2 : Fr (fun _ => False) wq w2 := hF.trans' f2 (fun _ _ => id) (fun q hq e => by have e2 : w1.heap.size = q := Option.some.inj e; omega)
            have hbs : wq.heap.size ≤ (w2.alloc (.cells #[.int .i64 x] 3)).heap.size := by
              show _ ≤ (w2.heap.push _).size
              rw [Array.size_push]; have := hF2.size; omega
            rw [← HC.out] at hrow2
            have H2 := Lib.hid (And.intro hrow2 (And.intro hM2 (And.intro hF2 (And.intro hC (And.intro hwx (And.intro hlk (And.intro hat (And.intro hrg2 (And.intro hlt (And.intro hrg hbs))))))))))
            clear hs2 hrow2 hM2 hF2 hC hwx hlk hat hrg2 hlt hrg hrow hMk hF hne f2 hs1 hwc hg2 hbs
            gi_wp2_with (gi_at_builtin; refine wpListIn_append_own _ rfl _ _ 41 rfl wq.heap.size 3 i0 (.int .i64 0) 1 8 Tryd.underlying41 HI.out.1 HI.out.2.1 HI.out.2.2.1 HI.out.2.2.2 rfl (by decide) _ C _ rfl (H2.out.1.alloc _) ⟨w2.heap.size, 0, none⟩ 1 1 [.int .i64 x] rfl rfl (cells_new w2 [.int .i64 x] _ _ rfl) (by intro u hu; rw [List.mem_singleton.1 hu]; rfl) (by unfold maxLen; omega) (by omega) H2.out.2.2.2.2.2.2.2.2.2.2 ?_; intro v' w3 hown' hg3 hnil3; have H3 := Lib.hid (And.intro hown' (And.intro hg3 hnil3)); clear hown' hg3 hnil3; go_frame)
            obtain ⟨hrow2, hM2, hF2, hC, hwx, hlk, hat, hrg2, hlt, hrg, hbs⟩ := H2.out
            obtain ⟨hown', hg3, hnil3⟩ := H3.out
            have hrg3 := (hrg2.alloc _).kept hg3 (row_ne_low hrow2 HO.out.2.2.2.2.2.1) (row_ne_iter hrow2 hrg2)
            go_roundw
            case rel =>
              refine ⟨_, cnt2, xs ++ [x], hrg3, by rw [List.length_append, List.length_singleton, ← HC.out]; omega, ?_, fun hv' => by have := (hnil3.1 hv').2; omega, hC.step hwx hlk hat, ?_, ?_⟩
              · rw [List.length_append, List.length_singleton, List.map_append, ← HC.out]
                exact hown'
              · exact (hM2.fr ((Fr.refl _ _).alloc _) (fun _ _ => id)).fr (Fr.ofGrown hg3) (fun D' hD e => mark_ne_own hrow2 (hM2.at_ D' hD) e)
              · exact (hF2.alloc _).trans' (Fr.ofGrown hg3) (fun _ _ => id) (fun q hq e => by have := (hrow2.lt q e).1; omega)
            case measure => rw [hrg3.left_eq, hrg.left_eq]; exact hlt
      · rw [List.concat_eq_append] at hR hsr hlt ⊢
        obtain ⟨m, hm⟩ : ∃ m, m = t0.length := ⟨_, rfl⟩
        obtain ⟨gv, vc, rfl⟩ : ∃ gv vc, v = .slice (some ⟨gv, 0, none⟩) (m + 1) vc := by
          rcases hR.vs.row.2 with ⟨_, h2⟩ | ⟨g, cap, cur, h1, _⟩
          · simp at h2
          · exact ⟨g, cap, by rw [h1, List.length_append, List.length_singleton, ← hm]⟩
        have cx : wq.cell? ⟨gv, m, none⟩ = some (.int .i64 x) := by
          have hrow := hR.vs.row
          rw [List.length_append, List.length_singleton, ← hm] at hrow
          have h := hrow.cellAt m (by omega)
          rw [List.map_append, List.getElem?_append_right (by rw [List.length_map]; omega), List.length_map, ← hm, Nat.sub_self] at h
          exact h
        have hcap : m ≤ vc := by
          have hrow := hR.vs.row
          rw [List.length_append, List.length_singleton, ← hm] at hrow
          rcases hrow.2 with ⟨h2, _⟩ | ⟨g, cap, cur, h1, _, _, h5, _⟩
          · cases h2
          · cases h1; omega
        have hsl := hsr.len
        have hl0 := HH.out.2.1.len_lt HH.out.1.T_ge
        have hT := HH.out.1.T_le
        have hm6 : m ≤ 65537 := by rw [List.length_append, List.length_singleton] at hlt; omega
        have hpop := hR.pop hm
        obtain ⟨o, ho, hox⟩ := (hsr.led x (hsr.sub x (by simp))).has
        have gfr := fun W => from_calls W (some ⟨p, 0, none⟩) x
        have GFR := Lib.hid gfr
        have q1 : IntKind.i64.wrap (((m : Int) + 1) - 1) = m := by rw [IntKind.wrap_i64]; omega
        have HP := Lib.hid (And.intro hpop (And.intro hR (And.intro hsr (And.intro hlt (And.intro hroot (And.intro hM (And.intro hm (And.intro ho (And.intro hox (And.intro hsl (And.intro hl0 hT)))))))))))
        clear hpop hR hsr hlt hroot hM hm ho hox gfr hsl hl0 hT
        gi_wp2_with (refine ⟨trivial, ?_⟩; gi_at_call 110; refine (callsIn_wide.2 (GFR.out _)).mono ?_; rintro e w' ⟨rfl, rfl⟩)
        obtain ⟨hpop, hR, hsr, hlt, hroot, hM, hm, ho, hox, hsl, hl0, hT⟩ := HP.out
        obtain ⟨W2, hW2⟩ : ∃ W2, W2 = wq.setCell ⟨tb, 0, none⟩ (.slice (some ⟨gv, 0, none⟩) m vc) := ⟨_, rfl⟩
        obtain ⟨b1, hb1⟩ : ∃ b1, b1 = wq.heap.size := ⟨_, rfl⟩
        have s2 : W2.heap.size = b1 := by rw [hW2, hb1]; simp
        rw [← hW2] at hpop
        obtain ⟨Wl, hWl⟩ : ∃ Wl, Wl = (W2.alloc (.cells #[.pointer (some ⟨p, 0, none⟩)] 27)).alloc (.cells #[.int .i64 x] 3) := ⟨_, rfl⟩
        rw [← hW2, ← hWl, ← hb1]
        have F2 : Fr (fun _ => False) W2 Wl := by rw [hWl]; exact ((Fr.refl _ _).alloc _).alloc _
        have sl : Wl.heap.size = b1 + 2 := by rw [hWl, ← s2]; simp
        have hRl := hpop.1.other F2
        have e1 : Wl.cell? ⟨b1, 0, none⟩ = some (.pointer (some ⟨p, 0, none⟩)) := by
          rw [hWl, ← s2]
          exact ((Fr.refl (fun _ => False) _).alloc _).cell (new_cell _ _ _ _ _ rfl) id
        have e2 : Wl.cell? ⟨b1 + 1, 0, none⟩ = some (.int .i64 x) := by
          have := new_cell (W2.alloc (.cells #[.pointer (some ⟨p, 0, none⟩)] 27)) #[.int .i64 x] 3 0 _ rfl
          rw [← hWl, show (W2.alloc (.cells #[.pointer (some ⟨p, 0, none⟩)] 27)).heap.size = b1 + 1 by rw [← s2]; simp] at this
          exact this
        have hMl : MkAt w.heap.size Ds Wl := (hM.fr hpop.2 (fun D hD e => mark_ne_row hR.vs.tbc (hM.at_ D hD) e)).fr F2 (fun _ _ => id)
        have lgv : gv < b1 := by rw [← s2]; exact (hpop.1.vs.row.lt gv rfl).2
        have lsb : sb < b1 := by rw [← s2]; exact hpop.1.vs.sbc.lt
        have ltb2 : tb < b1 := by rw [← s2]; exact hpop.1.vs.tbc.lt
        have lmb : mb < b1 := by rw [← s2]; exact hpop.1.vs.map.lt
        have lfb : fb < b1 := by rw [← s2]; exact World.block_lt_of_cell? _ _ hpop.1.fc
        have hA := HH.out.1
        have hAl := hA.fr hRl.fr (fun _ _ => id) id
        have hs8 := from_stops 2 H l HH.out.2.1 o ho b1 (b1 + 1) w.heap.size (fun k hk => hA.lt hk) hA.kd.lt Wl hAl (by rw [HH.out.2.2.2.1]; exact e1) (by rw [hox]; exact e2)
        have hhs : ∀ x, x ∈ s → hasO l x := fun x hx => (hsr.led x hx).has
        have hlt0 : t0.length ≤ s.length := by rw [List.length_append] at hlt; omega
        have HX := Lib.hid (And.intro hMl (And.intro lgv (And.intro lsb (And.intro ltb2 (And.intro lmb (And.intro lfb (And.intro hhs (And.intro hlt0 (And.intro sl hRl)))))))))
        refine wpIn_rangeFunc_ownG (w0 := Wl) rfl (by decide) (gf := 127) (lb := #[.pointer (some ⟨b1, 0, none⟩), .pointer (some ⟨b1 + 1, 0, none⟩)]) rfl trivial (enters_of Tryd.func127 (by kernel_rfl) rfl) hs8 (fun h k => h.trans k) ?hKb (Below.refl _ _) (fun _ => rfl)
          (fun (pre : List (OopX l)) W => ∃ v', RcAt w sb tb mb fb v' (visL (s, t0) (pre.map (·.1))).1 (visL (s, t0) (pre.map (·.1))).2 W ∧ MkAt w.heap.size Ds W ∧ v'.ownBlock ≠ some b1 ∧ v'.ownBlock ≠ some (b1 + 1) ∧ Wl.heap.size ≤ W.heap.size)
          (fun _ _ _ => False) ?hI (fun _ _ _ _ _ h _ _ => h) ?h0
          (fun y => { tmps := #[.pointer (some ⟨p, 0, none⟩), .slice ra k rc, undef, undef, .slice none 0 0, .int .i64 0, .pointer (some ⟨sb, 0, none⟩), .pointer (some ⟨tb, 0, none⟩), .pointer (some ⟨fb, 0, none⟩), undef, u10, u11, u12, .int .i64 x, .int .i64 y.1, undef, undef, .pointer (some ⟨p, 0, none⟩), .bool false, .map (some mb), .func (.func 108) #[] #[.pointer (some ⟨sb, 0, none⟩), .pointer (some ⟨tb, 0, none⟩)], .slice ra k rc, .int .i64 k, .int .i64 k, .bool false, u25, u26, u27, u28, u29, u30, u31, u32, u33, u34, u35, u36, u37, .slice (some ⟨gv, 0, none⟩) (m + 1) vc, .int .i64 ((m : Int) + 1), .bool true, .slice (some ⟨gv, 0, none⟩) (m + 1) vc, .slice (some ⟨gv, 0, none⟩) (m + 1) vc, .int .i64 ((m : Int) + 1), .int .i64 m, .pointer (some ⟨gv, m, none⟩), .int .i64 x, .slice (some ⟨gv, 0, none⟩) (m + 1) vc, .slice (some ⟨gv, 0, none⟩) (m + 1) vc, .int .i64 ((m : Int) + 1), .int .i64 m, .slice (some ⟨gv, 0, none⟩) m vc, .pointer (some ⟨p, 0, none⟩), .int .i64 x, .func (.func 127) #[] #[.pointer (some ⟨b1, 0, none⟩), .pointer (some ⟨b1 + 1, 0, none⟩)], .int .i64 y.1, u56, u57, u58, undef, undef, undef, undef, undef, undef, undef, undef, undef, undef, undef, undef, undef, undef, undef, undef], defers := [] }) ?assign ?body ?done ?stop
        case hKb =>
          intro W L o1 o2 hL _ _ _
          exact (Fr.putObj W L o2).mono (fun k _ e => by have := hA.kd.lt; have := hRl.fr.size; omega)
        case hI =>
          rintro pre A B row ⟨v', hR', hM', hb1', hb2', hsz⟩ hg hr
          have f := Fr.ofGrown hg
          have hS : ∀ k, row = some k → Wl.heap.size ≤ k ∧ ∃ o, A.heap[k]? = some o ∧ o.isCells = false := hr
          refine ⟨v', hR'.keep f (C := Wl.heap.size) hS (by omega) (by omega) (by omega) (by omega), hM'.fr f (fun D hD e => ?_), hb1', hb2', Nat.le_trans hsz f.size⟩
          have h1 := HX.out.1.lt hD
          have := (hS D e).1
          omega
        case h0 =>
          refine ⟨_, hRl, hMl, fun e => ?_, fun e => ?_, Nat.le_refl _⟩
          · have : gv = b1 := Option.some.inj e
            omega
          · have : gv = b1 + 1 := Option.some.inj e
            omega
        case assign =>
          intro L y W K hK
          clear hm hox hW2 hb1 hWl s2 sl hpop hR hsr hlt hroot hM
          gi_wp2
          exact hK
        case body =>
          rintro L pre y W ⟨v', hR', hM', hb1', hb2', hsz⟩ hlen
          have hbd := visL_bounds (xs := pre.map (·.1)) (t0 := t0) hsr.nodup hhs (fun z hz => by obtain ⟨q, _, rfl⟩ := List.mem_map.1 hz; exact q.2) hlt0
          have hy64 : I64 y.1 := by
            obtain ⟨q, hq, e⟩ := y.2
            have := (HH.out.2.1.body.each q hq).o2
            constructor <;> omega
          obtain ⟨s', hs'⟩ : ∃ s', s' = (visL (s, t0) (pre.map (·.1))).1 := ⟨_, rfl⟩
          obtain ⟨t', ht'⟩ : ∃ t', t' = (visL (s, t0) (pre.map (·.1))).2 := ⟨_, rfl⟩
          rw [← hs', ← ht'] at hR' hbd
          have gv2 := visit_calls W w.heap.size sb tb mb v' s' t' hR'.vs hR'.fr.size y.1 hy64 (by omega) (by omega)
          obtain ⟨y1, hy1⟩ : ∃ y1, y1 = y.1 := ⟨_, rfl⟩
          rw [← hy1] at gv2 ⊢
          have GV := Lib.hid gv2
          have fc := hR'.fc
          have lfb2 : fb < W.heap.size := World.block_lt_of_cell? _ _ fc
          have HB := Lib.hid (And.intro hR' (And.intro hM' (And.intro hb1' (And.intro hb2' (And.intro hsz (And.intro hs' (And.intro ht' (And.intro hy1 hA.kd.lt))))))))
          clear hm hox hW2 hb1 hWl s2 sl hpop hR hsr hlt hroot hM hRl e1 e2 hMl hAl hs8 hhs hlt0 hA ho hl0 hT hsl hR' hM' hb1' hb2' hsz hbd hy64 hs' ht' gv2 hy1 F2 cx c2 f2 lgv lsb ltb2 lmb lfb
          gi_wp2_with (refine ⟨trivial, ?_⟩; gi_at_call 108; refine (CallsIn.inRound L (callsIn_wide.2 GV.out)).mono ?_; rintro e w3 ⟨rfl, v3, hv3, F3, ho3⟩; have H3 := Lib.hid (And.intro hv3 (And.intro F3 ho3)); clear hv3 F3 ho3)
          obtain ⟨hR', hM', hb1', hb2', hsz, hs', ht', hy1, hkl⟩ := HB.out
          obtain ⟨hv3, F3, ho3⟩ := H3.out
          obtain ⟨_, lgv, lsb, ltb2, lmb, lfb, _, _, sl, _⟩ := HX.out
          have n1 := hR'.n1
          have n2 := hR'.n2
          refine ⟨hR'.vs.keeps F3 (by omega) (by omega), F3.mono (fun q hq e => ?_), v3, ?_, hM'.visit hR'.vs F3, fun e => ?_, fun e => ?_, Nat.le_trans hsz F3.size⟩
          · rcases e with e | e | e
            · omega
            · omega
            · refine ⟨(hR'.vs.row.lt q e).1, fun e2 => hb1' (by rw [← e2]; exact e), fun e2 => hb2' (by rw [← e2]; exact e)⟩
          · rw [List.map_append, List.map_cons, List.map_nil, visL_snoc, ← hs', ← ht', ← hy1]
            exact hR'.visit hv3 F3 ho3
          · rcases ho3 with h | h
            · exact hb1' (by rw [← h]; exact e)
            · have := h _ e; omega
          · rcases ho3 with h | h
            · exact hb2' (by rw [← h]; exact e)
            · have := h _ e; omega
        case done =>
          rintro D xs W hD hxs ⟨v', hR', hM', hb1', hb2', hsz⟩ hK
          rw [hxs] at hR'
          have hnx := hsr.next HH.out.2.1.body.nodup ho hox
          have hlen2 := visL_len (nms l (wordsOf o)) (s, t0)
          have hlt2 := (visL_bounds (xs := nms l (wordsOf o)) (t0 := t0) hsr.nodup hhs (fun z hz => by obtain ⟨q, _, hq⟩ := mem_nms.1 hz; exact hq.has) hlt0).2
          have hnl := hnx.len
          have hDs : D ∉ Ds := fun h => by have := HX.out.1.lt h; omega
          have hMD := hM'.add (by have := hRl.fr.size; omega) hK hDs
          have hroot2 : ∀ z, z ∈ nms l rs → z ∈ (visL (s, t0) (nms l (wordsOf o))).1 := fun z hz => (visL_mem _ _ z).2 (.inl (hroot z hz))
          have hmu : (l.length - (visL (s, t0) (nms l (wordsOf o))).1.length) + (visL (s, t0) (nms l (wordsOf o))).2.length < (l.length - s.length) + (t0 ++ [x]).length := by
            rw [List.length_append, List.length_singleton]
            dsimp only at hlen2
            omega
          have HB := Lib.hid (And.intro hR' (And.intro hnx (And.intro hlt2 (And.intro hroot2 (And.intro hMD hmu)))))
          clear hm hox hW2 hb1 hWl s2 sl hpop hR hsr hlt hroot hM hRl e1 e2 hMl hAl hs8 hhs hlt0 hA ho hl0 hT hsl hR' hM' hb1' hb2' hsz hnx hlen2 hlt2 hnl hDs hMD hroot2 hmu F2 cx c2 f2 lgv lsb ltb2 lmb lfb hxs
          gi_wp2
          exact ⟨_, ⟨_, _, _, _, _, _, _, _, _, _, _, _, _, _, _, _, _, _, _, _, _, _, _, D :: Ds, v', HB.out.1, HB.out.2.1, HB.out.2.2.1, HB.out.2.2.2.1, HB.out.2.2.2.2.1, rfl⟩, HB.out.2.2.2.2.2⟩
        case stop =>
          rintro D c pre W _ _ h _
          exact h.elim
end Kiln

namespace Kiln
open Go Go.RowKit Go.Proofs Go.Shelf Go.Sort

theorem sortC : SortC := by
  intro w B g cap zs h hz
  rcases h.2 with ⟨h1, _⟩ | ⟨g2, cap2, cur, hv, hbase, hb, h1, h2, h3, h4⟩
  · cases h1
  · cases hv
    have hH : Holds (Value.int .i64) w g 0 zs.toArray := holds_of_blockI hb (by simpa using h4)
    have hgl : g < w.heap.size := (Array.getElem?_eq_some_iff.1 hb).1
    refine (AnyM.slices_Sort_int Tryd.sortO g 0 cap zs w hH hgl hz).mono fun e w' ⟨he, n, os, hw⟩ => ?_
    subst hw
    refine ⟨he, ownsRow_sortedI (List.mergeSort_perm zs _).length_eq hbase hb h1 h2 h3, ?_⟩
    exact (Fr.ofGrown (grownBy_sortedI _)).mono (fun k _ e => (Option.some.inj e).symm)

theorem reach_calls (H : Hc) (w : World) (hA : HAt w H) (l : List Ob) (hS : Sim H l) (ra : Option Addr) (rb ro rc : Nat) (rs : List Int) (hr : Ints w ra rb ro rs) (hn : rs.length ≤ 17592186044416) :
    Calls Tryd.prog 49 #[H.ptr, .slice ra rs.length rc] w (ReachPost l rs w) := reach_walk sortC H w hA l hS ra rb ro rc rs hr hn
theorem reach_nil (w : World) (ra : Option Addr) (n rc : Nat) : Calls Tryd.prog 49 #[.pointer none, .slice ra n rc] w fun e w' => e = .returned (.tuple #[.slice none 0 0, .int .i64 2]) ∧ w = w' := by
  refine (callsIn_wide (n := 3)).1 ?_
  refine callsIn_of_wp Tryd.func49 rfl trivial ?_ rfl
  simp only [Tryd.ntmps49, List.size_toArray, List.length_cons, List.length_nil, Nat.reduceAdd, Nat.reduceSub, Array.replicate_succ, Array.replicate_zero, List.push_toArray, List.append_toArray, List.nil_append, List.cons_append]
  gi_wp2
  refine bodyPost_ret (results_tmp2 rfl _ _ _) rfl ?_
  exact ⟨rfl, rfl⟩
end Kiln
