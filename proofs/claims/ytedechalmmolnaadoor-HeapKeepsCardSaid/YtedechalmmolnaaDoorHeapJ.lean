/- Walks: byPlace of package heap (through slices.SortFunc, by the shelf's contract). -/
import Derived.Test.YtedechalmmolnaaDoorHeapI
namespace Kiln
open Go Go.RowKit Go.Proofs Go.Sort

theorem alloc_cell (w : World) (v : Value) (t : TypeId) : (w.alloc (.cells #[v] t)).cell? ⟨w.heap.size, 0, none⟩ = some v := by
  unfold World.cell?
  rw [show (w.alloc (.cells #[v] t)).heap[w.heap.size]? = some (.cells #[v] t) from push_at _ _ _ rfl]
  rfl

theorem cmp_calls (H : Hc) (W : World) (h : HAt W H) (bx : Nat) (hx : W.cell? ⟨bx, 0, none⟩ = some H.ptr) (a b : Nat) (ha : a < H.T) (hb : b < H.T)
    (ta : -1 ≤ H.table a) (ta' : H.table a ≤ 1048576) (tb : -1 ≤ H.table b) (tb' : H.table b ≤ 1048576) :
    Calls Tryd.prog 140 #[.int .i64 a, .int .i64 b, .pointer (some ⟨bx, 0, none⟩)] W fun e w' => e = .returned (.int .i64 (H.table a - H.table b)) ∧ Drew W w' := by
  have c1 := h.c1
  have hT := h.T_le
  have ca := h.ht.cell (i := a) ha
  have cb := h.ht.cell (i := b) hb
  clear h
  have a1 : (a : Int) < H.T := by omega
  have b1 : (b : Int) < H.T := by omega
  go_enter Tryd.func140, Tryd.ntmps140
  go_wp2_with fail
  go_quiet (fail)
  go_wp2
  go_ret
  exact ⟨rfl, _, rfl⟩

theorem putRow_other {α : Type} [Inhabited α] (enc : α → Value) (w : World) (blk off : Nat) (d : Array α) (k : Nat) (h : k ≠ blk) : (putRow enc w blk off d).heap[k]? = w.heap[k]? := by
  simp only [putRow, mapBlock, Array.getElem?_modify]
  rw [if_neg (fun e => h e.symm)]

theorem sortWorld_other {α : Type} [Inhabited α] (enc : α → Value) (w : World) (blk off m : Nat) (d : Array α) (os : Array Obj) (k : Nat) (h : k ≠ blk) (hk : k < w.heap.size) :
    (sortWorld enc w blk off m d os).heap[k]? = w.heap[k]? := by
  unfold sortWorld
  rw [heap_grow_old _ _ (by rw [Go.Sort.size_putRow]; exact hk), putRow_other _ _ _ _ _ _ h]
  rfl

theorem sortWorld_fr {α : Type} [Inhabited α] (enc : α → Value) (w : World) (blk off m : Nat) (d : Array α) (os : Array Obj) : Fr (fun k => k = blk) w (sortWorld enc w blk off m d os) :=
  ⟨rfl, rfl, rfl, by unfold sortWorld; rw [size_grow, Go.Sort.size_putRow]; exact Nat.le_add_right _ _, fun k hk hn => sortWorld_other enc w blk off m d os k hn hk⟩

/-- the oops of a heap -/
abbrev encF (T : Nat) : Fin (T + 1) → Value := fun x => .int .i64 (x.val : Int)

theorem sortWorld_row {α : Type} [Inhabited α] (enc : α → Value) (w : World) (blk m n : Nat) (t : TypeId) (d' : Array α) (os : Array Obj) (f : Nat → Value) (hs : d'.size = n)
    (h : w.rowIs blk t n f) : (sortWorld enc w blk 0 m d' os).rowIs blk t n (fun i => enc d'[i]!) := by
  obtain ⟨c, hb, hn, hc⟩ := h
  have hlt : blk < w.heap.size := (Array.getElem?_eq_some_iff.1 hb).1
  refine ⟨putCells enc 0 d' c, ?_, by simp [putCells, hn], fun i hi => ?_⟩
  · unfold sortWorld
    rw [heap_grow_old _ _ (by rw [Go.Sort.size_putRow]; exact hlt)]
    simp only [putRow, mapBlock, Array.getElem?_modify, if_true]
    show ((ahead w m).heap[blk]?).map _ = _
    rw [show (ahead w m).heap[blk]? = w.heap[blk]? from rfl, hb]
    rfl
  · simp [putCells, hs, hi, hn]

/-- a row that is owned to its end -/
theorem row_of_owns {w : World} {base e : Nat} {g n : Nat} {l : List Int} (hl : l.length = n) (h : w.ownsRow base e 1 (.slice (some ⟨g, 0, none⟩) n n) n (l.map (Value.int .i64))) :
    w.rowIs g e n (fun i => .int .i64 (l.getD i 0)) := by
  obtain ⟨h1, h2⟩ := h
  rcases h2 with ⟨hv, _⟩ | ⟨g', cap, cur, hv, _, hg, _, _, hs, ht⟩
  · cases hv
  · cases hv
    refine ⟨cur, hg, by omega, fun i hi => ?_⟩
    have : cur.toList = l.map (Value.int .i64) := by
      rw [← ht, List.take_of_length_le]
      simp [hs]
    rw [← Array.getElem?_toList, this]
    simp [hl, hi]

/-- sorted by place -/
def byP (H : Hc) (l : List Int) : Prop := l.Pairwise fun a b => H.table a.toNat ≤ H.table b.toNat

theorem place_swo (H : Hc) (T : Nat) : SWO (ltOf (fun x y : Fin (T + 1) => H.table x.val - H.table y.val)) where
  irrefl x := by simp [ltOf]
  trans x y z h1 h2 := by simp [ltOf] at *; omega
  ntrans x y z h1 h2 := by simp [ltOf] at *; omega

set_option maxHeartbeats 1000000 in
set_option maxRecDepth 100000 in
theorem byPlace_calls (H : Hc) (w : World) (h : HAt w H) (hc : H.count = (allK H H.T).length) (ht : ∀ i, i < H.T → -1 ≤ H.table i ∧ H.table i ≤ 1048576) :
    Calls Tryd.prog 95 #[H.ptr] w fun e w' => ∃ g l, e = .returned (.slice (some ⟨g, 0, none⟩) l.length l.length) ∧ w.heap.size ≤ g ∧ l.Perm (allK H H.T) ∧ byP H l ∧
      w'.rowIs g 3 l.length (fun i => .int .i64 (l.getD i 0)) ∧ Fr (fun _ => False) w w' := by
  obtain ⟨T, hT⟩ : ∃ T, H.T = T + 1 := ⟨H.T - 1, by have := h.T_ge; omega⟩
  obtain ⟨w0, hw0⟩ : ∃ w0, w0 = w.alloc (.cells #[H.ptr] 27) := ⟨_, rfl⟩
  have h0 : HAt w0 H := by rw [hw0]; exact h.alloc _
  have g := all_calls H w0 h0 hc
  have hsz : w0.heap.size = w.heap.size + 1 := by rw [hw0]; simp
  have hbx : w0.cell? ⟨w.heap.size, 0, none⟩ = some H.ptr := by rw [hw0]; exact alloc_cell _ _ _
  have F0 : Fr (fun _ => False) w w0 := by rw [hw0]; exact (Fr.refl _ _).alloc _
  have HW0 := Lib.hid hw0
  have G := Lib.hid g
  clear hw0 g
  go_enter Tryd.func95, Tryd.ntmps95
  go_wp2_with fail
  rw [← HW0.out]
  refine G.out.mono ?_
  rintro e w1 ⟨rfl, hown, F1⟩
  have h1 := h0.fr F1 (fun _ _ => id) id
  have hrow := row_of_owns rfl hown
  have hbx1 := F1.cell hbx id
  have hb1 : w0.heap.size < w1.heap.size := hrow.lt
  generalize w0.heap.size = gb at *
  clear G hown h0 hbx HW0
  have hown_lt : ∀ k, H.own k → k < gb := fun k hk => by have := h.lt hk; omega
  have hkb : 0 < gb := by have := h.kd.lt; omega
  obtain ⟨L, hL⟩ : ∃ L, L = allK H H.T := ⟨_, rfl⟩
  have hLm : ∀ x, x ∈ L → 0 ≤ x ∧ x < H.T ∧ 0 ≤ H.table x.toNat := fun x hx => by rw [hL] at hx; exact (mem_allK H H.T x).1 hx
  rw [← hL] at hrow ⊢
  obtain ⟨d, hd⟩ : ∃ d : Array (Fin (T + 1)), d = (L.map fun x => Fin.ofNat (T + 1) x.toNat).toArray := ⟨_, rfl⟩
  have hds : d.size = L.length := by rw [hd]; simp
  have hdv : d.toList.map (fun x => (x.val : Int)) = L := by
    rw [hd]
    simp only [List.map_map]
    conv => rhs; rw [← List.map_id L]
    refine List.map_congr_left fun x hx => ?_
    have := hLm x hx
    simp only [Function.comp, Fin.ofNat, id]
    rw [Nat.mod_eq_of_lt (by omega)]
    omega
  have hdj : ∀ j, j < d.size → ((d[j]!).val : Int) = L.getD j 0 := by
    intro j hj
    rw [← hdv, getElem!_pos d j hj]
    simp [hj]
  have hH : Holds (encF T) w1 gb 0 d := by
    intro j hj
    rw [Nat.zero_add]
    refine ⟨?_, hrow.frozen j⟩
    have := hrow.cell (i := j) (by omega)
    rw [this]
    show _ = some (Value.int .i64 ((d[j]!).val : Int))
    rw [hdj j hj]
  have eg : ∀ args w, (callFunc 140 args).run Tryd.prog w = .ok (.enter 140 args) w := enters_of Tryd.func140 (by kernel_rfl) rfl
  have hcmp : CmpReads Tryd.prog 140 #[.pointer (some ⟨w.heap.size, 0, none⟩)] (encF T) (fun x y => H.table x.val - H.table y.val) gb 0 d.size w1 := by
    intro m os dk hs x y
    have F := sortWorld_fr (encF T) w1 gb 0 m dk os
    have hA := h1.fr F (fun k hk e => by have := hown_lt k hk; omega) (by omega)
    have hb := F.cell hbx1 (by show ¬ (w.heap.size = gb); omega)
    have hx := ht x.val (by have := x.isLt; omega)
    have hy := ht y.val (by have := y.isLt; omega)
    exact cmp_calls H _ hA w.heap.size hb x.val y.val (by have := x.isLt; omega) (by have := y.isLt; omega) hx.1 hx.2 hy.1 hy.2
  have hcon := Any.slices_SortFunc Tryd.sortF (encF T) (fun _ => rfl) (fun x y => H.table x.val - H.table y.val) (place_swo H T) 140 #[.pointer (some ⟨w.heap.size, 0, none⟩)] gb 0 L.length d w1 eg hcmp.lays hH hrow.lt (by have := allK_len H H.T; have := h.T_le; rw [hds, hL]; omega)
  change Calls Tryd.prog 139 _ _ _ at hcon
  rw [hds] at hcon
  have HC := Lib.hid hcon
  have LT := Lib.hid hown_lt
  have HE := Lib.hid (And.intro hsz (And.intro hT (And.intro hL (And.intro hd (And.intro hds hdv)))))
  clear hcon hown_lt eg hcmp hH hdj hdv hsz hT hL hd hds
  go_wp2_with (go_at_call 139; refine HC.out.mono ?_; rintro e w2 ⟨rfl, d', n, os, hp, hsd, rfl⟩)
  go_ret
  obtain ⟨hsz, hT, hL, hd, hds, hdv⟩ := HE.out
  obtain ⟨q1, _, q3⟩ := hp
  have hds' : d'.size = L.length := q1.trans hds
  have e1 : d.extract 0 L.length = d := by rw [← hds]; simp
  have e2 : d'.extract 0 L.length = d' := by rw [← hds']; simp
  rw [e1, e2] at q3
  have hll : (d'.toList.map (fun x => (x.val : Int))).length = L.length := by rw [List.length_map, Array.length_toList, hds']
  refine ⟨gb, d'.toList.map (fun x => (x.val : Int)), by rw [hll]; rfl, by omega, ?_, ?_, ?_, ?_⟩
  · rw [← hL, ← hdv]; exact q3.map _
  · unfold byP
    rw [List.pairwise_iff_getElem]
    intro i j hi hj hij
    have hi' : i < d'.size := by simpa using hi
    have hj' : j < d'.size := by simpa using hj
    have := hsd i j (Nat.zero_le _) hij (by omega)
    rw [getElem!_pos d' i hi', getElem!_pos d' j hj'] at this
    simp only [ltOf, decide_eq_false_iff_not] at this
    simp only [List.getElem_map, Array.getElem_toList, Int.toNat_natCast]
    omega
  · rw [hll]
    refine (sortWorld_row (encF T) w1 gb n L.length 3 d' os _ hds' hrow).congr fun i hi => ?_
    have hi' : i < d'.size := by omega
    rw [getElem!_pos d' i hi']
    simp [hi']
  · exact (F0.trans F1).trans' (sortWorld_fr (encF T) w1 gb 0 n d' os) (fun _ _ f => f) (fun k hk (e : k = gb) => by omega)
end Kiln
