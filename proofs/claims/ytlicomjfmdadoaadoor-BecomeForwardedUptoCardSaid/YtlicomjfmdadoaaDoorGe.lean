/- Walks: All, byPlace of package heap. Walks: byPlace of package heap (through slices.SortFunc, by the shelf's contract). Plain: the objects that lie in a heap ('Body'), and what the heap's steps do to them. No program in sight. Plain: an object goes, an object slides. Walks: Free of package heap. Plain: what Keep makes of the objects. Walks: Keep of package heap. -/
import Derived.Test.YtlicomjfmdadoaaDoorGd
import Derived.Test.YtlicomjfmdadoaaDoorShelf
namespace Kiln
open Go Go.RowKit Go.Proofs

/-- of the first k oops those that are there, rising -/
def allK (H : Hc) : Nat → List Int
  | 0 => []
  | k + 1 => if 0 ≤ H.table k then allK H k ++ [(k : Int)] else allK H k

theorem allK_le (H : Hc) (k j : Nat) : (allK H k).length ≤ (allK H (k + j)).length := by
  induction j with
  | zero => exact Nat.le_refl _
  | succ j ih =>
    have : (allK H (k + j)).length ≤ (allK H (k + j + 1)).length := by
      conv => rhs; unfold allK
      split <;> simp
    exact Nat.le_trans ih this
theorem allK_lt (H : Hc) (k T : Nat) (h : k < T) (hk : 0 ≤ H.table k) : (allK H k).length < (allK H T).length := by
  have h1 : (allK H k).length < (allK H (k + 1)).length := by
    conv => rhs; unfold allK
    rw [if_pos hk]; simp
  obtain ⟨j, rfl⟩ : ∃ j, T = k + 1 + j := ⟨T - (k + 1), by omega⟩
  exact Nat.lt_of_lt_of_le h1 (allK_le H (k + 1) j)
theorem mem_allK (H : Hc) (k : Nat) (x : Int) : x ∈ allK H k ↔ 0 ≤ x ∧ x < k ∧ 0 ≤ H.table x.toNat := by
  induction k with
  | zero => simp [allK]; omega
  | succ k ih =>
    unfold allK
    split
    · rename_i hk
      rw [List.mem_append, ih, List.mem_singleton]
      constructor
      · rintro (h | rfl)
        · exact ⟨h.1, by omega, h.2.2⟩
        · exact ⟨by omega, by omega, by simpa using hk⟩
      · rintro ⟨h1, h2, h3⟩
        by_cases e : x = k
        · exact .inr e
        · exact .inl ⟨h1, by omega, h3⟩
    · rename_i hk
      rw [ih]
      constructor
      · rintro h; exact ⟨h.1, by omega, h.2.2⟩
      · rintro ⟨h1, h2, h3⟩
        refine ⟨h1, ?_, h3⟩
        by_cases e : x = k
        · subst e; simp at h3; omega
        · omega

theorem allK_len (H : Hc) (k : Nat) : (allK H k).length ≤ k := by
  induction k with
  | zero => exact Nat.le_refl _
  | succ k ih => unfold allK; split <;> (try rw [List.length_append, List.length_singleton]) <;> omega

set_option maxRecDepth 100000 in
set_option maxHeartbeats 400000 in
theorem all_calls (H : Hc) (w : World) (h : HAt w H) (hc : H.count = (allK H H.T).length) :
    Calls Tryd.prog 38 #[H.ptr] w fun e w' => e = .returned (.slice (some ⟨w.heap.size, 0, none⟩) (allK H H.T).length (allK H H.T).length) ∧
      w'.ownsRow w.heap.size 3 1 (.slice (some ⟨w.heap.size, 0, none⟩) (allK H H.T).length (allK H H.T).length) (allK H H.T).length ((allK H H.T).map (Value.int .i64)) ∧ Fr (fun _ => False) w w' := by
  have g := gone_calls H w h
  have c1 := h.c1
  have c3 := h.c3
  have hT := h.T_le
  obtain ⟨C, hC⟩ : ∃ C, C = (allK H H.T).length := ⟨_, rfl⟩
  rw [hc, ← hC] at c3
  have hCT : C ≤ 65537 := by have := allK_len H H.T; omega
  rw [← hC]
  have HC := Lib.hid hC
  clear hC hc
  obtain ⟨i0, hi, hz0, hz1, hz2⟩ := info_parts Tryd.infoInt
  go_enter Tryd.func38, Tryd.ntmps38
  go_wp2_with (first | (go_at_call 72; refine g.mono ?_; rintro e w' ⟨rfl, rfl⟩) | (at_make; go_must (refine wpList_make_own _ rfl (.const (.int .i64 0)) (.tmp 11) 41 rfl w.heap.size 3 i0 (.int .i64 0) 1 Tryd.underlying41 hi hz0 hz1 .i64 .i64 C C rfl rfl rfl (by rw [hz2]; omega) (by unfold maxLen; omega) (Nat.le_refl _) ?_); intro w1 hown hgrow; have F1 := (Fr.refl (fun _ => False) w).grown hgrow (fun k hk => by cases hk); have hA1 := h.fr F1 (fun _ _ => id) id; have c1' := hA1.c1))
  go_loopw [3, 18] (fun v x wr => ∃ k : Nat, k ≤ H.T ∧ x = .int .i64 k ∧ v = .slice (some ⟨w.heap.size, 0, none⟩) (allK H k).length C ∧ wr.ownsRow w.heap.size 3 1 v (allK H k).length ((allK H k).map (Value.int .i64)) ∧ HAt wr H ∧ Fr (fun _ => False) w wr) (fun _ x _ => H.T - (RowKit.intOf x).toNat)
  case atStart => exact ⟨0, Nat.zero_le _, rfl, rfl, hown, hA1, F1⟩
  case round =>
    obtain ⟨k, hk, rfl, rfl, hown2, hA2, F2⟩ := hrel
    by_cases hkT : k < H.T
    · have ck := hA2.ht.cell (i := k) hkT
      by_cases hlk : 0 ≤ H.table k
      · have hlt := allK_lt H k H.T hkT hlk
        rw [← HC.out] at hlt
        have e : allK H (k + 1) = allK H k ++ [(k : Int)] := by conv => lhs; unfold allK; rw [if_pos hlk]
        have E := Lib.hid e
        obtain ⟨L, hL⟩ : ∃ L, L = (allK H k).length := ⟨_, rfl⟩
        have HL := Lib.hid hL
        rw [← hL] at hown2 hlt
        obtain ⟨X, hX⟩ : ∃ X, X = (allK H k).map (Value.int .i64) := ⟨_, rfl⟩
        rw [← hX] at hown2
        have HX := Lib.hid hX
        clear e hX
        rw [← hL]
        clear hL
        go_wp2_with (at_builtin; go_must (refine wpList_append_fits _ rfl (.tmp 25) (.tmp 27) 41 rfl w.heap.size 3 i0 1 Tryd.underlying41 hi hz1 w.heap.size L C X rfl (hown2.alloc _) ⟨wr.heap.size, 0, none⟩ 1 1 [.int .i64 k] rfl rfl (cell_one_new _ _ _) (by intro u hu; simp at hu; subst hu; rfl) (by omega) ?_); intro w3 hown3 hgrow3)
        have F3 := (F2.alloc (.cells #[.int .i64 (k : Int)] 3)).grown hgrow3 (fun j hj hlt => by cases hj; exact absurd hlt (Nat.lt_irrefl _))
        go_roundw
        case rel =>
          refine ⟨k + 1, by omega, by go_num, ?_, ?_, h.fr F3 (fun _ _ => id) id, F3⟩
          · rw [E.out, List.length_append, ← HL.out]; rfl
          · rw [E.out, List.length_append, List.map_append, ← HL.out, ← HX.out]; exact hown3
        case measure => simp [RowKit.intOf]; omega
      · have e : allK H (k + 1) = allK H k := by conv => lhs; unfold allK; rw [if_neg hlk]
        have E := Lib.hid e
        clear e
        go_wp2_with fail
        go_roundw
        case rel => exact ⟨k + 1, by omega, by go_num, by rw [E.out], by rw [E.out]; exact hown2, hA2, F2⟩
        case measure => simp [RowKit.intOf]; omega
    · obtain rfl : k = H.T := by omega
      go_wp2_with fail
      go_ret
      refine ⟨?_, ?_, F2⟩
      · rw [HC.out]; rfl
      · rw [HC.out] at hown2 ⊢; exact hown2
end Kiln

namespace Kiln
open Go Go.RowKit Go.Proofs Go.Sort

theorem alloc_cell (w : World) (v : Value) (t : TypeId) : (w.alloc (.cells #[v] t)).cell? ⟨w.heap.size, 0, none⟩ = some v := by
  unfold World.cell?
  rw [show (w.alloc (.cells #[v] t)).heap[w.heap.size]? = some (.cells #[v] t) from push_at _ _ _ rfl]
  rfl

theorem cmp_calls (H : Hc) (W : World) (h : HAt W H) (bx : Nat) (hx : W.cell? ⟨bx, 0, none⟩ = some H.ptr) (a b : Nat) (ha : a < H.T) (hb : b < H.T)
    (ta : -1 ≤ H.table a) (ta' : H.table a ≤ 1048576) (tb : -1 ≤ H.table b) (tb' : H.table b ≤ 1048576) :
    Calls Tryd.prog 121 #[.int .i64 a, .int .i64 b, .pointer (some ⟨bx, 0, none⟩)] W fun e w' => e = .returned (.int .i64 (H.table a - H.table b)) ∧ Drew W w' := by
  have c1 := h.c1
  have hT := h.T_le
  have ca := h.ht.cell (i := a) ha
  have cb := h.ht.cell (i := b) hb
  clear h
  have a1 : (a : Int) < H.T := by omega
  have b1 : (b : Int) < H.T := by omega
  go_enter Tryd.func121, Tryd.ntmps121
  go_wp2_with fail
  go_quiet (fail)
  go_wp2
  go_ret
  exact ⟨rfl, _, rfl⟩

theorem putRow_other {α : Type} [Inhabited α] (enc : α → Value) (w : World) (blk off : Nat) (d : Array α) (k : Nat) (h : k ≠ blk) : (putRow enc w blk off d).heap[k]? = w.heap[k]? := by
  simp only [putRow, mapBlock, Array.getElem?_modify]
  rw [if_neg (fun e => h e.symm)]

theorem sortWorld_other {α : Type} [Inhabited α] (enc : α → Value) (w : World) (blk off m : Nat) (d : Array α) (os : Array Obj) (k : Nat) (h : k ≠ blk) (hk : k < w.heap.size) :
    (sortWorld enc w blk off m d os).heap[k]? = w.heap[k]? := by
  unfold sortWorld
  rw [heap_grow_old _ _ (by rw [Go.Sort.size_putRow]; exact hk), putRow_other _ _ _ _ _ _ h]
  rfl

theorem sortWorld_fr {α : Type} [Inhabited α] (enc : α → Value) (w : World) (blk off m : Nat) (d : Array α) (os : Array Obj) : Fr (fun k => k = blk) w (sortWorld enc w blk off m d os) :=
  ⟨rfl, rfl, rfl, by unfold sortWorld; rw [size_grow, Go.Sort.size_putRow]; exact Nat.le_add_right _ _, fun k hk hn => sortWorld_other enc w blk off m d os k hn hk⟩

/-- the oops of a heap -/
abbrev encF (T : Nat) : Fin (T + 1) → Value := fun x => .int .i64 (x.val : Int)

theorem sortWorld_row {α : Type} [Inhabited α] (enc : α → Value) (w : World) (blk m n : Nat) (t : TypeId) (d' : Array α) (os : Array Obj) (f : Nat → Value) (hs : d'.size = n)
    (h : w.rowIs blk t n f) : (sortWorld enc w blk 0 m d' os).rowIs blk t n (fun i => enc d'[i]!) := by
  obtain ⟨c, hb, hn, hc⟩ := h
  have hlt : blk < w.heap.size := (Array.getElem?_eq_some_iff.1 hb).1
  refine ⟨putCells enc 0 d' c, ?_, by simp [putCells, hn], fun i hi => ?_⟩
  · unfold sortWorld
    rw [heap_grow_old _ _ (by rw [Go.Sort.size_putRow]; exact hlt)]
    simp only [putRow, mapBlock, Array.getElem?_modify, if_true]
    show ((ahead w m).heap[blk]?).map _ = _
    rw [show (ahead w m).heap[blk]? = w.heap[blk]? from rfl, hb]
    rfl
  · simp [putCells, hs, hi, hn]

/-- a row that is owned to its end -/
theorem row_of_owns {w : World} {base e : Nat} {g n : Nat} {l : List Int} (hl : l.length = n) (h : w.ownsRow base e 1 (.slice (some ⟨g, 0, none⟩) n n) n (l.map (Value.int .i64))) :
    w.rowIs g e n (fun i => .int .i64 (l.getD i 0)) := by
  obtain ⟨h1, h2⟩ := h
  rcases h2 with ⟨hv, _⟩ | ⟨g', cap, cur, hv, _, hg, _, _, hs, ht⟩
  · cases hv
  · cases hv
    refine ⟨cur, hg, by omega, fun i hi => ?_⟩
    have : cur.toList = l.map (Value.int .i64) := by
      rw [← ht, List.take_of_length_le]
      simp [hs]
    rw [← Array.getElem?_toList, this]
    simp [hl, hi]

/-- sorted by place -/
def byP (H : Hc) (l : List Int) : Prop := l.Pairwise fun a b => H.table a.toNat ≤ H.table b.toNat

theorem place_swo (H : Hc) (T : Nat) : SWO (ltOf (fun x y : Fin (T + 1) => H.table x.val - H.table y.val)) where
  irrefl x := by simp [ltOf]
  trans x y z h1 h2 := by simp [ltOf] at *; omega
  ntrans x y z h1 h2 := by simp [ltOf] at *; omega

set_option maxHeartbeats 1000000 in
set_option maxRecDepth 100000 in
theorem byPlace_calls (H : Hc) (w : World) (h : HAt w H) (hc : H.count = (allK H H.T).length) (ht : ∀ i, i < H.T → -1 ≤ H.table i ∧ H.table i ≤ 1048576) :
    Calls Tryd.prog 73 #[H.ptr] w fun e w' => ∃ g l, e = .returned (.slice (some ⟨g, 0, none⟩) l.length l.length) ∧ w.heap.size ≤ g ∧ l.Perm (allK H H.T) ∧ byP H l ∧
      w'.rowIs g 3 l.length (fun i => .int .i64 (l.getD i 0)) ∧ Fr (fun _ => False) w w' := by
  obtain ⟨T, hT⟩ : ∃ T, H.T = T + 1 := ⟨H.T - 1, by have := h.T_ge; omega⟩
  obtain ⟨w0, hw0⟩ : ∃ w0, w0 = w.alloc (.cells #[H.ptr] 27) := ⟨_, rfl⟩
  have h0 : HAt w0 H := by rw [hw0]; exact h.alloc _
  have g := all_calls H w0 h0 hc
  have hsz : w0.heap.size = w.heap.size + 1 := by rw [hw0]; simp
  have hbx : w0.cell? ⟨w.heap.size, 0, none⟩ = some H.ptr := by rw [hw0]; exact alloc_cell _ _ _
  have F0 : Fr (fun _ => False) w w0 := by rw [hw0]; exact (Fr.refl _ _).alloc _
  have HW0 := Lib.hid hw0
  have G := Lib.hid g
  clear hw0 g
  go_enter Tryd.func73, Tryd.ntmps73
  go_wp2_with fail
  rw [← HW0.out]
  refine G.out.mono ?_
  rintro e w1 ⟨rfl, hown, F1⟩
  have h1 := h0.fr F1 (fun _ _ => id) id
  have hrow := row_of_owns rfl hown
  have hbx1 := F1.cell hbx id
  have hb1 : w0.heap.size < w1.heap.size := hrow.lt
  generalize w0.heap.size = gb at *
  clear G hown h0 hbx HW0
  have hown_lt : ∀ k, H.own k → k < gb := fun k hk => by have := h.lt hk; omega
  have hkb : 0 < gb := by have := h.kd.lt; omega
  obtain ⟨L, hL⟩ : ∃ L, L = allK H H.T := ⟨_, rfl⟩
  have hLm : ∀ x, x ∈ L → 0 ≤ x ∧ x < H.T ∧ 0 ≤ H.table x.toNat := fun x hx => by rw [hL] at hx; exact (mem_allK H H.T x).1 hx
  rw [← hL] at hrow ⊢
  obtain ⟨d, hd⟩ : ∃ d : Array (Fin (T + 1)), d = (L.map fun x => Fin.ofNat (T + 1) x.toNat).toArray := ⟨_, rfl⟩
  have hds : d.size = L.length := by rw [hd]; simp
  have hdv : d.toList.map (fun x => (x.val : Int)) = L := by
    rw [hd]
    simp only [List.map_map]
    conv => rhs; rw [← List.map_id L]
    refine List.map_congr_left fun x hx => ?_
    have := hLm x hx
    simp only [Function.comp, Fin.ofNat, id]
    rw [Nat.mod_eq_of_lt (by omega)]
    omega
  have hdj : ∀ j, j < d.size → ((d[j]!).val : Int) = L.getD j 0 := by
    intro j hj
    rw [← hdv, getElem!_pos d j hj]
    simp [hj]
  have hH : Holds (encF T) w1 gb 0 d := by
    intro j hj
    rw [Nat.zero_add]
    refine ⟨?_, hrow.frozen j⟩
    have := hrow.cell (i := j) (by omega)
    rw [this]
    show _ = some (Value.int .i64 ((d[j]!).val : Int))
    rw [hdj j hj]
  have eg : ∀ args w, (callFunc 121 args).run Tryd.prog w = .ok (.enter 121 args) w := enters_of Tryd.func121 (by kernel_rfl) rfl
  have hcmp : CmpReads Tryd.prog 121 #[.pointer (some ⟨w.heap.size, 0, none⟩)] (encF T) (fun x y => H.table x.val - H.table y.val) gb 0 d.size w1 := by
    intro m os dk hs x y
    have F := sortWorld_fr (encF T) w1 gb 0 m dk os
    have hA := h1.fr F (fun k hk e => by have := hown_lt k hk; omega) (by omega)
    have hb := F.cell hbx1 (by show ¬ (w.heap.size = gb); omega)
    have hx := ht x.val (by have := x.isLt; omega)
    have hy := ht y.val (by have := y.isLt; omega)
    exact cmp_calls H _ hA w.heap.size hb x.val y.val (by have := x.isLt; omega) (by have := y.isLt; omega) hx.1 hx.2 hy.1 hy.2
  have hcon := Any.slices_SortFunc Tryd.sortF (encF T) (fun _ => rfl) (fun x y => H.table x.val - H.table y.val) (place_swo H T) 121 #[.pointer (some ⟨w.heap.size, 0, none⟩)] gb 0 L.length d w1 eg hcmp.lays hH hrow.lt (by have := allK_len H H.T; have := h.T_le; rw [hds, hL]; omega)
  change Calls Tryd.prog 120 _ _ _ at hcon
  rw [hds] at hcon
  have HC := Lib.hid hcon
  have LT := Lib.hid hown_lt
  have HE := Lib.hid (And.intro hsz (And.intro hT (And.intro hL (And.intro hd (And.intro hds hdv)))))
  clear hcon hown_lt eg hcmp hH hdj hdv hsz hT hL hd hds
  go_wp2_with (go_at_call 120; refine HC.out.mono ?_; rintro e w2 ⟨rfl, d', n, os, hp, hsd, rfl⟩)
  go_ret
  obtain ⟨hsz, hT, hL, hd, hds, hdv⟩ := HE.out
  obtain ⟨q1, _, q3⟩ := hp
  have hds' : d'.size = L.length := q1.trans hds
  have e1 : d.extract 0 L.length = d := by rw [← hds]; simp
  have e2 : d'.extract 0 L.length = d' := by rw [← hds']; simp
  rw [e1, e2] at q3
  have hll : (d'.toList.map (fun x => (x.val : Int))).length = L.length := by rw [List.length_map, Array.length_toList, hds']
  refine ⟨gb, d'.toList.map (fun x => (x.val : Int)), by rw [hll]; rfl, by omega, ?_, ?_, ?_, ?_⟩
  · rw [← hL, ← hdv]; exact q3.map _
  · unfold byP
    rw [List.pairwise_iff_getElem]
    intro i j hi hj hij
    have hi' : i < d'.size := by simpa using hi
    have hj' : j < d'.size := by simpa using hj
    have := hsd i j (Nat.zero_le _) hij (by omega)
    rw [getElem!_pos d' i hi', getElem!_pos d' j hj'] at this
    simp only [ltOf, decide_eq_false_iff_not] at this
    simp only [List.getElem_map, Array.getElem_toList, Int.toNat_natCast]
    omega
  · rw [hll]
    refine (sortWorld_row (encF T) w1 gb n L.length 3 d' os _ hds' hrow).congr fun i hi => ?_
    have hi' : i < d'.size := by omega
    rw [getElem!_pos d' i hi']
    simp [hi']
  · exact (F0.trans F1).trans' (sortWorld_fr (encF T) w1 gb 0 n d' os) (fun _ _ f => f) (fun k hk (e : k = gb) => by omega)
end Kiln

namespace Kiln

/-- an object as the document has it -/
structure Ob where
  oop : Nat
  fmt : Int
  place : Nat
  born : Int
  cls : Int
  slots : List Int

/-- how many words, in whole numbers from 0 on -/
def lenN (n : Nat) (f : Int) : Nat := if f = 1 then 2 + (n + 3) / 4 else 2 + n
theorem obLen_nat (n : Nat) (f : Int) : obLen n f = lenN n f := by
  unfold obLen lenN; split <;> omega
def Ob.len (o : Ob) : Nat := lenN o.slots.length o.fmt
theorem Ob.len_ge (o : Ob) : 2 ≤ o.len := by unfold Ob.len lenN; split <;> omega

/-- each behind the one ahead of it -/
def Laid : Nat → List Ob → Prop
  | _, [] => True
  | a, o :: l => a ≤ o.place ∧ Laid (o.place + o.len) l

/-- the place behind the last one -/
def endOf : Nat → List Ob → Nat
  | a, [] => a
  | _, o :: l => endOf (o.place + o.len) l

/-- an object lies in the heap -/
structure ObAt (H : Hc) (o : Ob) : Prop where
  o1 : 1 ≤ o.oop
  o2 : o.oop < H.T
  tab : H.table o.oop = o.place
  room : o.place + o.len ≤ H.W
  cls : H.words o.place = o.cls
  clsW : mayB o.cls 0 = true
  fmt : o.fmt = 0 ∨ o.fmt = 1
  n1 : o.slots.length ≤ 8192
  head : H.words (o.place + 1) = 2 * o.slots.length + o.fmt
  slot : ∀ i, i < o.slots.length → slotH H o.place o.fmt i = o.slots.getD i 0
  slotW : ∀ i, i < o.slots.length → mayB (o.slots.getD i 0) o.fmt = true
  word : o.fmt = 1 → ∀ k, 2 ≤ k → k < o.len → 0 ≤ H.words (o.place + k) ∧ H.words (o.place + k) < 4294967296

structure Body (H : Hc) (l : List Ob) : Prop where
  laid : Laid 0 l
  nodup : (l.map (·.oop)).Nodup
  each : ∀ o, o ∈ l → ObAt H o
  only : ∀ i, i < H.T → H.table i = -1 ∨ ∃ o, o ∈ l ∧ o.oop = i

theorem ObAt.toHead {H : Hc} {o : Ob} (h : ObAt H o) : Head H o.place o.slots.length o.fmt :=
  ⟨by omega, by have := h.n1; omega, h.fmt, h.head, by rw [obLen_nat]; have := h.room; unfold Ob.len at this; omega⟩
theorem ObAt.is {H : Hc} {o : Ob} (h : ObAt H o) : Is H o.oop o.place o.slots.length o.fmt :=
  ⟨by have := h.o1; omega, by have := h.o2; omega, by rw [Int.toNat_natCast]; exact h.tab, h.toHead⟩
theorem ObAt.live {H : Hc} {o : Ob} (h : ObAt H o) : Kiln.live H o.oop :=
  ⟨by have := h.o1; omega, by have := h.o2; omega, by rw [Int.toNat_natCast, h.tab]; omega⟩

theorem Laid.mem {l : List Ob} : ∀ {a : Nat}, Laid a l → ∀ o, o ∈ l → a ≤ o.place ∧ o.place + o.len ≤ endOf a l := by
  induction l with
  | nil => intro a _ o ho; cases ho
  | cons x l ih =>
    intro a h o ho
    have hend : x.place + x.len ≤ endOf (x.place + x.len) l := by
      have : ∀ (l : List Ob) (b : Nat), Laid b l → b ≤ endOf b l := by
        intro l
        induction l with
        | nil => intro b _; exact Nat.le_refl _
        | cons y l ih => intro b hb; have := ih _ hb.2; have := hb.1; show b ≤ endOf (y.place + y.len) l; omega
      exact this l _ h.2
    rcases List.mem_cons.1 ho with rfl | ho
    · exact ⟨h.1, hend⟩
    · have := ih h.2 o ho
      have := h.1
      exact ⟨by omega, by show _ ≤ endOf (x.place + x.len) l; omega⟩

theorem Laid.end_ge {l : List Ob} : ∀ {a : Nat}, Laid a l → a ≤ endOf a l := by
  induction l with
  | nil => intro a _; exact Nat.le_refl _
  | cons y l ih => intro a h; have := ih h.2; have := h.1; show a ≤ endOf (y.place + y.len) l; omega

theorem laid_append {xs ys : List Ob} : ∀ {a : Nat}, Laid a (xs ++ ys) ↔ Laid a xs ∧ Laid (endOf a xs) ys := by
  induction xs with
  | nil => intro a; simp [Laid, endOf]
  | cons x xs ih => intro a; simp [Laid, endOf, ih, and_assoc]
theorem endOf_append {xs ys : List Ob} : ∀ {a : Nat}, endOf a (xs ++ ys) = endOf (endOf a xs) ys := by
  induction xs with
  | nil => intro a; rfl
  | cons x xs ih => intro a; exact ih
theorem Laid.mono {l : List Ob} {a b : Nat} (h : Laid b l) (hab : a ≤ b) : Laid a l := by
  cases l with
  | nil => trivial
  | cons o l => exact ⟨Nat.le_trans hab h.1, h.2⟩

/-- two of them do not overlap -/
theorem Laid.apart {l : List Ob} : ∀ {a : Nat}, Laid a l → ∀ x y, x ∈ l → y ∈ l → x.place ≠ y.place → x.place + x.len ≤ y.place ∨ y.place + y.len ≤ x.place := by
  induction l with
  | nil => intro a _ x _ hx; cases hx
  | cons o l ih =>
    intro a h x y hx hy hne
    rcases List.mem_cons.1 hx with hx1 | hx1
    · rcases List.mem_cons.1 hy with hy1 | hy1
      · rw [hx1, hy1] at hne; exact absurd rfl hne
      · rw [hx1]; exact .inl (h.2.mem y hy1).1
    · rcases List.mem_cons.1 hy with hy1 | hy1
      · rw [hy1]; exact .inr (h.2.mem x hx1).1
      · exact ih h.2 x y hx1 hy1 hne

theorem Body.place_inj {H : Hc} {l : List Ob} (h : Body H l) {x y : Ob} (hx : x ∈ l) (hy : y ∈ l) (e : x.oop = y.oop) : x.place = y.place := by
  have a := (h.each x hx).tab
  have b := (h.each y hy).tab
  rw [e] at a
  omega

/-- an object that is not touched -/
theorem ObAt.keep {H H' : Hc} {o : Ob} (h : ObAt H o) (eT : H'.T = H.T) (eW : H'.W = H.W) (et : H'.table o.oop = H.table o.oop)
    (ew : ∀ k, k < o.len → H'.words (o.place + k) = H.words (o.place + k)) : ObAt H' o := by
  have hl := o.len_ge
  have hlen : ∀ i, i < o.slots.length → (o.fmt = 1 → 2 + i / 4 < o.len) ∧ (o.fmt ≠ 1 → 2 + i < o.len) := by
    intro i hi
    unfold Ob.len lenN
    constructor
    · intro e; rw [if_pos e]; omega
    · intro e; rw [if_neg e]; omega
  refine ⟨h.o1, by rw [eT]; exact h.o2, by rw [et]; exact h.tab, by rw [eW]; exact h.room, ?_, h.clsW, h.fmt, h.n1, ?_, ?_, h.slotW, ?_⟩
  · have := ew 0 (by omega); rw [Nat.add_zero] at this; rw [this]; exact h.cls
  · rw [ew 1 (by omega)]; exact h.head
  · intro i hi
    rw [← h.slot i hi]
    unfold slotH
    by_cases e : o.fmt = 1
    · rw [if_pos e, if_pos e, Nat.add_assoc, ew _ ((hlen i hi).1 e)]
    · rw [if_neg e, if_neg e, Nat.add_assoc, ew _ ((hlen i hi).2 e)]
  · intro e k hk hk2
    rw [ew k hk2]
    exact h.word e k hk hk2

/-- the same object at another place -/
theorem ObAt.move {H H' : Hc} {o : Ob} (h : ObAt H o) (p : Nat) (eT : H'.T = H.T) (eW : H'.W = H.W) (et : H'.table o.oop = p) (hp : p + o.len ≤ H.W)
    (ew : ∀ k, k < o.len → H'.words (p + k) = H.words (o.place + k)) : ObAt H' { o with place := p } := by
  have hl := o.len_ge
  have hlen : ∀ i, i < o.slots.length → (o.fmt = 1 → 2 + i / 4 < o.len) ∧ (o.fmt ≠ 1 → 2 + i < o.len) := by
    intro i hi
    unfold Ob.len lenN
    constructor
    · intro e; rw [if_pos e]; omega
    · intro e; rw [if_neg e]; omega
  refine ⟨h.o1, by rw [eT]; exact h.o2, et, by rw [eW]; exact hp, ?_, h.clsW, h.fmt, h.n1, ?_, ?_, h.slotW, ?_⟩
  · have := ew 0 (by omega); rw [Nat.add_zero, Nat.add_zero] at this; show H'.words p = _; rw [this]; exact h.cls
  · show H'.words (p + 1) = _; rw [ew 1 (by omega)]; exact h.head
  · intro i hi
    show slotH H' p o.fmt i = o.slots.getD i 0
    rw [← h.slot i hi]
    unfold slotH
    by_cases e : o.fmt = 1
    · rw [if_pos e, if_pos e, Nat.add_assoc, Nat.add_assoc, ew _ ((hlen i hi).1 e)]
    · rw [if_neg e, if_neg e, Nat.add_assoc, Nat.add_assoc, ew _ ((hlen i hi).2 e)]
  · intro e k hk hk2
    show 0 ≤ H'.words (p + k) ∧ H'.words (p + k) < _
    rw [ew k hk2]
    exact h.word e k hk hk2
end Kiln

namespace Kiln

/-- in a list that lies in order: those ahead end ahead, those behind begin behind -/
theorem laid_split {xs ys : List Ob} {o : Ob} {a : Nat} (h : Laid a (xs ++ o :: ys)) :
    Laid a xs ∧ endOf a xs ≤ o.place ∧ Laid (o.place + o.len) ys ∧ (∀ x, x ∈ xs → x.place + x.len ≤ endOf a xs) ∧ (∀ y, y ∈ ys → o.place + o.len ≤ y.place) := by
  obtain ⟨h1, h2⟩ := laid_append.1 h
  exact ⟨h1, h2.1, h2.2, fun x hx => (h1.mem x hx).2, fun y hy => (h2.2.mem y hy).1⟩

theorem nodup_split {xs ys : List Ob} {o : Ob} (h : ((xs ++ o :: ys).map (·.oop)).Nodup) :
    ((xs ++ ys).map (·.oop)).Nodup ∧ (∀ x, x ∈ xs → x.oop ≠ o.oop) ∧ (∀ y, y ∈ ys → y.oop ≠ o.oop) := by
  simp only [List.map_append, List.map_cons] at h ⊢
  rw [List.nodup_append] at h ⊢
  obtain ⟨h1, h2, h3⟩ := h
  rw [List.nodup_cons] at h2
  refine ⟨⟨h1, h2.2, fun a ha b hb => h3 a ha b (List.mem_cons_of_mem _ hb)⟩, fun x hx => ?_, fun y hy e => ?_⟩
  · exact h3 _ (List.mem_map_of_mem hx) _ List.mem_cons_self
  · exact h2.1 (by rw [← e]; exact List.mem_map_of_mem hy)

theorem away_body {H : Hc} {xs ys : List Ob} {o : Ob} (h : Body H (xs ++ o :: ys)) : Body (awayH H o.oop) (xs ++ ys) := by
  have ho := h.each o (by simp)
  have hl := o.len_ge
  obtain ⟨l1, l2, l3, l4, l5⟩ := laid_split h.laid
  obtain ⟨n1, n2, n3⟩ := nodup_split h.nodup
  have wd : ∀ j, j ≠ o.place → (awayH H o.oop).words j = H.words j := by
    intro j hj
    show upd H.words (H.table o.oop).toNat 0 j = _
    rw [ho.tab, Int.toNat_natCast]
    unfold upd
    rw [if_neg hj]
  have tb : ∀ j, j ≠ o.oop → (awayH H o.oop).table j = H.table j := by
    intro j hj
    show upd H.table o.oop (-1) j = _
    unfold upd
    rw [if_neg hj]
  refine ⟨laid_append.2 ⟨l1, l3.mono (by omega)⟩, n1, ?_, ?_⟩
  · intro x hx
    rcases List.mem_append.1 hx with hx | hx
    · refine (h.each x (by simp [hx])).keep rfl rfl (tb _ (n2 x hx)) fun k hk => wd _ ?_
      have := l4 x hx
      omega
    · refine (h.each x (by simp [hx])).keep rfl rfl (tb _ (n3 x hx)) fun k hk => wd _ ?_
      have := l5 x hx
      omega
  · intro i hi
    by_cases e : i = o.oop
    · left
      show upd H.table o.oop (-1) i = -1
      unfold upd
      rw [if_pos e]
    · rw [tb i e]
      rcases h.only i hi with h1 | ⟨x, hx, hx2⟩
      · exact .inl h1
      · right
        refine ⟨x, ?_, hx2⟩
        rcases List.mem_append.1 hx with hx | hx
        · simp [hx]
        · rcases List.mem_cons.1 hx with hx | hx
          · rw [hx] at hx2; exact absurd hx2.symm e
          · simp [hx]

/-- words moved towards the beginning -/
def slideH (H : Hc) (oop q p n : Nat) : Hc :=
  { H with words := over H.words q n (fun j => H.words (p + j)), table := upd H.table oop q }

theorem slide_body {H : Hc} {xs ys : List Ob} {o : Ob} {q : Nat} (h : Body H (xs ++ o :: ys)) (h1 : endOf 0 xs ≤ q) (h2 : q ≤ o.place) :
    Body (slideH H o.oop q o.place o.len) (xs ++ { o with place := q } :: ys) := by
  have ho := h.each o (by simp)
  have hl := o.len_ge
  obtain ⟨l1, l2, l3, l4, l5⟩ := laid_split h.laid
  obtain ⟨n1, n2, n3⟩ := nodup_split h.nodup
  have wd : ∀ j, j < q ∨ q + o.len ≤ j → (slideH H o.oop q o.place o.len).words j = H.words j := by
    intro j hj
    show over H.words q o.len (fun j => H.words (o.place + j)) j = _
    unfold over
    rw [if_neg (by omega)]
  have tb : ∀ j, j ≠ o.oop → (slideH H o.oop q o.place o.len).table j = H.table j := by
    intro j hj
    show upd H.table o.oop q j = _
    unfold upd
    rw [if_neg hj]
  have hroom := ho.room
  refine ⟨laid_append.2 ⟨l1, h1, l3.mono (by show q + o.len ≤ _; omega)⟩, ?_, ?_, ?_⟩
  · have e : (xs ++ { o with place := q } :: ys).map (·.oop) = (xs ++ o :: ys).map (·.oop) := by simp
    rw [e]; exact h.nodup
  · intro x hx
    rcases List.mem_append.1 hx with hx | hx
    · refine (h.each x (by simp [hx])).keep rfl rfl (tb _ (n2 x hx)) fun k hk => wd _ ?_
      have := l4 x hx
      omega
    · rcases List.mem_cons.1 hx with hx | hx
      · subst hx
        refine ho.move q rfl rfl ?_ (by omega) fun k hk => ?_
        · show upd H.table o.oop q o.oop = q
          unfold upd
          rw [if_pos rfl]
        · show over H.words q o.len (fun j => H.words (o.place + j)) (q + k) = _
          unfold over
          rw [if_pos (by omega), Nat.add_sub_cancel_left]
      · refine (h.each x (by simp [hx])).keep rfl rfl (tb _ (n3 x hx)) fun k hk => wd _ ?_
        have := l5 x hx
        omega
  · intro i hi
    by_cases e : i = o.oop
    · exact .inr ⟨{ o with place := q }, by simp, e.symm⟩
    · rw [tb i e]
      rcases h.only i hi with h1 | ⟨x, hx, hx2⟩
      · exact .inl h1
      · right
        refine ⟨x, ?_, hx2⟩
        rcases List.mem_append.1 hx with hx | hx
        · simp [hx]
        · rcases List.mem_cons.1 hx with hx | hx
          · rw [hx] at hx2; exact absurd hx2.symm e
          · simp [hx]

/-- what does not touch the objects -/
theorem Body.same {H H' : Hc} {l : List Ob} (h : Body H l) (eT : H'.T = H.T) (eW : H'.W = H.W) (et : H'.table = H.table) (ew : ∀ j, j < endOf 0 l → H'.words j = H.words j) : Body H' l :=
  ⟨h.laid, h.nodup, fun o ho => (h.each o ho).keep eT eW (by rw [et]) fun k hk => ew _ (by have := (h.laid.mem o ho).2; omega), fun i hi => by rw [et]; exact h.only i (by rw [← eT]; exact hi)⟩

/-- a heap's objects by oop -/
theorem Body.table_nn {H : Hc} {l : List Ob} (h : Body H l) {i : Nat} (hi : i < H.T) : 0 ≤ H.table i ↔ ∃ o, o ∈ l ∧ o.oop = i := by
  constructor
  · intro h0
    rcases h.only i hi with h1 | h1
    · omega
    · exact h1
  · rintro ⟨o, ho, rfl⟩
    have := (h.each o ho).tab
    omega
theorem Body.live_iff {H : Hc} {l : List Ob} (h : Body H l) (x : Int) : live H x ↔ ∃ o, o ∈ l ∧ (o.oop : Int) = x := by
  constructor
  · rintro ⟨h1, h2, h3⟩
    obtain ⟨o, ho, e⟩ := (h.table_nn (i := x.toNat) (by omega)).1 h3
    exact ⟨o, ho, by omega⟩
  · rintro ⟨o, ho, rfl⟩
    exact (h.each o ho).live
theorem Body.bounds {H : Hc} {l : List Ob} (h : Body H l) (hW : H.W ≤ 1048576) : ∀ i, i < H.T → -1 ≤ H.table i ∧ H.table i ≤ 1048576 := by
  intro i hi
  rcases h.only i hi with h1 | ⟨o, ho, rfl⟩
  · omega
  · have a := (h.each o ho).tab
    have b := (h.each o ho).room
    omega
theorem Body.heads {H : Hc} {l : List Ob} (h : Body H l) : ∀ i, i < H.T → 0 ≤ H.table i → ∃ n f, Head H (H.table i).toNat n f := by
  intro i hi h0
  obtain ⟨o, ho, rfl⟩ := (h.table_nn hi).1 h0
  rw [(h.each o ho).tab, Int.toNat_natCast]
  exact ⟨_, _, (h.each o ho).toHead⟩

theorem nodup_perm {α : Type} [BEq α] [LawfulBEq α] {a b : List α} (ha : a.Nodup) (hb : b.Nodup) (h : ∀ x, x ∈ a ↔ x ∈ b) : a.Perm b := by
  rw [List.perm_iff_count]
  intro x
  by_cases hx : x ∈ a
  · rw [ha.count, hb.count, if_pos hx, if_pos ((h x).1 hx)]
  · rw [List.count_eq_zero_of_not_mem hx, List.count_eq_zero_of_not_mem (fun h' => hx ((h x).2 h'))]

theorem allK_sorted (H : Hc) (k : Nat) : (allK H k).Pairwise (· < ·) := by
  induction k with
  | zero => exact List.Pairwise.nil
  | succ k ih =>
    unfold allK
    split
    · rw [List.pairwise_append]
      refine ⟨ih, List.pairwise_singleton _ _, fun a ha b hb => ?_⟩
      rw [List.mem_singleton] at hb
      have := (mem_allK H k a).1 ha
      omega
    · exact ih

theorem Body.all_perm {H : Hc} {l : List Ob} (h : Body H l) : (l.map fun o => (o.oop : Int)).Perm (allK H H.T) := by
  refine nodup_perm ?_ ?_ ?_
  · have := h.nodup
    rw [show (l.map fun o => (o.oop : Int)) = (l.map (·.oop)).map (fun n : Nat => (n : Int)) by simp]
    exact List.Pairwise.map _ (fun a b hab e => hab (by omega)) this
  · exact (allK_sorted H H.T).imp fun h => by omega
  · intro x
    rw [mem_allK, List.mem_map]
    constructor
    · rintro ⟨o, ho, rfl⟩
      have := h.each o ho
      exact ⟨by omega, by have := this.o2; omega, by rw [Int.toNat_natCast, this.tab]; omega⟩
    · rintro ⟨h1, h2, h3⟩
      obtain ⟨o, ho, e⟩ := (h.table_nn (i := x.toNat) (by omega)).1 h3
      exact ⟨o, ho, by omega⟩
theorem Body.count {H : Hc} {l : List Ob} (h : Body H l) : (allK H H.T).length = l.length := by
  rw [← h.all_perm.length_eq, List.length_map]

/-- what byPlace tells: the objects in their order -/
theorem Body.byPlace {H : Hc} {l : List Ob} (h : Body H l) {m : List Int} (hm : m.Perm (allK H H.T)) (hs : m.Pairwise fun a b => H.table a.toNat ≤ H.table b.toNat) : m = l.map fun o => (o.oop : Int) := by
  refine List.Perm.eq_of_pairwise (le := fun a b => H.table a.toNat ≤ H.table b.toNat) ?_ hs ?_ (hm.trans h.all_perm.symm)
  · intro a b ha hb h1 h2
    have ma := hm.mem_iff.1 ha
    rw [← h.all_perm.mem_iff, List.mem_map] at ma
    rw [List.mem_map] at hb
    obtain ⟨x, hx, rfl⟩ := ma
    obtain ⟨y, hy, rfl⟩ := hb
    rw [Int.toNat_natCast, Int.toNat_natCast, (h.each x hx).tab, (h.each y hy).tab] at h1 h2
    have e : x.place = y.place := by omega
    have : ∀ (l : List Ob) (a : Nat), Laid a l → x ∈ l → y ∈ l → x = y := by
      intro l
      induction l with
      | nil => intro a _ hx; cases hx
      | cons o l ih =>
        intro a hl hx hy
        have ol := o.len_ge
        rcases List.mem_cons.1 hx with hx1 | hx1
        · rcases List.mem_cons.1 hy with hy1 | hy1
          · rw [hx1, hy1]
          · have := (hl.2.mem y hy1).1; rw [hx1] at e; omega
        · rcases List.mem_cons.1 hy with hy1 | hy1
          · have := (hl.2.mem x hx1).1; rw [hy1] at e; omega
          · exact ih _ hl.2 hx1 hy1
    rw [this l 0 h.laid hx hy]
  · have key : ∀ (l : List Ob) (a : Nat), Laid a l → (∀ o, o ∈ l → ObAt H o) → (l.map fun o => (o.oop : Int)).Pairwise fun a b => H.table a.toNat ≤ H.table b.toNat := by
      intro l
      induction l with
      | nil => intro _ _ _; exact List.Pairwise.nil
      | cons o l ih =>
        intro a hl he
        rw [List.map_cons, List.pairwise_cons]
        refine ⟨fun b hb => ?_, ih _ hl.2 fun o ho => he o (List.mem_cons_of_mem _ ho)⟩
        obtain ⟨y, hy, rfl⟩ := List.mem_map.1 hb
        rw [Int.toNat_natCast, Int.toNat_natCast, (he o List.mem_cons_self).tab, (he y (List.mem_cons_of_mem _ hy)).tab]
        have := (hl.2.mem y hy).1
        omega
    exact key l 0 h.laid h.each

/-- the end, as fall reckons it -/
theorem Body.top {H : Hc} {l : List Ob} (h : Body H l) : topH H H.T = endOf 0 l := by
  have up : ∀ k, k ≤ H.T → topH H k ≤ endOf 0 l := by
    intro k
    induction k with
    | zero => intro _; show (0 : Int) ≤ _; omega
    | succ k ih =>
      intro hk
      have := ih (by omega)
      unfold topH
      split
      · rename_i h0
        obtain ⟨o, ho, e⟩ := (h.table_nn (i := k) (by omega)).1 h0
        have ha := h.each o ho
        subst e
        rw [ha.tab, Int.toNat_natCast, ha.toHead.lenAt, obLen_nat]
        have := (h.laid.mem o ho).2
        unfold Ob.len at this
        omega
      · exact this
  have down : ∀ o, o ∈ l → (o.place : Int) + o.len ≤ topH H H.T := by
    intro o ho
    have ha := h.each o ho
    have h1 : (o.place : Int) + o.len ≤ topH H (o.oop + 1) := by
      unfold topH
      rw [if_pos (by rw [ha.tab]; omega), ha.tab, Int.toNat_natCast, ha.toHead.lenAt, obLen_nat]
      unfold Ob.len
      omega
    obtain ⟨j, hj⟩ : ∃ j, H.T = o.oop + 1 + j := ⟨H.T - (o.oop + 1), by have := ha.o2; omega⟩
    have := topH_mono H (o.oop + 1) j
    rw [← hj] at this
    omega
  have hup := up H.T (Nat.le_refl _)
  have h0 := topH_nn H H.T
  have : ∀ (l : List Ob), l = [] ∨ ∃ xs o, l = xs ++ [o] := by
    intro l
    rcases List.eq_nil_or_concat l with h | ⟨xs, o, h⟩
    · exact .inl h
    · exact .inr ⟨xs, o, by rw [h, List.concat_eq_append]⟩
  rcases this l with e | ⟨xs, o, e⟩
  · rw [e] at hup ⊢
    show _ = ((0 : Nat) : Int)
    have : endOf 0 ([] : List Ob) = 0 := rfl
    rw [this] at hup
    omega
  · have hd := down o (by rw [e]; simp)
    have : endOf 0 l = o.place + o.len := by rw [e, endOf_append]; rfl
    rw [this] at hup ⊢
    omega
end Kiln

namespace Kiln
open Go Go.RowKit Go.Proofs

/-- the objects that lie in a heap, and the numbers that are kept of them -/
structure Sim (H : Hc) (l : List Ob) : Prop where
  body : Body H l
  cnt : H.count = l.length
  fin : H.fin = endOf 0 l
  room : endOf 0 l ≤ H.W
  low1 : 1 ≤ H.low
  lowT : H.low ≤ H.T
  low : ∀ i : Nat, 1 ≤ i → (i : Int) < H.low → 0 ≤ H.table i

theorem Sim.len_lt {H : Hc} {l : List Ob} (h : Sim H l) (hT : 1 ≤ H.T) : l.length < H.T := by
  have h1 := h.body.count
  have h0 : ¬ (0 ≤ H.table 0) := by
    intro h0
    obtain ⟨o, ho, e⟩ := (h.body.table_nn (i := 0) (by omega)).1 h0
    have := (h.body.each o ho).o1
    omega
  have : ∀ k, (allK H (k + 1)).length ≤ k := by
    intro k
    induction k with
    | zero => unfold allK; rw [if_neg h0]; exact Nat.le_refl _
    | succ k ih => unfold allK; split <;> (try rw [List.length_append, List.length_singleton]) <;> omega
  obtain ⟨T, hT'⟩ : ∃ T, H.T = T + 1 := ⟨H.T - 1, by omega⟩
  have := this T
  rw [← hT'] at this
  omega

theorem free_no (H : Hc) (w : World) (hA : HAt w H) (oop : Int) (hl : ¬ live H oop) :
    Calls Tryd.prog 98 #[H.ptr, .int .i64 oop] w fun e w' => e = .returned (.int .i64 20) ∧ w = w' := by
  have g := find_no H w hA oop hl
  clear hA hl
  go_enter Tryd.func98, Tryd.ntmps98
  go_wp2_with (go_at_call 102; refine g.mono ?_; rintro e w' ⟨rfl, rfl⟩)
  go_ret
  exact ⟨rfl, rfl⟩

/-- what Free leaves -/
def freeH (H : Hc) (o : Ob) : Hc :=
  { (if ((o.place + o.len : Nat) : Int) = H.fin then fallH (awayH H o.oop) else awayH H o.oop) with turn := H.turn + 1 }

theorem away_sim {H : Hc} {xs ys : List Ob} {o : Ob} (h : Sim H (xs ++ o :: ys)) : Body (awayH H o.oop) (xs ++ ys) ∧ (awayH H o.oop).count = (xs ++ ys).length ∧
    1 ≤ (awayH H o.oop).low ∧ (awayH H o.oop).low ≤ H.T ∧ ∀ i : Nat, 1 ≤ i → (i : Int) < (awayH H o.oop).low → 0 ≤ (awayH H o.oop).table i := by
  have ho := h.body.each o (by simp)
  have hc := h.cnt
  have l1 := h.low1
  have lT := h.lowT
  have o1 := ho.o1
  refine ⟨away_body h.body, ?_, ?_, ?_, ?_⟩
  · show H.count - 1 = _
    simp only [List.length_append, List.length_cons] at hc ⊢
    omega
  · show 1 ≤ min H.low (o.oop : Int); omega
  · show min H.low (o.oop : Int) ≤ _; omega
  · intro i hi hlt
    have hlt' : (i : Int) < min H.low (o.oop : Int) := hlt
    show 0 ≤ upd H.table o.oop (-1) i
    unfold upd
    rw [if_neg (by omega)]
    exact h.low i hi (by omega)

theorem freeH_sim {H : Hc} {xs ys : List Ob} {o : Ob} (h : Sim H (xs ++ o :: ys)) : Sim (freeH H o) (xs ++ ys) := by
  obtain ⟨b, c, l1, lT, low⟩ := away_sim h
  have hf := h.fin
  have hr := h.room
  obtain ⟨q1, q2, q3, q4, q5⟩ := laid_split h.body.laid
  have hl := o.len_ge
  have e : endOf 0 (xs ++ o :: ys) = endOf (o.place + o.len) ys := by rw [endOf_append]; rfl
  have hge : o.place + o.len ≤ endOf (o.place + o.len) ys := q3.end_ge
  have hle : endOf 0 (xs ++ ys) ≤ endOf 0 (xs ++ o :: ys) := by
    rw [e, endOf_append]
    cases ys with
    | nil => show endOf 0 xs ≤ o.place + o.len; omega
    | cons y ys => exact Nat.le_refl _
  unfold freeH
  by_cases hlast : ((o.place + o.len : Nat) : Int) = H.fin
  · rw [if_pos hlast]
    have ht := b.top
    have hT : (awayH H o.oop).T = H.T := rfl
    rw [hT] at ht
    have ht' : topH (awayH H o.oop) (awayH H o.oop).T = endOf 0 (xs ++ ys) := ht
    refine ⟨b.same rfl rfl rfl fun j hj => ?_, c, ht', by show _ ≤ H.W; omega, l1, lT, low⟩
    show over (awayH H o.oop).words (topH (awayH H o.oop) (awayH H o.oop).T).toNat ((awayH H o.oop).fin - topH (awayH H o.oop) (awayH H o.oop).T).toNat (fun _ => 0) j = _
    unfold over
    rw [ht', Int.toNat_natCast, if_neg (by omega)]
  · rw [if_neg hlast]
    refine ⟨b.same rfl rfl rfl fun j hj => rfl, c, ?_, by show _ ≤ H.W; omega, l1, lT, low⟩
    show H.fin = _
    rw [hf, e, endOf_append]
    cases ys with
    | nil => exact absurd (by rw [hf, e]; rfl) hlast
    | cons y ys => rfl

set_option maxRecDepth 100000 in
set_option maxHeartbeats 1000000 in
theorem free_ok (H : Hc) (w : World) (hA : HAt w H) (xs ys : List Ob) (o : Ob) (hS : Sim H (xs ++ o :: ys)) (t0 : 0 ≤ H.turn) (t1 : H.turn ≤ 4611686018427387904) :
    Calls Tryd.prog 98 #[H.ptr, .int .i64 o.oop] w fun e w' => e = .returned (.int .i64 0) ∧ HAt w' (freeH H o) ∧ Fr H.own w w' := by
  have ho := hS.body.each o (by simp)
  have hl := o.len_ge
  have g := find_ok H w hA o.oop o.place (by have := ho.o1; omega) (by have := ho.o2; omega) (by rw [Int.toNat_natCast]; exact ho.tab)
  have e1 := obLen_nat o.slots.length o.fmt
  have g2 := fun w hA => lengthAt_calls H w hA o.place o.slots.length o.fmt ho.toHead
  rw [e1] at g2
  have g2' : ∀ w, HAt w H → Calls Tryd.prog 103 #[H.ptr, .int .i64 o.place] w fun e w' => e = .returned (.int .i64 (o.len : Int)) ∧ w = w' := g2
  have hr := hS.room
  have hf := hS.fin
  have hme := (hS.body.laid.mem o (by simp)).2
  have l1 := hS.low1
  have lT := hS.lowT
  have hcn := hS.cnt
  have hT := hA.T_le
  have hlen := hS.len_lt hA.T_ge
  have g3 := fun W (hW : HAt W H) => away_calls H W hW o.oop o.place ho.o2 ho.tab (by have := ho.room; omega) (by omega) (by omega) (by omega) (by omega)
  have c4 := hA.c4
  have hW := hA.W_le
  obtain ⟨F, hF⟩ : ∃ F : Nat, endOf 0 (xs ++ o :: ys) = F := ⟨_, rfl⟩
  rw [hF] at hf hr hme
  rw [hf] at c4
  have HFIN := Lib.hid hf
  have HF := Lib.hid hF
  clear g2 e1 hf hF hcn
  obtain ⟨p, hp⟩ : ∃ p, p = o.place := ⟨_, rfl⟩
  obtain ⟨n, hn⟩ : ∃ n, n = o.len := ⟨_, rfl⟩
  obtain ⟨k, hk⟩ : ∃ k, k = o.oop := ⟨_, rfl⟩
  rw [← hp] at g g2' hme
  rw [← hn] at g2' hme hl
  rw [← hk] at g
  have G2 := Lib.hid g2'
  have HPN := Lib.hid (And.intro hp (And.intro hn hk))
  have hkT : k ≤ 65537 := by have := ho.o2; omega
  rw [← hk]
  clear g2' ho hp hn
  have g4 : ∀ W, HAt W (awayH H o.oop) → Calls Tryd.prog 94 #[H.ptr] W fun e w' => e = .returned (.tuple #[]) ∧ HAt w' (fallH (awayH H o.oop)) ∧ Fr H.own W w' := by
    intro W hW
    obtain ⟨b, _⟩ := away_sim hS
    have ht := b.top
    have hle : endOf 0 (xs ++ ys) ≤ endOf 0 (xs ++ o :: ys) := by
      obtain ⟨q1, q2, q3, q4, q5⟩ := laid_split hS.body.laid
      have ol := o.len_ge
      rw [endOf_append, endOf_append]
      cases ys with
      | nil => show endOf 0 xs ≤ o.place + o.len; omega
      | cons y ys => exact Nat.le_refl _
    rw [HF.out] at hle
    exact fall_calls (awayH H o.oop) W hW b.heads (by rw [ht]; show _ ≤ H.fin; rw [HFIN.out]; omega) (by show H.fin ≤ H.W; rw [HFIN.out]; omega)
  rw [← hk] at g3 g4
  have G3 := Lib.hid g3
  have G4 := Lib.hid g4
  clear g3 g4 hk
  by_cases hlast : p + n = F
  · have d1 : (((p : Int) + n) == (F : Int)) = true := by simp; omega
    go_enter Tryd.func98, Tryd.ntmps98
    go_wp2_with (go_at_call 102; refine g.mono ?_; rintro e w' ⟨rfl, rfl⟩)
    go_quiet ((go_at_call 103; refine Calls.quiet_of_same ((G2.out _ (hA.drewN _)).mono fun e w' ⟨he, hw⟩ => ⟨he, hw.symm⟩)))
    go_wp2_with (go_at_call 93; refine (G3.out _ (hA.drewN _)).mono ?_; rintro e w1 ⟨rfl, hA1, F1⟩)
    refine (G4.out _ hA1).mono ?_
    rintro e w2 ⟨rfl, hA2, F2⟩
    have c8 : w2.cell? ⟨H.b, 8, none⟩ = some (.int .i64 H.turn) := hA2.c8
    have f8 : w2.frozen? ⟨H.b, 8, none⟩ = false := hA2.fz 8
    go_wp2_with fail
    go_ret
    refine ⟨rfl, ?_, ((((Fr.refl _ _).drewN _).trans F1).trans F2).setCell (fun _ => .inl rfl) _⟩
    obtain ⟨q1, q2, q3⟩ := HPN.out
    unfold freeH
    rw [if_pos (by rw [HFIN.out, ← q1, ← q2, hlast]), ← q3]
    exact hA2.setTurn _
  · have d1 : (((p : Int) + n) == (F : Int)) = false := by simp; omega
    go_enter Tryd.func98, Tryd.ntmps98
    go_wp2_with (go_at_call 102; refine g.mono ?_; rintro e w' ⟨rfl, rfl⟩)
    go_quiet ((go_at_call 103; refine Calls.quiet_of_same ((G2.out _ (hA.drewN _)).mono fun e w' ⟨he, hw⟩ => ⟨he, hw.symm⟩)))
    go_wp2_with (go_at_call 93; refine (G3.out _ (hA.drewN _)).mono ?_; rintro e w1 ⟨rfl, hA1, F1⟩; have c8 : w1.cell? ⟨H.b, 8, none⟩ = some (.int .i64 H.turn) := hA1.c8; have f8 : w1.frozen? ⟨H.b, 8, none⟩ = false := hA1.fz 8)
    go_ret
    refine ⟨rfl, ?_, (((Fr.refl _ _).drewN _).trans F1).setCell (fun _ => .inl rfl) _⟩
    obtain ⟨q1, q2, q3⟩ := HPN.out
    unfold freeH
    rw [if_neg (by rw [HFIN.out, ← q1, ← q2]; omega), ← q3]
    exact hA1.setTurn _
end Kiln

namespace Kiln

/-- those that stay, slid together from q on -/
def slid (s : Nat → Bool) : Nat → List Ob → List Ob
  | _, [] => []
  | q, o :: l => if s o.oop then { o with place := q } :: slid s (q + o.len) l else slid s q l

theorem slid_pos (s : Nat → Bool) (q : Nat) (o : Ob) (l : List Ob) (h : s o.oop = true) : slid s q (o :: l) = { o with place := q } :: slid s (q + o.len) l := by
  conv => lhs; unfold slid
  rw [if_pos h]
theorem slid_neg (s : Nat → Bool) (q : Nat) (o : Ob) (l : List Ob) (h : s o.oop = false) : slid s q (o :: l) = slid s q l := by
  conv => lhs; unfold slid
  rw [if_neg (by rw [h]; exact Bool.false_ne_true)]

theorem slid_append (s : Nat → Bool) (ys : List Ob) : ∀ (xs : List Ob) (q : Nat), slid s q (xs ++ ys) = slid s q xs ++ slid s (endOf q (slid s q xs)) ys
  | [], _ => rfl
  | o :: xs, q => by
    rw [List.cons_append]
    cases h : s o.oop
    · rw [slid_neg s q o _ h, slid_neg s q o _ h, slid_append s ys xs]
    · rw [slid_pos s q o _ h, slid_pos s q o _ h, List.cons_append, slid_append s ys xs]
      rfl

theorem slid_end (s : Nat → Bool) : ∀ (l : List Ob) (q a : Nat), Laid a l → q ≤ a → endOf q (slid s q l) ≤ endOf a l
  | [], q, a, _, hq => hq
  | o :: l, q, a, h, hq => by
    unfold slid
    have := h.1
    by_cases hs : s o.oop
    · rw [if_pos hs]
      exact slid_end s l (q + o.len) (o.place + o.len) h.2 (by omega)
    · rw [if_neg hs]
      exact slid_end s l q (o.place + o.len) h.2 (by omega)

theorem slid_len (s : Nat → Bool) : ∀ (l : List Ob) (q : Nat), (slid s q l).length ≤ l.length
  | [], _ => Nat.le_refl _
  | o :: l, q => by
    unfold slid
    split
    · have := slid_len s l (q + o.len); simp; omega
    · have := slid_len s l q; simp; omega

/-- one step of Keep, an object that goes -/
theorem slid_away (s : Nat → Bool) (xs : List Ob) (o : Ob) (hs : s o.oop = false) : slid s 0 (xs ++ [o]) = slid s 0 xs := by
  rw [slid_append, slid_neg s _ o _ hs]; exact List.append_nil _
/-- one step of Keep, an object that stays -/
theorem slid_stay (s : Nat → Bool) (xs : List Ob) (o : Ob) (hs : s o.oop = true) : slid s 0 (xs ++ [o]) = slid s 0 xs ++ [{ o with place := endOf 0 (slid s 0 xs) }] := by
  rw [slid_append, slid_pos s _ o _ hs]; rfl

/-- in the midst of Keep: xs are done, ys are to come -/
structure Mid (H0 H : Hc) (s : Nat → Bool) (xs ys : List Ob) : Prop where
  body : Body H (slid s 0 xs ++ ys)
  cnt : H.count = (((slid s 0 xs).length + ys.length : Nat) : Int)
  low1 : 1 ≤ H.low
  lowT : H.low ≤ H.T
  low : ∀ i : Nat, 1 ≤ i → (i : Int) < H.low → 0 ≤ H.table i
  b : H.b = H0.b
  wb : H.wb = H0.wb
  tb : H.tb = H0.tb
  bb : H.bb = H0.bb
  W : H.W = H0.W
  T : H.T = H0.T
  born : H.born = H0.born
  fin : H.fin = H0.fin
  mark : H.mark = H0.mark
  ever : H.ever = H0.ever
  turn : H.turn = H0.turn

theorem Mid.start {H : Hc} {s : Nat → Bool} {l : List Ob} (h : Sim H l) : Mid H H s [] l :=
  ⟨h.body, by rw [h.cnt]; show _ = ((0 + l.length : Nat) : Int); omega, h.low1, h.lowT, h.low, rfl, rfl, rfl, rfl, rfl, rfl, rfl, rfl, rfl, rfl, rfl⟩

theorem Mid.away {H0 H : Hc} {s : Nat → Bool} {xs ys : List Ob} {o : Ob} (h : Mid H0 H s xs (o :: ys)) (hs : s o.oop = false) : Mid H0 (awayH H o.oop) s (xs ++ [o]) ys := by
  have ho := h.body.each o (by simp)
  have hc := h.cnt
  have l1 := h.low1
  have lT := h.lowT
  have o1 := ho.o1
  refine ⟨by rw [slid_away s xs o hs]; exact away_body h.body, ?_, ?_, ?_, ?_, h.b, h.wb, h.tb, h.bb, h.W, h.T, h.born, h.fin, h.mark, h.ever, h.turn⟩
  · show H.count - 1 = _
    rw [slid_away s xs o hs]
    simp only [List.length_cons] at hc
    omega
  · show 1 ≤ min H.low (o.oop : Int); omega
  · show min H.low (o.oop : Int) ≤ (H.T : Int); omega
  · intro i hi hlt
    have hlt' : (i : Int) < min H.low (o.oop : Int) := hlt
    show 0 ≤ upd H.table o.oop (-1) i
    unfold upd
    rw [if_neg (by omega)]
    exact h.low i hi (by omega)

theorem Mid.stay {H0 H : Hc} {s : Nat → Bool} {xs ys : List Ob} {o : Ob} (h : Mid H0 H s xs (o :: ys)) (hs : s o.oop = true) :
    Mid H0 (slideH H o.oop (endOf 0 (slid s 0 xs)) o.place o.len) s (xs ++ [o]) ys := by
  have hq : endOf 0 (slid s 0 xs) ≤ o.place := (laid_split h.body.laid).2.1
  have hc := h.cnt
  refine ⟨?_, ?_, h.low1, h.lowT, ?_, h.b, h.wb, h.tb, h.bb, h.W, h.T, h.born, h.fin, h.mark, h.ever, h.turn⟩
  · rw [slid_stay s xs o hs, List.append_assoc]
    exact slide_body h.body (Nat.le_refl _) hq
  · show H.count = _
    rw [slid_stay s xs o hs]
    simp only [List.length_cons, List.length_append, List.length_nil] at hc ⊢
    omega
  · intro i hi hlt
    show 0 ≤ upd H.table o.oop _ i
    unfold upd
    split
    · omega
    · exact h.low i hi hlt

/-- what Keep leaves, behind the loop -/
def keptH (H : Hc) (q : Nat) : Hc :=
  { H with words := over H.words q (H.fin - q).toNat (fun _ => 0), fin := q, turn := H.turn + 1 }

theorem Mid.done {H0 H : Hc} {s : Nat → Bool} {l : List Ob} (h : Mid H0 H s l []) (hr : endOf 0 (slid s 0 l) ≤ H0.W) : Sim (keptH H (endOf 0 (slid s 0 l))) (slid s 0 l) := by
  have b := h.body
  rw [List.append_nil] at b
  refine ⟨b.same rfl rfl rfl fun j hj => ?_, by have := h.cnt; rw [List.length_nil, Nat.add_zero] at this; exact this, rfl, by show _ ≤ H.W; rw [h.W]; exact hr, h.low1, h.lowT, h.low⟩
  show over H.words (endOf 0 (slid s 0 l)) (H.fin - (endOf 0 (slid s 0 l) : Nat)).toNat (fun _ => 0) j = _
  unfold over
  rw [if_neg (by omega)]
end Kiln

namespace Kiln
open Go Go.RowKit Go.Proofs

/-- a list of numbers that lies in memory, from off on in block b -/
structure Ints (w : World) (ao : Option Addr) (b off : Nat) (l : List Int) : Prop where
  at0 : 0 < l.length → ao = some ⟨b, off, none⟩
  cell : ∀ i, i < l.length → w.cell? ⟨b, off + i, none⟩ = some (.int .i64 (l.getD i 0))
theorem Ints.fr {w w' : World} {S : Nat → Prop} {ao : Option Addr} {b off : Nat} {l : List Int} (h : Ints w ao b off l) (f : Fr S w w') (hn : 0 < l.length → ¬ S b) : Ints w' ao b off l :=
  ⟨h.at0, fun i hi => f.cell (h.cell i hi) (hn (by omega))⟩

theorem getD_mem {l : List Int} {i : Nat} (h : i < l.length) : l.getD i 0 ∈ l := by
  rw [List.getD_eq_getElem?_getD, List.getElem?_eq_getElem h]
  exact List.getElem_mem h
theorem mem_getD {l : List Int} {x : Int} (h : x ∈ l) : ∃ i, i < l.length ∧ l.getD i 0 = x := by
  obtain ⟨i, hi, e⟩ := List.mem_iff_getElem.1 h
  exact ⟨i, hi, by rw [List.getD_eq_getElem?_getD, List.getElem?_eq_getElem hi]; exact e⟩

/-- what Keep's first loop has marked -/
def stayF (l : List Int) (k : Nat) : Nat → Int := fun i => if (i : Int) ∈ l.take k then 1 else 0

theorem stayF_succ (l : List Int) (k : Nat) (hk : k < l.length) (h : 0 ≤ l.getD k 0) : upd (stayF l k) (l.getD k 0).toNat 1 = stayF l (k + 1) := by
  have e : l.take (k + 1) = l.take k ++ [l.getD k 0] := by
    rw [List.take_succ_eq_append_getElem hk, List.getD_eq_getElem?_getD, List.getElem?_eq_getElem hk]; rfl
  funext j
  unfold upd stayF
  rw [e]
  by_cases h1 : j = (l.getD k 0).toNat
  · rw [if_pos h1, if_pos (by rw [List.mem_append, List.mem_singleton]; right; omega)]
  · rw [if_neg h1]
    by_cases h2 : (j : Int) ∈ l.take k
    · rw [if_pos h2, if_pos (by rw [List.mem_append]; exact .inl h2)]
    · rw [if_neg h2, if_neg (fun hm => by rw [List.mem_append, List.mem_singleton] at hm; exact hm.elim h2 (fun h3 => h1 (by omega)))]

set_option maxRecDepth 100000 in
set_option maxHeartbeats 1000000 in
theorem keep_no (H : Hc) (w : World) (hA : HAt w H) (ao : Option Addr) (b off cap : Nat) (l : List Int) (hl : Ints w ao b off l) (hlen : l.length ≤ 17592186044416) (x : Int) (hx : x ∈ l) (hxl : ¬ live H x) :
    Calls Tryd.prog 37 #[H.ptr, .slice ao l.length cap] w fun e w' => e = .returned (.tuple #[.int .i64 0, .int .i64 0, .int .i64 20]) ∧ Fr (fun _ => False) w w' := by
  have g := gone_calls H w hA
  have c1 := hA.c1
  have hT := hA.T_le
  have mk := run_make_row' (P := Tryd.prog) 41 3 (.int .i64 0) 8 Tryd.underlying41 Tryd.infoInt rfl .i64 .i64 H.T (by omega) (by omega)
  obtain ⟨n, hn⟩ : ∃ n, n = l.length := ⟨_, rfl⟩
  have hn0 : 0 < n := by rw [hn]; exact List.length_pos_of_mem hx
  obtain rfl := hl.at0 (by omega)
  rw [← hn] at hlen ⊢
  have HN := Lib.hid hn
  clear hn
  go_enter Tryd.func37, Tryd.ntmps37
  go_wp2_with (go_at_call 72; refine g.mono ?_; rintro e w' ⟨rfl, rfl⟩)
  go_loopw [29] (fun x wr => ∃ k : Nat, k ≤ n ∧ x = .int .i64 k ∧ HAt wr H ∧ Fr (fun _ => False) w wr ∧ (∀ j, j < k → live H (l.getD j 0)) ∧ wr.rowIs w.heap.size 3 H.T (fun i => .int .i64 (stayF l k i))) (fun x _ => n - (RowKit.intOf x).toNat)
  case atStart =>
    refine ⟨0, Nat.zero_le _, rfl, hA.alloc _, (Fr.refl _ _).alloc _, fun j hj => by omega, ?_⟩
    refine (made_row _ _ _ _ (push_at _ _ _ rfl)).congr fun i _ => ?_
    unfold stayF
    simp
  case round =>
    obtain ⟨k, hk, rfl, hA1, F1, hlv, hst⟩ := hrel
    by_cases hkn : k < n
    · have ck := F1.cell (hl.cell k (by rw [← HN.out]; exact hkn)) id
      by_cases hlk : live H (l.getD k 0)
      · have hlk' := hlk
        obtain ⟨q1, q2, q3⟩ := hlk'
        have g2 := find_ok H wr hA1 (l.getD k 0) (H.table (l.getD k 0).toNat).toNat q1 q2 (by omega)
        obtain ⟨v, hv⟩ : ∃ v, v = l.getD k 0 := ⟨_, rfl⟩
        have hs := stayF_succ l k (by rw [← HN.out]; exact hkn) (by omega)
        have HS := Lib.hid (And.intro hs (And.intro hlk hlv))
        rw [← hv] at ck g2 q1 q2 q3
        have cs := hst.cell (i := v.toNat) (by omega)
        have fs := hst.frozen v.toNat
        have HV := Lib.hid hv
        clear hv hs hlk hlv q3
        go_wp2_with (go_at_call 102; refine g2.mono ?_; rintro e w' ⟨rfl, rfl⟩)
        go_roundw
        case rel =>
          obtain ⟨hs, hlk, hlv⟩ := HS.out
          refine ⟨k + 1, by omega, by go_num, hA1.setOther (fun ho => ?_) ?_ _, F1.setCell (fun hlt => absurd hlt (Nat.lt_irrefl _)) _, ?_, ?_⟩
          · have := hA.lt ho; exact absurd this (Nat.lt_irrefl _)
          · have := hA.kd.lt; show _ ≠ w.heap.size; omega
          · intro j hj
            by_cases e : j = k
            · rw [e]; exact hlk
            · exact hlv j (by omega)
          · rw [← hs, ← HV.out]; exact HAt.row_upd hst v.toNat 1
        case measure => simp [RowKit.intOf]; omega
      · have g2 := find_no H wr hA1 (l.getD k 0) hlk
        clear hlk
        generalize l.getD k 0 = v at ck g2
        go_wp2_with (go_at_call 102; refine g2.mono ?_; rintro e w' ⟨rfl, rfl⟩)
        go_ret3
        exact ⟨rfl, F1⟩
    · exfalso
      obtain ⟨i, hi, e⟩ := mem_getD hx
      exact hxl (e ▸ hlv i (by rw [← HN.out] at hi; omega))

theorem stayF_end (l : List Int) (i : Nat) : stayF l l.length i = if (i : Int) ∈ l then 1 else 0 := by
  unfold stayF; rw [List.take_length]

/-- is it in the list? -/
def inL (l : List Int) (i : Nat) : Bool := decide ((i : Int) ∈ l)

set_option maxRecDepth 100000 in
set_option maxHeartbeats 2000000 in
theorem keep_ok (H : Hc) (w : World) (hA : HAt w H) (os : List Ob) (hS : Sim H os) (ao : Option Addr) (b off cap : Nat) (l : List Int) (hl : Ints w ao b off l) (hlen : l.length ≤ 17592186044416) (hlv : ∀ x, x ∈ l → live H x) (_hb : 0 < l.length → ¬ H.own b)
    (t0 : 0 ≤ H.turn) (t1 : H.turn ≤ 4611686018427387904) :
    Calls Tryd.prog 37 #[H.ptr, .slice ao l.length cap] w fun e w' => ∃ Hm, e = .returned (.tuple #[.int .i64 ((os.length : Int) - (slid (inL l) 0 os).length), .int .i64 ((endOf 0 os : Int) - endOf 0 (slid (inL l) 0 os)), .int .i64 0]) ∧
      HAt w' (keptH Hm (endOf 0 (slid (inL l) 0 os))) ∧ Mid H Hm (inL l) os [] ∧ Fr H.own w w' := by
  have g := gone_calls H w hA
  have c1 := hA.c1
  have hT := hA.T_le
  have mk := run_make_row' (P := Tryd.prog) 41 3 (.int .i64 0) 8 Tryd.underlying41 Tryd.infoInt rfl .i64 .i64 H.T (by omega) (by omega)
  obtain ⟨n, hn⟩ : ∃ n, n = l.length := ⟨_, rfl⟩
  rw [← hn] at hlen ⊢
  have hcn := hS.cnt
  have hfn := hS.fin
  have hrm := hS.room
  have hW := hA.W_le
  have hlt := hS.len_lt hA.T_ge
  obtain ⟨C, hC⟩ : ∃ C, C = os.length := ⟨_, rfl⟩
  obtain ⟨F, hF⟩ : ∃ F, F = endOf 0 os := ⟨_, rfl⟩
  have HN := Lib.hid (And.intro hn (And.intro hC (And.intro hF (And.intro hcn hfn))))
  rw [← hC] at hlt
  rw [← hF] at hrm
  clear hn hC hF hcn hfn
  go_enter Tryd.func37, Tryd.ntmps37
  go_wp2_with (go_at_call 72; refine g.mono ?_; rintro e w' ⟨rfl, rfl⟩)
  go_loopw [29] (fun x wr => ∃ k : Nat, k ≤ n ∧ x = .int .i64 k ∧ HAt wr H ∧ Fr (fun _ => False) w wr ∧ wr.rowIs w.heap.size 3 H.T (fun i => .int .i64 (stayF l k i))) (fun x _ => n - (RowKit.intOf x).toNat)
  case atStart =>
    refine ⟨0, Nat.zero_le _, rfl, hA.alloc _, (Fr.refl _ _).alloc _, ?_⟩
    refine (made_row _ _ _ _ (push_at _ _ _ rfl)).congr fun i _ => ?_
    unfold stayF
    simp
  case round =>
    obtain ⟨k, hk, rfl, hA1, F1, hst⟩ := hrel
    by_cases hkn : k < n
    · have hkl : k < l.length := by rw [← HN.out.1]; exact hkn
      obtain rfl := hl.at0 (by omega)
      have ck := F1.cell (hl.cell k hkl) id
      obtain ⟨q1, q2, q3⟩ := hlv _ (getD_mem hkl)
      have g2 := find_ok H wr hA1 (l.getD k 0) (H.table (l.getD k 0).toNat).toNat q1 q2 (by omega)
      have hs := stayF_succ l k hkl (by omega)
      obtain ⟨v, hv⟩ : ∃ v, v = l.getD k 0 := ⟨_, rfl⟩
      have HS := Lib.hid hs
      rw [← hv] at ck g2 q1 q2 q3
      have cs := hst.cell (i := v.toNat) (by omega)
      have fs := hst.frozen v.toNat
      have HV := Lib.hid hv
      clear hv hs q3
      go_wp2_with (go_at_call 102; refine g2.mono ?_; rintro e w' ⟨rfl, rfl⟩)
      go_roundw
      case rel =>
        refine ⟨k + 1, by omega, by go_num, hA1.setOther (fun ho => ?_) ?_ _, F1.setCell (fun hlt => absurd hlt (Nat.lt_irrefl _)) _, ?_⟩
        · have := hA.lt ho; exact absurd this (Nat.lt_irrefl _)
        · have := hA.kd.lt; show _ ≠ w.heap.size; omega
        · rw [← HS.out, ← HV.out]; exact HAt.row_upd hst v.toNat 1
      case measure => simp [RowKit.intOf]; omega
    · obtain rfl : k = n := by omega
      have c3 : wr.cell? ⟨H.b, 3, none⟩ = some (.int .i64 (C : Int)) := by rw [HN.out.2.1, ← HN.out.2.2.2.1]; exact hA1.c3
      have c4 : wr.cell? ⟨H.b, 4, none⟩ = some (.int .i64 (F : Int)) := by rw [HN.out.2.2.1, ← HN.out.2.2.2.2]; exact hA1.c4
      go_wp2_with fail
      go_quiet (fail)
      have g3 := byPlace_calls H (wr.drewN nq) (hA1.drewN nq) (by rw [HN.out.2.2.2.1, hS.body.count]) (hS.body.bounds hW)
      have G3 := Lib.hid g3
      clear g3
      go_wp2_with (go_at_call 73; refine G3.out.mono ?_; rintro e w2 ⟨gl, m, he, hgl, hm1, hm2, hrow, F2⟩; have hm := hS.body.byPlace hm1 hm2; have hmC : m.length = C := (by rw [hm, List.length_map, HN.out.2.1]); rw [hmC] at he hrow; subst he)
      have hmg : ∀ i (hi : i < os.length), m.getD i 0 = ((os[i]'hi).oop : Int) := by
        intro i hi
        rw [hm, List.getD_eq_getElem?_getD, List.getElem?_map, List.getElem?_eq_getElem hi]; rfl
      have HMG := Lib.hid hmg
      have hA2 := (hA1.drewN nq).fr F2 (fun _ _ => id) id
      have hst2 := F2.row (show (wr.drewN nq).rowIs w.heap.size 3 H.T _ from hst) id
      have F3 : Fr H.own w w2 := ((F1.drewN nq).trans F2).mono (fun _ _ => False.elim)
      have hgw : w.heap.size < gl := by have := hst.lt; have : (wr.drewN nq).heap.size = wr.heap.size := rfl; omega
      have hgs : ∀ k, H.own k → k < w.heap.size := fun k hk => hA.lt hk
      have HGS := Lib.hid hgs
      clear hgl hm hmg hgs hm1 hm2 G3 hmC
      go_loopw [14, 57] (fun q x wr => ∃ (i : Nat) (Hm : Hc), i ≤ C ∧ x = .int .i64 i ∧ q = .int .i64 (endOf 0 (slid (inL l) 0 (os.take i)) : Nat) ∧ HAt wr Hm ∧ Mid H Hm (inL l) (os.take i) (os.drop i) ∧ Fr H.own w wr ∧
        wr.rowIs w.heap.size 3 H.T (fun i => .int .i64 (stayF l k i)) ∧ wr.rowIs gl 3 C (fun i => .int .i64 (m.getD i 0))) (fun _ x _ => C - (RowKit.intOf x).toNat)
      case atStart => exact ⟨0, H, Nat.zero_le _, rfl, rfl, hA2, Mid.start hS, F3, hst2, hrow⟩
      case round =>
        obtain ⟨i, Hm, hi, rfl, rfl, hA3, hM, F4, hst3, hrow3⟩ := hrel
        by_cases hiC : i < C
        · have hio : i < os.length := by rw [← HN.out.2.1]; exact hiC
          obtain ⟨o, ho⟩ : ∃ o, o = os[i]'hio := ⟨_, rfl⟩
          have hdr : os.drop i = o :: os.drop (i + 1) := by rw [ho]; exact List.drop_eq_getElem_cons hio
          have htk : os.take (i + 1) = os.take i ++ [o] := by rw [ho]; exact List.take_succ_eq_append_getElem hio
          rw [hdr] at hM
          have hob := hM.body.each o (by simp)
          have cl := hrow3.cell (i := i) hiC
          rw [HMG.out i hio, ← ho] at cl
          have hT2 : o.oop < H.T := by have := hob.o2; rw [hM.T] at this; exact this
          have cs := hst3.cell (i := o.oop) hT2
          have c1' : wr.cell? ⟨H.b, 1, none⟩ = some (.slice (some ⟨H.tb, 0, none⟩) H.T H.T) := by rw [← hM.b, ← hM.tb, ← hM.T]; exact hA3.c1
          have ct : wr.cell? ⟨H.tb, o.oop, none⟩ = some (.int .i64 (o.place : Int)) := by rw [← hM.tb, ← hob.tab]; exact hA3.ht.cell (by rw [hM.T]; exact hT2)
          have ft : wr.frozen? ⟨H.tb, o.oop, none⟩ = false := by rw [← hM.tb]; exact hA3.ht.frozen _
          have hM0 := Lib.hid hM
          have HTK := Lib.hid htk
          have hkl : k = l.length := HN.out.1
          cases hs : inL l o.oop
          · have hse : stayF l k o.oop = 0 := by
              unfold inL at hs
              rw [hkl, stayF_end, if_neg (by simpa using hs)]
            rw [hse] at cs
            have l1 := hM.low1
            have lT := hM.lowT
            have eT := hM.T
            have hMc := hM.cnt
            have hsl := slid_len (inL l) (os.take i) 0
            have hdl : (os.take i).length + (o :: os.drop (i + 1)).length = os.length := by rw [← hdr, ← List.length_append, List.take_append_drop]
            have hCo := HN.out.2.1
            have g4 := away_calls Hm wr hA3 o.oop o.place hob.o2 hob.tab (by have := hob.room; have := o.len_ge; omega) (by omega) (by omega) (by omega) (by omega)
            have e0 : Hm.ptr = H.ptr := by show Value.pointer (some ⟨Hm.b, 0, none⟩) = _; rw [hM.b]
            rw [e0] at g4
            have G4 := Lib.hid g4
            have HS := Lib.hid hs
            have hME : Hm.own = H.own := by unfold Hc.own; rw [hM.b, hM.wb, hM.tb, hM.bb]
            have HME := Lib.hid hME
            clear hs hse g4 e0 hkl hdr ho l1 lT eT hMc hsl hdl hCo hM hob hME htk
            obtain ⟨ok, hok⟩ : ∃ ok, ok = o.oop := ⟨_, rfl⟩
            have HOK := Lib.hid hok
            rw [← hok] at cl hT2 cs ct ft G4
            clear hok
            go_wp2_with (go_at_call 93; refine G4.out.mono ?_; rintro e w3 ⟨rfl, hA4, F5⟩)
            go_roundw
            case rel =>
              have hM1 := hM0.out.away HS.out
              refine ⟨i + 1, awayH Hm ok, by omega, by go_num, ?_, hA4, ?_, F4.trans' F5 (fun _ _ => id) (fun j _ h => by rw [← HME.out]; exact h), ?_, ?_⟩
              · rw [HTK.out, slid_away _ _ _ HS.out]
              · rw [HTK.out, HOK.out]; exact hM1
              · exact F5.row hst3 (by rw [HME.out]; exact fun h => absurd (HGS.out _ h) (Nat.lt_irrefl _))
              · exact F5.row hrow3 (by rw [HME.out]; exact fun h => by have := HGS.out _ h; omega)
            case measure => simp [RowKit.intOf]; omega
          · have hse : stayF l k o.oop = 1 := by
              unfold inL at hs
              rw [hkl, stayF_end, if_pos (by simpa using hs)]
            rw [hse] at cs
            have g5 := lengthAt_calls Hm wr hA3 o.place o.slots.length o.fmt hob.toHead
            rw [obLen_nat] at g5
            have e0 : Hm.ptr = H.ptr := by show Value.pointer (some ⟨Hm.b, 0, none⟩) = _; rw [hM.b]
            rw [e0] at g5
            obtain ⟨ln, hln⟩ : ∃ ln, ln = o.len := ⟨_, rfl⟩
            have hl1 : lenN o.slots.length o.fmt = ln := hln.symm
            rw [hl1] at g5
            obtain ⟨pl, hpl⟩ : ∃ pl, pl = o.place := ⟨_, rfl⟩
            have hrm2 : pl + ln ≤ H.W := by rw [hpl, hln, ← hM.W]; exact hob.room
            have hl2 : 2 ≤ ln := by rw [hln]; exact o.len_ge
            rw [← hpl] at g5 ct
            obtain ⟨q, hq⟩ : ∃ q, q = endOf 0 (slid (inL l) 0 (os.take i)) := ⟨_, rfl⟩
            have hqW : q ≤ H.W := by rw [hq]; have := (laid_split hM.body.laid).2.1; omega
            have hwr : IntKind.i64.wrap ((pl : Int) + ln) = ((pl + ln : Nat) : Int) := by rw [IntKind.wrap_i64]; omega
            have hqp : q ≤ pl := by rw [hq, hpl]; exact (laid_split hM.body.laid).2.1
            have c0' : wr.cell? ⟨H.b, 0, none⟩ = some (.slice (some ⟨H.wb, 0, none⟩) H.W H.W) := by rw [← hM.b, ← hM.wb, ← hM.W]; exact hA3.c0
            have G5 := Lib.hid g5
            have HS := Lib.hid hs
            have hME : Hm.own = H.own := by unfold Hc.own; rw [hM.b, hM.wb, hM.tb, hM.bb]
            have HME := Lib.hid hME
            have HMW := Lib.hid (And.intro hM.wb (And.intro hM.tb hM.W))
            have HPL := Lib.hid (And.intro hpl hln)
            have HQ := Lib.hid hq
            rw [← hq]
            clear hs hse g5 e0 hkl hdr ho hM hob hME htk hln hl1 hpl hq
            obtain ⟨ok, hok⟩ : ∃ ok, ok = o.oop := ⟨_, rfl⟩
            have HOK := Lib.hid hok
            rw [← hok] at cl hT2 cs ct ft
            clear hok
            go_wp2_with (go_at_call 103; refine G5.out.mono ?_; rintro e w3 ⟨rfl, rfl⟩)
            go_still_tail 15, (by kernel_rfl)
            refine wpStill_step (fun K hK => ?_)
            go_simp
            rw [if_pos ⟨by omega, by omega⟩, if_pos (by omega)]
            dsimp only
            refine ⟨rfl, hK _ ?_⟩
            clear hK K
            refine wpStill_nil ?_
            change wpList _ _ _ _ _ wr.drew
            have e1 : ((pl : Int) + ln).toNat - pl = ln := by omega
            rw [e1, if_neg (by omega : ¬ H.W = pl), if_neg (by omega : ¬ H.W = q)]
            clear e1 hwr
            obtain ⟨ewb, etb, eW⟩ := HMW.out
            have hso := hA3.drew.words_some q ln (by rw [eW]; omega)
            have hmv : HAt (wr.drew.setCells H.wb q ((List.range ln).map fun j => Value.int .i64 (Hm.words (pl + j)))) { Hm with words := over Hm.words q ln (fun j => Hm.words (pl + j)) } := by
              have := hA3.drew.moveWords q pl ln
              rw [← ewb]; exact this
            have hrow := hA3.drew.hw
            rw [ewb] at hso hrow
            have hsrc : ∀ j v, ((List.range ln).map fun j => Value.int .i64 (Hm.words (pl + j)))[j]? = some v → wr.drew.cell? (Addr.add ⟨H.wb, pl, none⟩ j) = some v := by
              intro j v hj
              rw [List.getElem?_map] at hj
              by_cases hjl : j < ln
              · rw [List.getElem?_range hjl] at hj
                cases hj
                have ha : Addr.add ⟨H.wb, pl, none⟩ j = ⟨H.wb, pl + j, none⟩ := by
                  unfold Addr.add
                  split
                  · next h => rw [h]; rfl
                  · rfl
                rw [ha]
                exact hrow.cell (i := pl + j) (by rw [eW]; omega)
              · rw [List.getElem?_eq_none (by rw [List.length_range]; omega)] at hj
                cases hj
            have fmv := ((Fr.refl H.own wr).drew).setCells H.wb (fun _ => .inr (.inl rfl)) ((List.range ln).map fun j => Value.int .i64 (Hm.words (pl + j))) q
            have hcl : ((List.range ln).map fun j => Value.int .i64 (Hm.words (pl + j))).length = ln := by simp
            refine wpList_copy_cells _ rfl (.tmp 84) (.tmp 93) 80 80 rfl 70 Tryd.underlying80 rfl _ _ _ _ _ _ rfl rfl H.wb q ((List.range ln).map fun j => Value.int .i64 (Hm.words (pl + j))) (by rw [hcl]; exact (Nat.min_eq_left (by omega)).symm) (by rw [hcl]; omega) rfl _ rfl hsrc (fun t ht => (hso t (by rw [hcl] at ht; exact ht)).1) (fun t ht => (hso t (by rw [hcl] at ht; exact ht)).2) (fun v hv => by obtain ⟨j, _, rfl⟩ := List.mem_map.1 hv; rfl) ?_
            clear hsrc hso hrow
            generalize wr.drew.setCells H.wb q ((List.range ln).map fun j => Value.int .i64 (Hm.words (pl + j))) = w4 at hmv fmv ⊢
            have hb0 : Hm.b = H.b := by have := hM0.out.b; exact this
            have c1'' : w4.cell? ⟨H.b, 1, none⟩ = some (.slice (some ⟨H.tb, 0, none⟩) H.T H.T) := by have := hmv.c1; rw [hb0, etb, hM0.out.T] at this; exact this
            have cc := (Fr.cell fmv (a := ⟨w.heap.size, ok, none⟩) cs (fun h => absurd (HGS.out _ h) (Nat.lt_irrefl _)))
            have ct' : w4.cell? ⟨H.tb, ok, none⟩ = some (.int .i64 (pl : Int)) := by rw [← etb, HPL.out.1, HOK.out, ← (hM0.out.body.each o (by simp)).tab]; exact hmv.ht.cell (by rw [hM0.out.T, ← HOK.out]; exact hT2)
            have ft' : w4.frozen? ⟨H.tb, ok, none⟩ = false := by rw [← etb]; exact hmv.ht.frozen _
            have HMV := Lib.hid hmv
            have FMV := Lib.hid fmv
            clear hmv fmv cc c1' ct ft cs c0'
            go_wp2_with fail
            go_roundw
            case rel =>
              have hM1 := hM0.out.stay HS.out
              have e9 : HAt (w4.setCell ⟨Hm.tb, ok, none⟩ (.int .i64 (q : Int))) _ := HMV.out.setTable ok q
              have f9 := FMV.out.setCell (a := ⟨H.tb, ok, none⟩) (fun _ => .inr (.inr (.inl rfl))) (.int .i64 (q : Int))
              refine ⟨i + 1, slideH Hm ok q pl ln, by omega, by go_num, ?_, ?_, ?_, F4.trans' f9 (fun _ _ => id) (fun j _ h => h), ?_, ?_⟩
              · rw [HTK.out, slid_stay _ _ _ HS.out, endOf_append, ← HQ.out]
                show _ = Value.int .i64 ((q + o.len : Nat) : Int)
                rw [← HPL.out.2, Int.natCast_add]
              · rw [← etb]; exact e9
              · rw [HTK.out, HOK.out, HQ.out, HPL.out.1, HPL.out.2]; exact hM1
              · exact f9.row hst3 (fun h => absurd (HGS.out _ h) (Nat.lt_irrefl _))
              · exact f9.row hrow3 (fun h => by have := HGS.out _ h; omega)
            case measure => simp [RowKit.intOf]; omega
        · obtain rfl : i = C := by omega
          rw [HN.out.2.1, List.take_length, List.drop_length] at hM
          have hend := slid_end (inL l) os 0 0 hS.body.laid (Nat.le_refl 0)
          rw [← HN.out.2.2.1] at hend
          have htake : os.take i = os := by rw [HN.out.2.1, List.take_length]
          rw [htake]
          obtain ⟨q, hq⟩ : ∃ q, q = endOf 0 (slid (inL l) 0 os) := ⟨_, rfl⟩
          obtain ⟨r, hr⟩ : ∃ r, r = (slid (inL l) 0 os).length := ⟨_, rfl⟩
          have hri : r ≤ i := by rw [hr, HN.out.2.1]; exact slid_len _ _ _
          rw [← hq] at hend ⊢
          have c0' : wr.cell? ⟨H.b, 0, none⟩ = some (.slice (some ⟨H.wb, 0, none⟩) H.W H.W) := by rw [← hM.b, ← hM.wb, ← hM.W]; exact hA3.c0
          have hMf : Hm.fin = (F : Int) := by rw [hM.fin, HN.out.2.2.2.2, ← HN.out.2.2.1]
          have c4' : wr.cell? ⟨H.b, 4, none⟩ = some (.int .i64 (F : Int)) := by rw [← hM.b, ← hMf]; exact hA3.c4
          have ewb := hM.wb
          have eW := hM.W
          have HF := Lib.hid hMf
          have hz := hA3.drew.zeroWords q (F - q)
          have hso := hA3.drew.words_some q (F - q) (by rw [eW]; omega)
          rw [ewb] at hso
          have hzz : HAt (wr.drew.setCells H.wb q (List.replicate (F - q) (.int .i64 0))) { Hm with words := over Hm.words q (F - q) (fun _ => 0) } := by rw [← ewb]; exact hz
          have fz := ((Fr.refl H.own wr).drew).setCells H.wb (fun _ => .inr (.inl rfl)) (List.replicate (F - q) (.int .i64 0)) q
          have hMr : Hm.count = (r : Int) := by rw [hM.cnt, hr]; rfl
          have HM := Lib.hid (And.intro hM (And.intro hq hr))
          have HS2 := Lib.hid hso
          have HZ := Lib.hid (And.intro hzz fz)
          clear hM hq hr htake hz hzz fz hso ewb eW hMf
          go_wp2_with fail
          go_still_tail 10, (by kernel_rfl)
          change wpList _ _ _ _ _ wr.drew
          obtain ⟨hzz, fz⟩ := HZ.out
          generalize hAO : (if H.W = q then some (⟨H.wb, 0, none⟩ : Addr) else some ⟨H.wb, q, none⟩) = AO
          have HAO : Hid (0 < F - q → AO = some ⟨H.wb, q, none⟩) := fun hp => by rw [← hAO, if_neg (by omega)]
          clear hAO
          refine wpList_clear _ rfl (.tmp 115) 80 rfl 70 (.int .i64 0) Tryd.underlying80 (fun w => by kernel_rfl) rfl rfl H.wb q (F - q) _ AO rfl HAO.out (fun t ht => (HS2.out t ht).1) (fun t ht => (HS2.out t ht).2) ?_
          generalize wr.drew.setCells H.wb q (List.replicate (F - q) (Value.int .i64 0)) = w2 at hzz fz ⊢
          have e0 : Hm.b = H.b := HM.out.1.b
          have c4'' : w2.cell? ⟨H.b, 4, none⟩ = some (.int .i64 F) := by rw [← HF.out, ← e0]; exact hzz.c4
          have f4' : w2.frozen? ⟨H.b, 4, none⟩ = false := by rw [← e0]; exact hzz.fz 4
          have c8'' : w2.cell? ⟨H.b, 8, none⟩ = some (.int .i64 H.turn) := by rw [← e0, ← HM.out.1.turn]; exact hzz.c8
          have f8' : w2.frozen? ⟨H.b, 8, none⟩ = false := by rw [← e0]; exact hzz.fz 8
          have c3'' : w2.cell? ⟨H.b, 3, none⟩ = some (.int .i64 (r : Int)) := by rw [← e0, ← hMr]; exact hzz.c3
          have HZZ := Lib.hid (And.intro hzz fz)
          clear hzz fz HZ HS2 HAO c0' c4' e0
          go_wp2_with fail
          go_ret3
          obtain ⟨hzz, fz⟩ := HZZ.out
          refine ⟨Hm, ?_, ?_, ?_, ?_⟩
          · rw [← HM.out.2.1, ← HM.out.2.2, ← HN.out.2.1, ← HN.out.2.2.1]
            rfl
          · have e1 := HM.out.1.b
            have := (hzz.setFin q).setTurn (H.turn + 1)
            rw [← HM.out.2.1]
            have e : keptH Hm q = { Hm with words := over Hm.words q (F - q) (fun _ => 0), fin := (q : Int), turn := H.turn + 1 } := by
              unfold keptH
              rw [HF.out, HM.out.1.turn, show ((F : Int) - (q : Int)).toNat = F - q by omega]
            rw [e, ← e1]
            exact this
          · exact HM.out.1
          · exact F4.trans ((fz.setCell (fun _ => .inl rfl) _).setCell (fun _ => .inl rfl) _)
end Kiln
