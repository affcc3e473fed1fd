/- Pure: the kinds of words, an object's length, and small facts on whole numbers. No program in sight. The heap of package heap as it lies in memory ('Hc', 'HAt'), frames ('Fr'), and what single stores do to them. Bits of whole numbers, in the walk's words; returned values that differ in the spelling of a number. -/
import Derived.WalkKit
import Derived.Deep.OwnRows
import Derived.Deep.Draws
import Derived.Deep.QuietTactic
import Derived.BigQuiet
import Derived.BigRegion
import Derived.StillTailTactics
import Derived.Deep.RegionWith
import Derived.Deep.RegionHeld3
import Derived.Deep.RegionLaw
import Derived.Deep.RegionLawGrows
import Derived.Deep.Cut
import Derived.Deep.DeepCutAuto
import Derived.Deep.LoopGhost
import Derived.Deep.DeepFit
import Derived.Deep.DeepMust
import Derived.Deep.AppendLies
import Derived.Laws.CopyOwn
import Derived.Laws.AppendOwnNone
import Derived.Laws.NewBlocks
import Derived.Lib.Hide
import Derived.WalkLawsBesides
import Derived.WalkSpells
namespace Kiln

/-- which kind of word a number is: 0 none, 1 an integer, 2 a symbol, 3 an object -/
def kindOf (w : Int) : Int :=
  if w % 2 = 1 then (if -2147483647 ≤ w ∧ w ≤ 2147483647 then 1 else 0)
  else if w % 4 = 2 then (if 0 ≤ w ∧ w < 16384 then 2 else 0)
  else (if 0 < w ∧ w ≤ 262144 then 3 else 0)

theorem kindOf_range (w : Int) : 0 ≤ kindOf w ∧ kindOf w ≤ 3 := by
  unfold kindOf; (repeat' split) <;> omega

/-- how many words an object takes -/
def obLen (n f : Int) : Int := if f = 1 then 2 + (n + 3) / 4 else 2 + n

theorem obLen_ge (n f : Int) (h : 0 ≤ n) : 2 ≤ obLen n f := by unfold obLen; split <;> omega
theorem obLen_le (n f : Int) (h : 0 ≤ n) : obLen n f ≤ 2 + n := by unfold obLen; split <;> omega

/-- may a slot of that format have it? -/
def mayB (w f : Int) : Bool := if f = 1 then decide (0 ≤ w ∧ w ≤ 255) else decide (kindOf w ≠ 0)

end Kiln

namespace Kiln
open Go Go.RowKit

/-- Outside the blocks of S the world w' is as w was; blocks may be new. -/
structure Fr (S : Nat → Prop) (w w' : World) : Prop where
  os : w'.os = w.os
  tape : w'.tape = w.tape
  output : w'.output = w.output
  size : w.heap.size ≤ w'.heap.size
  block : ∀ k, k < w.heap.size → ¬ S k → w'.heap[k]? = w.heap[k]?

namespace Fr
variable {S S' : Nat → Prop} {w w1 w2 : World}
theorem refl (S : Nat → Prop) (w : World) : Fr S w w := ⟨rfl, rfl, rfl, Nat.le_refl _, fun _ _ _ => rfl⟩
theorem trans (h : Fr S w w1) (k : Fr S w1 w2) : Fr S w w2 :=
  ⟨k.os.trans h.os, k.tape.trans h.tape, k.output.trans h.output, Nat.le_trans h.size k.size,
    fun i hi hn => (k.block i (Nat.lt_of_lt_of_le hi h.size) hn).trans (h.block i hi hn)⟩
theorem mono (h : Fr S w w1) (hS : ∀ k, k < w.heap.size → S k → S' k) : Fr S' w w1 :=
  ⟨h.os, h.tape, h.output, h.size, fun i hi hn => h.block i hi fun hs => hn (hS i hi hs)⟩
/-- two steps, each with blocks of its own: what the second may write among the old ones lies in the first's, or is allowed -/
theorem trans' {S1 S2 : Nat → Prop} (h : Fr S1 w w1) (k : Fr S2 w1 w2) (h1 : ∀ i, i < w.heap.size → S1 i → S i) (h2 : ∀ i, i < w.heap.size → S2 i → S i) : Fr S w w2 :=
  ⟨k.os.trans h.os, k.tape.trans h.tape, k.output.trans h.output, Nat.le_trans h.size k.size,
    fun i hi hn => (k.block i (Nat.lt_of_lt_of_le hi h.size) fun hs => hn (h2 i hi hs)).trans (h.block i hi fun hs => hn (h1 i hi hs))⟩
theorem drew (h : Fr S w w1) : Fr S w w1.drew := ⟨h.os, h.tape, h.output, h.size, h.block⟩
theorem drewN (h : Fr S w w1) (n : Nat) : Fr S w (w1.drewN n) := ⟨h.os, h.tape, h.output, h.size, h.block⟩
theorem alloc (h : Fr S w w1) (o : Obj) : Fr S w (w1.alloc o) :=
  ⟨h.os, h.tape, h.output, Nat.le_trans h.size (by simp), fun k hk hn => (Below.heap_alloc _ _ _ (Nat.lt_of_lt_of_le hk h.size)).trans (h.block k hk hn)⟩
theorem setCell (h : Fr S w w1) {a : Addr} (ha : a.block < w.heap.size → S a.block) (v : Value) : Fr S w (w1.setCell a v) :=
  ⟨h.os, h.tape, h.output, Nat.le_trans h.size (by simp [World.setCell]), fun k hk hn =>
    (Below.heap_setCell _ _ _ _ (fun e => hn (by rw [e]; exact ha (by rw [← e]; exact hk)))).trans (h.block k hk hn)⟩
theorem grown {row : Option Nat} (h : Fr S w w1) (g : w1.grownBy w2 row) (hr : ∀ k, row = some k → k < w.heap.size → S k) : Fr S w w2 :=
  ⟨g.os.trans h.os, g.tape.trans h.tape, g.output.trans h.output, Nat.le_trans h.size g.size, fun k hk hn =>
    (g.block k (Nat.lt_of_lt_of_le hk h.size) (fun e => hn (hr k e.symm hk))).trans (h.block k hk hn)⟩
theorem below (h : Fr S w w1) {B : Nat} (hB : B ≤ w.heap.size) (hS : ∀ k, S k → B ≤ k) : Below B w w1 :=
  ⟨h.os, h.tape, h.output, h.size, fun k hk => h.block k (by omega) (fun hs => by have := hS k hs; omega)⟩
theorem ofBelow (h : Below w.heap.size w w1) : Fr S w w1 := ⟨h.os, h.tape, h.output, h.size, fun k hk _ => h.block k hk⟩
theorem cell (h : Fr S w w1) {a : Addr} {v : Value} (hc : w.cell? a = some v) (hn : ¬ S a.block) : w1.cell? a = some v :=
  (World.cell?_of_block (h.block a.block (World.block_lt_of_cell? w a hc) hn)).trans hc
theorem row (h : Fr S w w1) {b : Nat} {t : TypeId} {n : Nat} {f : Nat → Value} (hr : w.rowIs b t n f) (hn : ¬ S b) : w1.rowIs b t n f :=
  hr.of_block (h.block b hr.lt hn)
end Fr

/-- the same world, some draws on -/
def Drew (w w' : World) : Prop := ∃ n, w' = w.drewN n
theorem Drew.refl (w : World) : Drew w w := ⟨0, rfl⟩
theorem Drew.fr {w w' : World} (h : Drew w w') (S : Nat → Prop) : Fr S w w' := by obtain ⟨n, rfl⟩ := h; exact (Fr.refl S w).drewN n
theorem Drew.trans {w w1 w2 : World} (h : Drew w w1) (k : Drew w1 w2) : Drew w w2 := by
  obtain ⟨n, rfl⟩ := h; obtain ⟨m, rfl⟩ := k; exact ⟨n + m, by simp [World.drewN, Nat.add_assoc]⟩

/-- a function changed at one place -/
def upd (f : Nat → Int) (i : Nat) (v : Int) : Nat → Int := fun j => if j = i then v else f j

/-- The heap, as package heap keeps it. b: the struct's block; wb, tb, bb: the blocks of words, table, born. -/
structure Hc where
  b : Nat
  wb : Nat
  tb : Nat
  bb : Nat
  W : Nat
  T : Nat
  words : Nat → Int
  table : Nat → Int
  born : Nat → Int
  count : Int
  fin : Int
  low : Int
  mark : Int
  ever : Int
  turn : Int

/-- the heap's own blocks -/
def Hc.own (H : Hc) (k : Nat) : Prop := k = H.b ∨ k = H.wb ∨ k = H.tb ∨ k = H.bb

/-- what the fields of the struct hold -/
def Hc.cell (H : Hc) : Nat → Value
  | 0 => .slice (some ⟨H.wb, 0, none⟩) H.W H.W
  | 1 => .slice (some ⟨H.tb, 0, none⟩) H.T H.T
  | 2 => .slice (some ⟨H.bb, 0, none⟩) H.T H.T
  | 3 => .int .i64 H.count
  | 4 => .int .i64 H.fin
  | 5 => .int .i64 H.low
  | 6 => .int .i64 H.mark
  | 7 => .int .i64 H.ever
  | _ => .int .i64 H.turn

/-- the pointer to it -/
abbrev Hc.ptr (H : Hc) : Value := .pointer (some ⟨H.b, 0, none⟩)

/-- the table of kinds, as the program's text lays it -/
def kindTab : Nat → Int
  | 0 => 3
  | 1 => 1
  | 2 => 2
  | _ => 1
def KindsAt (w : World) : Prop := ∀ i, i < 4 → w.cell? ⟨0, i, none⟩ = some (.int .i64 (kindTab i))
theorem KindsAt.of_block {w w' : World} (h : KindsAt w) (e : w'.heap[0]? = w.heap[0]?) : KindsAt w' :=
  fun i hi => (World.cell?_of_block (w := w) (w' := w') e).trans (h i hi)
theorem KindsAt.lt {w : World} (h : KindsAt w) : 0 < w.heap.size := World.block_lt_of_cell? w _ (h 0 (by omega))
theorem KindsAt.fr {w w' : World} {S : Nat → Prop} (h : KindsAt w) (f : Fr S w w') (hn : ¬ S 0) : KindsAt w' := h.of_block (f.block _ h.lt hn)
theorem KindsAt.alloc {w : World} (h : KindsAt w) (o : Obj) : KindsAt (w.alloc o) := h.of_block (Below.heap_alloc _ _ _ h.lt)
theorem KindsAt.drew {w : World} (h : KindsAt w) : KindsAt w.drew := h
theorem KindsAt.setCell {w : World} (h : KindsAt w) {a : Addr} (ha : 0 ≠ a.block) (v : Value) : KindsAt (w.setCell a v) := h.of_block (Below.heap_setCell _ _ _ _ ha)

/-- The heap H lies in w. -/
structure HAt (w : World) (H : Hc) : Prop where
  hs : w.rowIs H.b 106 9 H.cell
  hw : w.rowIs H.wb 70 H.W (fun i => .int .i64 (H.words i))
  ht : w.rowIs H.tb 3 H.T (fun i => .int .i64 (H.table i))
  hb : w.rowIs H.bb 3 H.T (fun i => .int .i64 (H.born i))
  n1 : H.b ≠ H.wb
  n2 : H.b ≠ H.tb
  n3 : H.b ≠ H.bb
  n4 : H.wb ≠ H.tb
  n5 : H.wb ≠ H.bb
  n6 : H.tb ≠ H.bb
  W_le : H.W ≤ 1048576
  T_le : H.T ≤ 65537
  T_ge : 1 ≤ H.T
  kd : KindsAt w
  hq : ∀ k, H.own k → 0 ≠ k

namespace HAt
variable {w : World} {H : Hc}
theorem c0 (h : HAt w H) : w.cell? ⟨H.b, 0, none⟩ = some (.slice (some ⟨H.wb, 0, none⟩) H.W H.W) := h.hs.cell (i := 0) (by omega)
theorem c1 (h : HAt w H) : w.cell? ⟨H.b, 1, none⟩ = some (.slice (some ⟨H.tb, 0, none⟩) H.T H.T) := h.hs.cell (i := 1) (by omega)
theorem c2 (h : HAt w H) : w.cell? ⟨H.b, 2, none⟩ = some (.slice (some ⟨H.bb, 0, none⟩) H.T H.T) := h.hs.cell (i := 2) (by omega)
theorem c3 (h : HAt w H) : w.cell? ⟨H.b, 3, none⟩ = some (.int .i64 H.count) := h.hs.cell (i := 3) (by omega)
theorem c4 (h : HAt w H) : w.cell? ⟨H.b, 4, none⟩ = some (.int .i64 H.fin) := h.hs.cell (i := 4) (by omega)
theorem c5 (h : HAt w H) : w.cell? ⟨H.b, 5, none⟩ = some (.int .i64 H.low) := h.hs.cell (i := 5) (by omega)
theorem c6 (h : HAt w H) : w.cell? ⟨H.b, 6, none⟩ = some (.int .i64 H.mark) := h.hs.cell (i := 6) (by omega)
theorem c7 (h : HAt w H) : w.cell? ⟨H.b, 7, none⟩ = some (.int .i64 H.ever) := h.hs.cell (i := 7) (by omega)
theorem c8 (h : HAt w H) : w.cell? ⟨H.b, 8, none⟩ = some (.int .i64 H.turn) := h.hs.cell (i := 8) (by omega)
theorem fz (h : HAt w H) (i : Nat) : w.frozen? ⟨H.b, i, none⟩ = false := h.hs.frozen i
theorem lt (h : HAt w H) {k : Nat} (hk : H.own k) : k < w.heap.size := by
  rcases hk with rfl | rfl | rfl | rfl
  · exact h.hs.lt
  · exact h.hw.lt
  · exact h.ht.lt
  · exact h.hb.lt

theorem of_blocks {w' : World} (h : HAt w H) (e : ∀ k, H.own k → w'.heap[k]? = w.heap[k]?) (k : KindsAt w') : HAt w' H :=
  ⟨h.hs.of_block (e _ (.inl rfl)), h.hw.of_block (e _ (.inr (.inl rfl))), h.ht.of_block (e _ (.inr (.inr (.inl rfl)))), h.hb.of_block (e _ (.inr (.inr (.inr rfl)))),
    h.n1, h.n2, h.n3, h.n4, h.n5, h.n6, h.W_le, h.T_le, h.T_ge, k, h.hq⟩
theorem fr {w' : World} {S : Nat → Prop} (h : HAt w H) (f : Fr S w w') (hn : ∀ k, H.own k → ¬ S k) (h0 : ¬ S 0) : HAt w' H :=
  h.of_blocks (fun k hk => f.block k (h.lt hk) (hn k hk)) (h.kd.fr f h0)
theorem alloc (h : HAt w H) (o : Obj) : HAt (w.alloc o) H := h.of_blocks (fun _k hk => Below.heap_alloc _ _ _ (h.lt hk)) (h.kd.alloc o)
theorem drew (h : HAt w H) : HAt w.drew H := h.of_blocks (fun _ _ => rfl) h.kd
theorem drewN (h : HAt w H) (n : Nat) : HAt (w.drewN n) H := h.of_blocks (fun _ _ => rfl) h.kd
theorem setOther (h : HAt w H) {a : Addr} (ha : ¬ H.own a.block) (h0 : 0 ≠ a.block) (v : Value) : HAt (w.setCell a v) H :=
  h.of_blocks (fun _k hk => Below.heap_setCell _ _ _ _ (fun e => ha (e ▸ hk))) (h.kd.setCell h0 v)

theorem setField (h : HAt w H) (H' : Hc) (i : Nat) (v : Value) (e0 : H'.b = H.b ∧ H'.wb = H.wb ∧ H'.tb = H.tb ∧ H'.bb = H.bb ∧ H'.W = H.W ∧ H'.T = H.T ∧ H'.words = H.words ∧ H'.table = H.table ∧ H'.born = H.born)
    (e : ∀ j, j < 9 → H'.cell j = if j = i then v else H.cell j) : HAt (w.setCell ⟨H.b, i, none⟩ v) H' := by
  obtain ⟨e1, e2, e3, e4, e5, e6, e7, e8, e9⟩ := e0
  refine ⟨?_, ?_, ?_, ?_, ?_, ?_, ?_, ?_, ?_, ?_, ?_, ?_, ?_, h.kd.setCell (h.hq _ (.inl rfl)) v, ?_⟩
  · rw [e1]; exact (h.hs.set i v).congr fun j hj => (e j hj).symm
  · rw [e2, e5, e7]; exact h.hw.setOther h.n1.symm v
  · rw [e3, e6, e8]; exact h.ht.setOther h.n2.symm v
  · rw [e4, e6, e9]; exact h.hb.setOther h.n3.symm v
  · rw [e1, e2]; exact h.n1
  · rw [e1, e3]; exact h.n2
  · rw [e1, e4]; exact h.n3
  · rw [e2, e3]; exact h.n4
  · rw [e2, e4]; exact h.n5
  · rw [e3, e4]; exact h.n6
  · rw [e5]; exact h.W_le
  · rw [e6]; exact h.T_le
  · rw [e6]; exact h.T_ge
  · intro k hk; unfold Hc.own at hk; rw [e1, e2, e3, e4] at hk; exact h.hq k hk

theorem nine {p : Nat → Prop} (h : p 0 ∧ p 1 ∧ p 2 ∧ p 3 ∧ p 4 ∧ p 5 ∧ p 6 ∧ p 7 ∧ p 8) : ∀ j, j < 9 → p j := by
  obtain ⟨h0, h1, h2, h3, h4, h5, h6, h7, h8⟩ := h
  intro j hj
  match j, hj with
  | 0, _ => exact h0
  | 1, _ => exact h1
  | 2, _ => exact h2
  | 3, _ => exact h3
  | 4, _ => exact h4
  | 5, _ => exact h5
  | 6, _ => exact h6
  | 7, _ => exact h7
  | 8, _ => exact h8

theorem setCount (h : HAt w H) (v : Int) : HAt (w.setCell ⟨H.b, 3, none⟩ (.int .i64 v)) { H with count := v } :=
  h.setField _ 3 _ ⟨rfl, rfl, rfl, rfl, rfl, rfl, rfl, rfl, rfl⟩ (nine ⟨rfl, rfl, rfl, rfl, rfl, rfl, rfl, rfl, rfl⟩)
theorem setFin (h : HAt w H) (v : Int) : HAt (w.setCell ⟨H.b, 4, none⟩ (.int .i64 v)) { H with fin := v } :=
  h.setField _ 4 _ ⟨rfl, rfl, rfl, rfl, rfl, rfl, rfl, rfl, rfl⟩ (nine ⟨rfl, rfl, rfl, rfl, rfl, rfl, rfl, rfl, rfl⟩)
theorem setLow (h : HAt w H) (v : Int) : HAt (w.setCell ⟨H.b, 5, none⟩ (.int .i64 v)) { H with low := v } :=
  h.setField _ 5 _ ⟨rfl, rfl, rfl, rfl, rfl, rfl, rfl, rfl, rfl⟩ (nine ⟨rfl, rfl, rfl, rfl, rfl, rfl, rfl, rfl, rfl⟩)
theorem setMark (h : HAt w H) (v : Int) : HAt (w.setCell ⟨H.b, 6, none⟩ (.int .i64 v)) { H with mark := v } :=
  h.setField _ 6 _ ⟨rfl, rfl, rfl, rfl, rfl, rfl, rfl, rfl, rfl⟩ (nine ⟨rfl, rfl, rfl, rfl, rfl, rfl, rfl, rfl, rfl⟩)
theorem setEver (h : HAt w H) (v : Int) : HAt (w.setCell ⟨H.b, 7, none⟩ (.int .i64 v)) { H with ever := v } :=
  h.setField _ 7 _ ⟨rfl, rfl, rfl, rfl, rfl, rfl, rfl, rfl, rfl⟩ (nine ⟨rfl, rfl, rfl, rfl, rfl, rfl, rfl, rfl, rfl⟩)
theorem setTurn (h : HAt w H) (v : Int) : HAt (w.setCell ⟨H.b, 8, none⟩ (.int .i64 v)) { H with turn := v } :=
  h.setField _ 8 _ ⟨rfl, rfl, rfl, rfl, rfl, rfl, rfl, rfl, rfl⟩ (nine ⟨rfl, rfl, rfl, rfl, rfl, rfl, rfl, rfl, rfl⟩)

theorem row_upd {b t n : Nat} {f : Nat → Int} (h : w.rowIs b t n (fun i => .int .i64 (f i))) (i : Nat) (v : Int) :
    (w.setCell ⟨b, i, none⟩ (.int .i64 v)).rowIs b t n (fun j => .int .i64 (upd f i v j)) :=
  (h.set i _).congr fun j _ => by unfold upd; split <;> rfl

theorem cell_eq (H H' : Hc) (e1 : H'.wb = H.wb) (e2 : H'.tb = H.tb) (e3 : H'.bb = H.bb) (e4 : H'.W = H.W) (e5 : H'.T = H.T)
    (e6 : H'.count = H.count) (e7 : H'.fin = H.fin) (e8 : H'.low = H.low) (e9 : H'.mark = H.mark) (e10 : H'.ever = H.ever) (e11 : H'.turn = H.turn) : H'.cell = H.cell := by
  funext j
  unfold Hc.cell
  rw [e1, e2, e3, e4, e5, e6, e7, e8, e9, e10, e11]

theorem setWord (h : HAt w H) (i : Nat) (v : Int) : HAt (w.setCell ⟨H.wb, i, none⟩ (.int .i64 v)) { H with words := upd H.words i v } :=
  ⟨(h.hs.setOther h.n1 _).congr fun _ _ => by rw [cell_eq H { H with words := upd H.words i v } rfl rfl rfl rfl rfl rfl rfl rfl rfl rfl rfl],
    row_upd h.hw i v, h.ht.setOther h.n4.symm _, h.hb.setOther h.n5.symm _, h.n1, h.n2, h.n3, h.n4, h.n5, h.n6, h.W_le, h.T_le, h.T_ge, h.kd.setCell (h.hq _ (.inr (.inl rfl))) _, h.hq⟩
theorem setTable (h : HAt w H) (i : Nat) (v : Int) : HAt (w.setCell ⟨H.tb, i, none⟩ (.int .i64 v)) { H with table := upd H.table i v } :=
  ⟨(h.hs.setOther h.n2 _).congr fun _ _ => by rw [cell_eq H { H with table := upd H.table i v } rfl rfl rfl rfl rfl rfl rfl rfl rfl rfl rfl],
    h.hw.setOther h.n4 _, row_upd h.ht i v, h.hb.setOther h.n6.symm _, h.n1, h.n2, h.n3, h.n4, h.n5, h.n6, h.W_le, h.T_le, h.T_ge, h.kd.setCell (h.hq _ (.inr (.inr (.inl rfl)))) _, h.hq⟩
theorem setBorn (h : HAt w H) (i : Nat) (v : Int) : HAt (w.setCell ⟨H.bb, i, none⟩ (.int .i64 v)) { H with born := upd H.born i v } :=
  ⟨(h.hs.setOther h.n3 _).congr fun _ _ => by rw [cell_eq H { H with born := upd H.born i v } rfl rfl rfl rfl rfl rfl rfl rfl rfl rfl rfl],
    h.hw.setOther h.n5 _, h.ht.setOther h.n6 _, row_upd h.hb i v, h.n1, h.n2, h.n3, h.n4, h.n5, h.n6, h.W_le, h.T_le, h.T_ge, h.kd.setCell (h.hq _ (.inr (.inr (.inr rfl)))) _, h.hq⟩
/-- another content of the words, told place by place -/
theorem reword (h : HAt w H) (f : Nat → Int) (e : ∀ i, i < H.W → H.words i = f i) : HAt w { H with words := f } :=
  ⟨h.hs.congr fun _ _ => by rw [cell_eq H { H with words := f } rfl rfl rfl rfl rfl rfl rfl rfl rfl rfl rfl],
    h.hw.congr fun i hi => by rw [e i hi], h.ht, h.hb, h.n1, h.n2, h.n3, h.n4, h.n5, h.n6, h.W_le, h.T_le, h.T_ge, h.kd, h.hq⟩
end HAt
end Kiln

namespace Kiln
open Go Go.RowKit

theorem i64_and_mask (n : Int) (m : Int) (k : Nat) (hk : k ≤ 62) (hm : (BitVec.ofInt 64 m).toNat = 2 ^ k - 1) : bits .and .i64 n m = n % (2 ^ k : Nat) := by
  have key : (BitVec.ofInt 64 n &&& BitVec.ofInt 64 m).toNat = (n % ((2 ^ 64 : Nat) : Int)).toNat % 2 ^ k := by
    rw [BitVec.toNat_and, BitVec.toNat_ofInt, hm, Nat.and_two_pow_sub_one_eq_mod]
  show IntKind.i64.wrap ((BitVec.ofInt 64 n &&& BitVec.ofInt 64 m).toNat : Nat) = n % (2 ^ k : Nat)
  have hle : 2 ^ k ≤ 2 ^ 62 := Nat.pow_le_pow_right (by decide) hk
  have hpos : 0 < 2 ^ k := Nat.two_pow_pos k
  have hd : ∃ c : Nat, 2 ^ 64 = 2 ^ k * c := ⟨2 ^ (64 - k), by rw [← Nat.pow_add]; congr 1; omega⟩
  obtain ⟨c, hc⟩ := hd
  rw [key, IntKind.wrap_i64]
  have e1 : (n % ((2 ^ 64 : Nat) : Int)).toNat % 2 ^ k = (n % (2 ^ k : Nat)).toNat := by
    have h1 : ((n % ((2 ^ 64 : Nat) : Int)) % ((2 ^ k : Nat) : Int)) = n % ((2 ^ k : Nat) : Int) := by
      rw [Int.emod_emod_of_dvd]
      exact ⟨(c : Int), by rw [hc]; simp⟩
    have h2 : 0 ≤ n % ((2 ^ 64 : Nat) : Int) := Int.emod_nonneg _ (by decide)
    have h3 : 0 ≤ n % ((2 ^ k : Nat) : Int) := Int.emod_nonneg _ (by omega)
    generalize n % ((2 ^ 64 : Nat) : Int) = x at h1 h2
    obtain ⟨a, rfl⟩ := Int.eq_ofNat_of_zero_le h2
    rw [← h1, Int.toNat_natCast, ← Int.natCast_emod, Int.toNat_natCast]
  rw [e1]
  have h3 : 0 ≤ n % ((2 ^ k : Nat) : Int) := Int.emod_nonneg _ (by omega)
  have h4 : n % ((2 ^ k : Nat) : Int) < ((2 ^ k : Nat) : Int) := Int.emod_lt_of_pos _ (by omega)
  omega

theorem i64_and1 (n : Int) : bits .and .i64 n 1 = n % 2 := i64_and_mask n 1 1 (by decide) (by decide)
theorem i64_and3 (n : Int) : bits .and .i64 n 3 = n % 4 := i64_and_mask n 3 2 (by decide) (by decide)
theorem i64_and255 (n : Int) : bits .and .i64 n 255 = n % 256 := i64_and_mask n 255 8 (by decide) (by decide)

theorem i64_or1 (n f : Int) (h0 : 0 ≤ n) (h1 : n ≤ 1000000) (hf : f = 0 ∨ f = 1) : bits .or .i64 (n * 2) f = 2 * n + f := by
  have e := bits_join .i64 63 (by decide) (fun n h0 h1 => by rw [show (2 : Int) ^ 63 = 9223372036854775808 by decide] at h1; rw [IntKind.wrap_i64]; omega) 1 (n * 2) f (by omega)
    (by show n * 2 % 2 = 0; omega) (by rw [show (2 : Int) ^ 63 = 9223372036854775808 by decide]; omega) (by omega) (by show f < 2; omega) (by rw [show (2 : Int) ^ 63 = 9223372036854775808 by decide]; omega)
  omega

theorem ret_i {k : IntKind} {a b : Int} (h : a = b) : Ending.returned (.int k a) = .returned (.int k b) := by rw [h]
theorem ret_b {a b : Bool} (h : a = b) : Ending.returned (.bool a) = .returned (.bool b) := by rw [h]
theorem ret_ii {k l : IntKind} {a b c d : Int} (h : a = b) (g : c = d) : Ending.returned (.tuple #[.int k a, .int l c]) = .returned (.tuple #[.int k b, .int l d]) := by rw [h, g]
theorem ret_iii {k l m : IntKind} {a b c d e f : Int} (h : a = b) (g : c = d) (i : e = f) : Ending.returned (.tuple #[.int k a, .int l c, .int m e]) = .returned (.tuple #[.int k b, .int l d, .int m f]) := by rw [h, g, i]
theorem ret_iiii {k l m n : IntKind} {a b c d e f p q : Int} (h : a = b) (g : c = d) (i : e = f) (j : p = q) : Ending.returned (.tuple #[.int k a, .int l c, .int m e, .int n p]) = .returned (.tuple #[.int k b, .int l d, .int m f, .int n q]) := by rw [h, g, i, j]
/-- one byte of a word changed: the byte at bit s is v -/
def setByte (x : Int) (s : Nat) (v : Int) : Int := x - x / 2 ^ s % 256 * 2 ^ s + v * 2 ^ s

theorem nat_byte (a s v : Nat) (hs : s + 8 ≤ 32) (ha : a < 2 ^ 32) (hv : v < 256) :
    (a &&& (2 ^ 64 - 1 - 255 * 2 ^ s)) ||| (v * 2 ^ s) = 2 ^ (s + 8) * (a / 2 ^ (s + 8)) + (2 ^ s * v + a % 2 ^ s) := by
  have hlt : 2 ^ s * v + a % 2 ^ s < 2 ^ (s + 8) := by
    have h1 : a % 2 ^ s < 2 ^ s := Nat.mod_lt _ (Nat.two_pow_pos s)
    have h2 : 2 ^ (s + 8) = 2 ^ s * 256 := by rw [Nat.pow_add]
    have h3 : 2 ^ s * v ≤ 2 ^ s * 255 := Nat.mul_le_mul_left _ (by omega)
    omega
  have hM : 2 ^ 64 - 1 - 255 * 2 ^ s = 2 ^ (s + 8) * (2 ^ (56 - s) - 1) + (2 ^ s - 1) := by
    have e1 : 2 ^ 64 = 2 ^ (s + 8) * 2 ^ (56 - s) := by rw [← Nat.pow_add]; congr 1; omega
    have e2 : 2 ^ (s + 8) = 2 ^ s * 256 := by rw [Nat.pow_add]
    have e3 : 1 ≤ 2 ^ (56 - s) := Nat.two_pow_pos _
    have e4 : 1 ≤ 2 ^ s := Nat.two_pow_pos _
    rw [Nat.mul_sub, ← e1, e2]
    have e5 : 2 ^ s * 256 ≤ 2 ^ 64 := by
      rw [← e2]; exact Nat.pow_le_pow_right (by decide) (by omega)
    omega
  apply Nat.eq_of_testBit_eq
  intro j
  rw [Nat.testBit_or, Nat.testBit_and, hM, Nat.testBit_two_pow_mul_add _ hlt,
    Nat.testBit_two_pow_mul_add _ (show 2 ^ s - 1 < 2 ^ (s + 8) from Nat.lt_of_lt_of_le (Nat.sub_lt (Nat.two_pow_pos s) (by decide)) (Nat.pow_le_pow_right (by decide) (by omega))),
    Nat.mul_comm v, Nat.testBit_two_pow_mul_add _ (Nat.mod_lt _ (Nat.two_pow_pos s))]
  rw [Nat.testBit_two_pow_mul, Nat.testBit_two_pow_sub_one, Nat.testBit_two_pow_sub_one, Nat.testBit_mod_two_pow, Nat.testBit_div_two_pow]
  by_cases h1 : j < s
  · simp [h1, show j < s + 8 by omega, show ¬ (s ≤ j) by omega]
  · by_cases h2 : j < s + 8
    · simp [h1, h2, show s ≤ j by omega]
    · have hvj : v.testBit (j - s) = false := Nat.testBit_lt_two_pow (Nat.lt_of_lt_of_le hv (by
        have : 2 ^ 8 ≤ 2 ^ (j - s) := Nat.pow_le_pow_right (by decide) (by omega)
        simpa using this))
      have e : j - (s + 8) + (s + 8) = j := by omega
      simp only [h2, h1, if_false, hvj, Bool.and_false, Bool.or_false]
      by_cases h3 : j < 32
      · have : j - (s + 8) < 56 - s := by omega
        simp [this, e]
      · have : a.testBit j = false := Nat.testBit_lt_two_pow (Nat.lt_of_lt_of_le ha (Nat.pow_le_pow_right (by decide) (by omega)))
        simp [this, e]

theorem bits_byte (x v : Int) (s : Nat) (m u : Int) (hs : s + 8 ≤ 32) (hm : m = ((255 * 2 ^ s : Nat) : Int)) (hu : u = v * ((2 ^ s : Nat) : Int)) (hx : 0 ≤ x) (hx' : x < 4294967296) (hv : 0 ≤ v) (hv' : v ≤ 255) :
    bits .or .i64 (bits .andNot .i64 x m) u = setByte x s v := by
  obtain ⟨a, rfl⟩ := Int.eq_ofNat_of_zero_le hx
  obtain ⟨b, rfl⟩ := Int.eq_ofNat_of_zero_le hv
  subst hm
  have hmm : 255 * 2 ^ s ≤ 2 ^ 32 := by
    have : 2 ^ s ≤ 2 ^ 24 := Nat.pow_le_pow_right (by decide) (by omega)
    omega
  have ha : a < 2 ^ 32 := by omega
  have hA : a &&& (2 ^ 64 - 1 - 255 * 2 ^ s) < 2 ^ 32 := Nat.lt_of_le_of_lt Nat.and_le_left ha
  have e1 : bits .andNot .i64 (a : Int) ((255 * 2 ^ s : Nat) : Int) = ((a &&& (2 ^ 64 - 1 - 255 * 2 ^ s) : Nat) : Int) := by
    show IntKind.i64.wrap ((BitVec.ofInt 64 (a : Int) &&& ~~~BitVec.ofInt 64 ((255 * 2 ^ s : Nat) : Int)).toNat : Int) = _
    rw [BitVec.toNat_and, BitVec.toNat_not, BitVec.ofInt_natCast, BitVec.ofInt_natCast, BitVec.toNat_ofNat, BitVec.toNat_ofNat,
      Nat.mod_eq_of_lt (by omega), Nat.mod_eq_of_lt (by omega), IntKind.wrap_i64]
    generalize a &&& (2 ^ 64 - 1 - 255 * 2 ^ s) = z at hA ⊢
    omega
  have hub : b * 2 ^ s < 2 ^ 32 := by
    have : b * 2 ^ s ≤ 255 * 2 ^ s := Nat.mul_le_mul_right _ (by omega)
    have : 255 * 2 ^ s < 2 ^ 32 := by
      have : 2 ^ s ≤ 2 ^ 24 := Nat.pow_le_pow_right (by decide) (by omega)
      omega
    omega
  have e2 : u = ((b * 2 ^ s : Nat) : Int) := by rw [hu]; simp
  rw [e1, e2, (bits_nat .i64 63 (by decide) (fun n h0 h1 => by rw [show (2 : Int) ^ 63 = 9223372036854775808 by decide] at h1; rw [IntKind.wrap_i64]; omega) _ _ (by omega) (by omega)).2,
    nat_byte a s b hs ha (by omega)]
  unfold setByte
  have d1 : 2 ^ (s + 8) = 2 ^ s * 256 := by rw [Nat.pow_add]
  rw [d1]
  have d2 : (2 : Int) ^ s = ((2 ^ s : Nat) : Int) := by simp
  rw [d2]
  have hp : 0 < 2 ^ s := Nat.two_pow_pos s
  generalize hq : 2 ^ s = q at hp
  have d3 : a / (q * 256) = a / q / 256 := by rw [Nat.div_div_eq_div_mul]
  rw [d3]
  have d4 := Nat.div_add_mod a q
  have d5 := Nat.div_add_mod (a / q) 256
  have d6 : ((a : Int) / (q : Int) % 256) = ((a / q % 256 : Nat) : Int) := by simp
  rw [d6]
  generalize a / q / 256 = k at d5 ⊢
  generalize a / q % 256 = r at d5 ⊢
  generalize a % q = t at d4 ⊢
  rw [← d5] at d4
  rw [← d4]
  simp only [Int.natCast_add, Int.natCast_mul, show ((256 : Nat) : Int) = 256 from rfl]
  rw [Int.mul_add, ← Int.mul_assoc, Int.mul_comm (r : Int) (q : Int), Int.mul_comm (b : Int) (q : Int)]
  omega
end Kiln
