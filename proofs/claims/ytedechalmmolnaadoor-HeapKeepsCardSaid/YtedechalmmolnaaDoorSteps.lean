/- A script of steps that lies in memory; a heap and its model, made and on their way. -/
import Derived.Test.YtedechalmmolnaaDoorMdX
namespace Kiln
open Go Go.RowKit Go.Proofs

/-- a step that came in -/
structure Sp where
  kd : Int
  on : Int
  a : Int
  b : Int
  c : Int
  x : Int
  ao : Option Addr
  lb : Nat
  off : Nat
  cap : Nat
  l : List Int
def spCells (s : Sp) : List Value := [.int .i64 s.kd, .int .i64 s.on, .int .i64 s.a, .int .i64 s.b, .int .i64 s.c, .int .i64 s.x, .slice s.ao s.l.length s.cap]

/-- a script -/
structure Steps (w : World) (ao : Option Addr) (b off : Nat) (ss : List Sp) : Prop where
  at0 : 0 < ss.length → ao = some ⟨b, off, none⟩
  cell : ∀ i (hi : i < ss.length) (j : Nat) (v : Value), (spCells (ss[i]'hi))[j]? = some v → w.cell? ⟨b, off + i * 7 + j, none⟩ = some v
  ints : ∀ s, s ∈ ss → Ints w s.ao s.lb s.off s.l
  len : ∀ s, s ∈ ss → s.l.length ≤ 17592186044416
theorem Steps.fr {w w' : World} {ao : Option Addr} {b off : Nat} {ss : List Sp} (h : Steps w ao b off ss) (f : Fr (fun _ => False) w w') : Steps w' ao b off ss :=
  ⟨h.at0, fun i hi j v hv => f.cell (h.cell i hi j v hv) id, fun s hs => (h.ints s hs).fr f (fun _ => id), h.len⟩
theorem Steps.at {w : World} {ao : Option Addr} {b off : Nat} {ss : List Sp} (h : Steps w ao b off ss) {i : Nat} (hi : i < ss.length) : ∃ s, s ∈ ss ∧ s = ss[i]'hi ∧
    w.cell? ⟨b, off + i * 7, none⟩ = some (.int .i64 s.kd) ∧ w.cell? ⟨b, off + i * 7 + 1, none⟩ = some (.int .i64 s.on) ∧ w.cell? ⟨b, off + i * 7 + 2, none⟩ = some (.int .i64 s.a) ∧ w.cell? ⟨b, off + i * 7 + 3, none⟩ = some (.int .i64 s.b) ∧
    w.cell? ⟨b, off + i * 7 + 4, none⟩ = some (.int .i64 s.c) ∧ w.cell? ⟨b, off + i * 7 + 5, none⟩ = some (.int .i64 s.x) ∧ w.cell? ⟨b, off + i * 7 + 6, none⟩ = some (.slice s.ao s.l.length s.cap) :=
  ⟨ss[i]'hi, List.getElem_mem hi, rfl, h.cell i hi 0 _ rfl, h.cell i hi 1 _ rfl, h.cell i hi 2 _ rfl, h.cell i hi 3 _ rfl, h.cell i hi 4 _ rfl, h.cell i hi 5 _ rfl, h.cell i hi 6 _ rfl⟩
theorem Ints.lt {w : World} {ao : Option Addr} {b off : Nat} {l : List Int} (h : Ints w ao b off l) (h0 : 0 < l.length) : b < w.heap.size :=
  World.block_lt_of_cell? w ⟨b, off + 0, none⟩ (h.cell 0 h0)

/-- a heap and its model, all of it made since w -/
structure KI (w : World) (p q : Nat) (b : Int) (H : Hc) (M : Md) (os : List Ob) (wr : World) : Prop where
  hm : HM w.heap.size H M os b wr
  fr : Fr (fun _ => False) w wr
  own : ∀ k, H.own k → w.heap.size ≤ k
  pb : H.b = p
  qb : M.b = q
theorem KI.mown {w : World} {p q : Nat} {b : Int} {H : Hc} {M : Md} {os : List Ob} {wr : World} (h : KI w p q b H M os wr) {k : Nat} (hk : M.own k) : w.heap.size ≤ k := (h.hm.mdlt hk).1
theorem KI.other {w : World} {p q : Nat} {b : Int} {H : Hc} {M : Md} {os : List Ob} {wr w' : World} (h : KI w p q b H M os wr) (f : Fr (fun _ => False) wr w') : KI w p q b H M os w' :=
  ⟨h.hm.other f (fun _ _ => id) (fun _ _ => id) id, h.fr.trans f, h.own, h.pb, h.qb⟩
theorem KI.step {w : World} {p q : Nat} {b : Int} {H : Hc} {M : Md} {os : List Ob} {wr w' : World} {e : Ending} (h : KI w p q b H M os wr) (hs : StepOk w.heap.size H M b wr e w') : ∃ H' M' os', e = .returned (.bool true) ∧ KI w p q (b + 1) H' M' os' w' := by
  obtain ⟨H', M', os', rfl, hm, s⟩ := hs
  refine ⟨H', M', os', rfl, hm, h.fr.trans' s.fr (fun _ _ => id) (fun k hk ho => ?_), fun k hk => h.own k (by rw [← s.own]; exact hk), s.b.trans h.pb, s.mb.trans h.qb⟩
  rcases ho with ho | ho
  · have := h.own k ho; omega
  · have := h.mown ho; omega
theorem KI.ptr {w : World} {p q : Nat} {b : Int} {H : Hc} {M : Md} {os : List Ob} {wr : World} (h : KI w p q b H M os wr) : H.ptr = .pointer (some ⟨p, 0, none⟩) ∧ M.ptr = .pointer (some ⟨q, 0, none⟩) := by
  unfold Hc.ptr Md.ptr; rw [h.pb, h.qb]; exact ⟨rfl, rfl⟩

/-- the model's struct, new -/
theorem mdAt_new (w : World) (B : Nat) (hB : B ≤ w.heap.size) (W O : Nat) : MdAt (w.alloc (.cells #[.int .i64 W, .int .i64 O, .int .i64 0, .slice none 0 0] 55)) B ⟨w.heap.size, W, O, 0, [], .slice none 0 0⟩ := by
  refine ⟨?_, hB, World.ownsRow_nil _ _ _ _, fun t ht => (nomatch ht), (fun h => by cases h), fun t ht => (nomatch ht), List.Pairwise.nil⟩
  exact World.rowIs_alloc w #[.int .i64 W, .int .i64 O, .int .i64 0, .slice none 0 0] _ (mdCells ⟨w.heap.size, W, O, 0, [], .slice none 0 0⟩) (fun i hi => by
    have hi4 : i < 4 := hi
    match i, hi4 with
    | 0, _ => rfl
    | 1, _ => rfl
    | 2, _ => rfl
    | 3, _ => rfl)

theorem KI.new {w w1 w2 : World} {H : Hc} {a o : Nat} (hk : KindsAt w) (hA : HAt w1 H) (hN : NewH H a (o + 1)) (F : Fr (fun _ => False) w w1) (hO : ∀ k, H.own k → w.heap.size ≤ k) (F2 : Fr (fun _ => False) w1 w2) :
    KI w H.b w2.heap.size 0 H ⟨w2.heap.size, a, o, 0, [], .slice none 0 0⟩ [] (w2.alloc (.cells #[.int .i64 a, .int .i64 o, .int .i64 0, .slice none 0 0] 55)) := by
  have hs : w.heap.size ≤ w2.heap.size := Nat.le_trans F.size F2.size
  have F3 : Fr (fun _ => False) w1 (w2.alloc (.cells #[.int .i64 a, .int .i64 o, .int .i64 0, .slice none 0 0] 55)) := F2.alloc _
  refine ⟨⟨hA.fr F3 (fun _ _ => id) id, Sim.fresh hN, ⟨?_, ?_, ?_, ?_, ?_, ?_⟩, mdAt_new w2 _ hs a o, ?_, ⟨?_, fun t ht => (nomatch ht), fun t ht => (nomatch ht)⟩, ⟨fun i t h => (by cases h), fun o ho => (nomatch ho)⟩, hN.W.symm, hN.T.symm, hN.mark.symm, Nat.zero_le _, ?_, hk.lt⟩, F.trans F3, hO, rfl, rfl⟩
  · rw [hN.mark]; omega
  · rw [hN.mark]; omega
  · rw [hN.ever]; omega
  · rw [hN.ever]; omega
  · rw [hN.turn]; omega
  · rw [hN.turn]; omega
  · have := F3.size
    have := F.size
    omega
  · exact Nat.zero_le _
  · rintro k hk2 (h | h | ⟨t, ht, _⟩)
    · have h2 := hA.lt hk2
      have := F2.size
      have h3 : k = w2.heap.size := h
      omega
    · cases h
    · exact nomatch ht
end Kiln
