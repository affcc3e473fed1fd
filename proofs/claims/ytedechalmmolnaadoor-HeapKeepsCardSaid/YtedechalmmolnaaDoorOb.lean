/- Plain: the objects that lie in a heap ('Body'), and what the heap's steps do to them. No program in sight. -/
import Derived.Test.YtedechalmmolnaaDoorHeapI
namespace Kiln

/-- an object as the document has it -/
structure Ob where
  oop : Nat
  fmt : Int
  place : Nat
  born : Int
  cls : Int
  slots : List Int

/-- how many words, in whole numbers from 0 on -/
def lenN (n : Nat) (f : Int) : Nat := if f = 1 then 2 + (n + 3) / 4 else 2 + n
theorem obLen_nat (n : Nat) (f : Int) : obLen n f = lenN n f := by
  unfold obLen lenN; split <;> omega
def Ob.len (o : Ob) : Nat := lenN o.slots.length o.fmt
theorem Ob.len_ge (o : Ob) : 2 ≤ o.len := by unfold Ob.len lenN; split <;> omega

/-- each behind the one ahead of it -/
def Laid : Nat → List Ob → Prop
  | _, [] => True
  | a, o :: l => a ≤ o.place ∧ Laid (o.place + o.len) l

/-- the place behind the last one -/
def endOf : Nat → List Ob → Nat
  | a, [] => a
  | _, o :: l => endOf (o.place + o.len) l

/-- an object lies in the heap -/
structure ObAt (H : Hc) (o : Ob) : Prop where
  o1 : 1 ≤ o.oop
  o2 : o.oop < H.T
  tab : H.table o.oop = o.place
  room : o.place + o.len ≤ H.W
  cls : H.words o.place = o.cls
  clsW : mayB o.cls 0 = true
  fmt : o.fmt = 0 ∨ o.fmt = 1
  n1 : o.slots.length ≤ 8192
  head : H.words (o.place + 1) = 2 * o.slots.length + o.fmt
  slot : ∀ i, i < o.slots.length → slotH H o.place o.fmt i = o.slots.getD i 0
  slotW : ∀ i, i < o.slots.length → mayB (o.slots.getD i 0) o.fmt = true
  word : o.fmt = 1 → ∀ k, 2 ≤ k → k < o.len → 0 ≤ H.words (o.place + k) ∧ H.words (o.place + k) < 4294967296

structure Body (H : Hc) (l : List Ob) : Prop where
  laid : Laid 0 l
  nodup : (l.map (·.oop)).Nodup
  each : ∀ o, o ∈ l → ObAt H o
  only : ∀ i, i < H.T → H.table i = -1 ∨ ∃ o, o ∈ l ∧ o.oop = i

theorem ObAt.toHead {H : Hc} {o : Ob} (h : ObAt H o) : Head H o.place o.slots.length o.fmt :=
  ⟨by omega, by have := h.n1; omega, h.fmt, h.head, by rw [obLen_nat]; have := h.room; unfold Ob.len at this; omega⟩
theorem ObAt.is {H : Hc} {o : Ob} (h : ObAt H o) : Is H o.oop o.place o.slots.length o.fmt :=
  ⟨by have := h.o1; omega, by have := h.o2; omega, by rw [Int.toNat_natCast]; exact h.tab, h.toHead⟩
theorem ObAt.live {H : Hc} {o : Ob} (h : ObAt H o) : Kiln.live H o.oop :=
  ⟨by have := h.o1; omega, by have := h.o2; omega, by rw [Int.toNat_natCast, h.tab]; omega⟩

theorem Laid.mem {l : List Ob} : ∀ {a : Nat}, Laid a l → ∀ o, o ∈ l → a ≤ o.place ∧ o.place + o.len ≤ endOf a l := by
  induction l with
  | nil => intro a _ o ho; cases ho
  | cons x l ih =>
    intro a h o ho
    have hend : x.place + x.len ≤ endOf (x.place + x.len) l := by
      have : ∀ (l : List Ob) (b : Nat), Laid b l → b ≤ endOf b l := by
        intro l
        induction l with
        | nil => intro b _; exact Nat.le_refl _
        | cons y l ih => intro b hb; have := ih _ hb.2; have := hb.1; show b ≤ endOf (y.place + y.len) l; omega
      exact this l _ h.2
    rcases List.mem_cons.1 ho with rfl | ho
    · exact ⟨h.1, hend⟩
    · have := ih h.2 o ho
      have := h.1
      exact ⟨by omega, by show _ ≤ endOf (x.place + x.len) l; omega⟩

theorem Laid.end_ge {l : List Ob} : ∀ {a : Nat}, Laid a l → a ≤ endOf a l := by
  induction l with
  | nil => intro a _; exact Nat.le_refl _
  | cons y l ih => intro a h; have := ih h.2; have := h.1; show a ≤ endOf (y.place + y.len) l; omega

theorem laid_append {xs ys : List Ob} : ∀ {a : Nat}, Laid a (xs ++ ys) ↔ Laid a xs ∧ Laid (endOf a xs) ys := by
  induction xs with
  | nil => intro a; simp [Laid, endOf]
  | cons x xs ih => intro a; simp [Laid, endOf, ih, and_assoc]
theorem endOf_append {xs ys : List Ob} : ∀ {a : Nat}, endOf a (xs ++ ys) = endOf (endOf a xs) ys := by
  induction xs with
  | nil => intro a; rfl
  | cons x xs ih => intro a; exact ih
theorem Laid.mono {l : List Ob} {a b : Nat} (h : Laid b l) (hab : a ≤ b) : Laid a l := by
  cases l with
  | nil => trivial
  | cons o l => exact ⟨Nat.le_trans hab h.1, h.2⟩

/-- two of them do not overlap -/
theorem Laid.apart {l : List Ob} : ∀ {a : Nat}, Laid a l → ∀ x y, x ∈ l → y ∈ l → x.place ≠ y.place → x.place + x.len ≤ y.place ∨ y.place + y.len ≤ x.place := by
  induction l with
  | nil => intro a _ x _ hx; cases hx
  | cons o l ih =>
    intro a h x y hx hy hne
    rcases List.mem_cons.1 hx with hx1 | hx1
    · rcases List.mem_cons.1 hy with hy1 | hy1
      · rw [hx1, hy1] at hne; exact absurd rfl hne
      · rw [hx1]; exact .inl (h.2.mem y hy1).1
    · rcases List.mem_cons.1 hy with hy1 | hy1
      · rw [hy1]; exact .inr (h.2.mem x hx1).1
      · exact ih h.2 x y hx1 hy1 hne

theorem Body.place_inj {H : Hc} {l : List Ob} (h : Body H l) {x y : Ob} (hx : x ∈ l) (hy : y ∈ l) (e : x.oop = y.oop) : x.place = y.place := by
  have a := (h.each x hx).tab
  have b := (h.each y hy).tab
  rw [e] at a
  omega

/-- an object that is not touched -/
theorem ObAt.keep {H H' : Hc} {o : Ob} (h : ObAt H o) (eT : H'.T = H.T) (eW : H'.W = H.W) (et : H'.table o.oop = H.table o.oop)
    (ew : ∀ k, k < o.len → H'.words (o.place + k) = H.words (o.place + k)) : ObAt H' o := by
  have hl := o.len_ge
  have hlen : ∀ i, i < o.slots.length → (o.fmt = 1 → 2 + i / 4 < o.len) ∧ (o.fmt ≠ 1 → 2 + i < o.len) := by
    intro i hi
    unfold Ob.len lenN
    constructor
    · intro e; rw [if_pos e]; omega
    · intro e; rw [if_neg e]; omega
  refine ⟨h.o1, by rw [eT]; exact h.o2, by rw [et]; exact h.tab, by rw [eW]; exact h.room, ?_, h.clsW, h.fmt, h.n1, ?_, ?_, h.slotW, ?_⟩
  · have := ew 0 (by omega); rw [Nat.add_zero] at this; rw [this]; exact h.cls
  · rw [ew 1 (by omega)]; exact h.head
  · intro i hi
    rw [← h.slot i hi]
    unfold slotH
    by_cases e : o.fmt = 1
    · rw [if_pos e, if_pos e, Nat.add_assoc, ew _ ((hlen i hi).1 e)]
    · rw [if_neg e, if_neg e, Nat.add_assoc, ew _ ((hlen i hi).2 e)]
  · intro e k hk hk2
    rw [ew k hk2]
    exact h.word e k hk hk2

/-- the same object at another place -/
theorem ObAt.move {H H' : Hc} {o : Ob} (h : ObAt H o) (p : Nat) (eT : H'.T = H.T) (eW : H'.W = H.W) (et : H'.table o.oop = p) (hp : p + o.len ≤ H.W)
    (ew : ∀ k, k < o.len → H'.words (p + k) = H.words (o.place + k)) : ObAt H' { o with place := p } := by
  have hl := o.len_ge
  have hlen : ∀ i, i < o.slots.length → (o.fmt = 1 → 2 + i / 4 < o.len) ∧ (o.fmt ≠ 1 → 2 + i < o.len) := by
    intro i hi
    unfold Ob.len lenN
    constructor
    · intro e; rw [if_pos e]; omega
    · intro e; rw [if_neg e]; omega
  refine ⟨h.o1, by rw [eT]; exact h.o2, et, by rw [eW]; exact hp, ?_, h.clsW, h.fmt, h.n1, ?_, ?_, h.slotW, ?_⟩
  · have := ew 0 (by omega); rw [Nat.add_zero, Nat.add_zero] at this; show H'.words p = _; rw [this]; exact h.cls
  · show H'.words (p + 1) = _; rw [ew 1 (by omega)]; exact h.head
  · intro i hi
    show slotH H' p o.fmt i = o.slots.getD i 0
    rw [← h.slot i hi]
    unfold slotH
    by_cases e : o.fmt = 1
    · rw [if_pos e, if_pos e, Nat.add_assoc, Nat.add_assoc, ew _ ((hlen i hi).1 e)]
    · rw [if_neg e, if_neg e, Nat.add_assoc, Nat.add_assoc, ew _ ((hlen i hi).2 e)]
  · intro e k hk hk2
    show 0 ≤ H'.words (p + k) ∧ H'.words (p + k) < _
    rw [ew k hk2]
    exact h.word e k hk hk2
end Kiln
