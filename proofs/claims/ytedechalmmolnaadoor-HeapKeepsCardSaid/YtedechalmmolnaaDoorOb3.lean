/- Plain: what Keep makes of the objects. -/
import Derived.Test.YtedechalmmolnaaDoorHeapK
namespace Kiln

/-- those that stay, slid together from q on -/
def slid (s : Nat → Bool) : Nat → List Ob → List Ob
  | _, [] => []
  | q, o :: l => if s o.oop then { o with place := q } :: slid s (q + o.len) l else slid s q l

theorem slid_pos (s : Nat → Bool) (q : Nat) (o : Ob) (l : List Ob) (h : s o.oop = true) : slid s q (o :: l) = { o with place := q } :: slid s (q + o.len) l := by
  conv => lhs; unfold slid
  rw [if_pos h]
theorem slid_neg (s : Nat → Bool) (q : Nat) (o : Ob) (l : List Ob) (h : s o.oop = false) : slid s q (o :: l) = slid s q l := by
  conv => lhs; unfold slid
  rw [if_neg (by rw [h]; exact Bool.false_ne_true)]

theorem slid_append (s : Nat → Bool) (ys : List Ob) : ∀ (xs : List Ob) (q : Nat), slid s q (xs ++ ys) = slid s q xs ++ slid s (endOf q (slid s q xs)) ys
  | [], _ => rfl
  | o :: xs, q => by
    rw [List.cons_append]
    cases h : s o.oop
    · rw [slid_neg s q o _ h, slid_neg s q o _ h, slid_append s ys xs]
    · rw [slid_pos s q o _ h, slid_pos s q o _ h, List.cons_append, slid_append s ys xs]
      rfl

theorem slid_end (s : Nat → Bool) : ∀ (l : List Ob) (q a : Nat), Laid a l → q ≤ a → endOf q (slid s q l) ≤ endOf a l
  | [], q, a, _, hq => hq
  | o :: l, q, a, h, hq => by
    unfold slid
    have := h.1
    by_cases hs : s o.oop
    · rw [if_pos hs]
      exact slid_end s l (q + o.len) (o.place + o.len) h.2 (by omega)
    · rw [if_neg hs]
      exact slid_end s l q (o.place + o.len) h.2 (by omega)

theorem slid_len (s : Nat → Bool) : ∀ (l : List Ob) (q : Nat), (slid s q l).length ≤ l.length
  | [], _ => Nat.le_refl _
  | o :: l, q => by
    unfold slid
    split
    · have := slid_len s l (q + o.len); simp; omega
    · have := slid_len s l q; simp; omega

/-- one step of Keep, an object that goes -/
theorem slid_away (s : Nat → Bool) (xs : List Ob) (o : Ob) (hs : s o.oop = false) : slid s 0 (xs ++ [o]) = slid s 0 xs := by
  rw [slid_append, slid_neg s _ o _ hs]; exact List.append_nil _
/-- one step of Keep, an object that stays -/
theorem slid_stay (s : Nat → Bool) (xs : List Ob) (o : Ob) (hs : s o.oop = true) : slid s 0 (xs ++ [o]) = slid s 0 xs ++ [{ o with place := endOf 0 (slid s 0 xs) }] := by
  rw [slid_append, slid_pos s _ o _ hs]; rfl

/-- in the midst of Keep: xs are done, ys are to come -/
structure Mid (H0 H : Hc) (s : Nat → Bool) (xs ys : List Ob) : Prop where
  body : Body H (slid s 0 xs ++ ys)
  cnt : H.count = (((slid s 0 xs).length + ys.length : Nat) : Int)
  low1 : 1 ≤ H.low
  lowT : H.low ≤ H.T
  low : ∀ i : Nat, 1 ≤ i → (i : Int) < H.low → 0 ≤ H.table i
  b : H.b = H0.b
  wb : H.wb = H0.wb
  tb : H.tb = H0.tb
  bb : H.bb = H0.bb
  W : H.W = H0.W
  T : H.T = H0.T
  born : H.born = H0.born
  fin : H.fin = H0.fin
  mark : H.mark = H0.mark
  ever : H.ever = H0.ever
  turn : H.turn = H0.turn

theorem Mid.start {H : Hc} {s : Nat → Bool} {l : List Ob} (h : Sim H l) : Mid H H s [] l :=
  ⟨h.body, by rw [h.cnt]; show _ = ((0 + l.length : Nat) : Int); omega, h.low1, h.lowT, h.low, rfl, rfl, rfl, rfl, rfl, rfl, rfl, rfl, rfl, rfl, rfl⟩

theorem Mid.away {H0 H : Hc} {s : Nat → Bool} {xs ys : List Ob} {o : Ob} (h : Mid H0 H s xs (o :: ys)) (hs : s o.oop = false) : Mid H0 (awayH H o.oop) s (xs ++ [o]) ys := by
  have ho := h.body.each o (by simp)
  have hc := h.cnt
  have l1 := h.low1
  have lT := h.lowT
  have o1 := ho.o1
  refine ⟨by rw [slid_away s xs o hs]; exact away_body h.body, ?_, ?_, ?_, ?_, h.b, h.wb, h.tb, h.bb, h.W, h.T, h.born, h.fin, h.mark, h.ever, h.turn⟩
  · show H.count - 1 = _
    rw [slid_away s xs o hs]
    simp only [List.length_cons] at hc
    omega
  · show 1 ≤ min H.low (o.oop : Int); omega
  · show min H.low (o.oop : Int) ≤ (H.T : Int); omega
  · intro i hi hlt
    have hlt' : (i : Int) < min H.low (o.oop : Int) := hlt
    show 0 ≤ upd H.table o.oop (-1) i
    unfold upd
    rw [if_neg (by omega)]
    exact h.low i hi (by omega)

theorem Mid.stay {H0 H : Hc} {s : Nat → Bool} {xs ys : List Ob} {o : Ob} (h : Mid H0 H s xs (o :: ys)) (hs : s o.oop = true) :
    Mid H0 (slideH H o.oop (endOf 0 (slid s 0 xs)) o.place o.len) s (xs ++ [o]) ys := by
  have hq : endOf 0 (slid s 0 xs) ≤ o.place := (laid_split h.body.laid).2.1
  have hc := h.cnt
  refine ⟨?_, ?_, h.low1, h.lowT, ?_, h.b, h.wb, h.tb, h.bb, h.W, h.T, h.born, h.fin, h.mark, h.ever, h.turn⟩
  · rw [slid_stay s xs o hs, List.append_assoc]
    exact slide_body h.body (Nat.le_refl _) hq
  · show H.count = _
    rw [slid_stay s xs o hs]
    simp only [List.length_cons, List.length_append, List.length_nil] at hc ⊢
    omega
  · intro i hi hlt
    show 0 ≤ upd H.table o.oop _ i
    unfold upd
    split
    · omega
    · exact h.low i hi hlt

/-- what Keep leaves, behind the loop -/
def keptH (H : Hc) (q : Nat) : Hc :=
  { H with words := over H.words q (H.fin - q).toNat (fun _ => 0), fin := q, turn := H.turn + 1 }

theorem Mid.done {H0 H : Hc} {s : Nat → Bool} {l : List Ob} (h : Mid H0 H s l []) (hr : endOf 0 (slid s 0 l) ≤ H0.W) : Sim (keptH H (endOf 0 (slid s 0 l))) (slid s 0 l) := by
  have b := h.body
  rw [List.append_nil] at b
  refine ⟨b.same rfl rfl rfl fun j hj => ?_, by have := h.cnt; rw [List.length_nil, Nat.add_zero] at this; exact this, rfl, by show _ ≤ H.W; rw [h.W]; exact hr, h.low1, h.lowT, h.low⟩
  show over H.words (endOf 0 (slid s 0 l)) (H.fin - (endOf 0 (slid s 0 l) : Nat)).toNat (fun _ => 0) j = _
  unfold over
  rw [if_neg (by omega)]
end Kiln
