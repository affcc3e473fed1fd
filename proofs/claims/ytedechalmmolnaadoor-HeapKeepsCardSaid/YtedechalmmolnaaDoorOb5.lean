/- Plain: what Back makes of the objects. -/
import Derived.Test.YtedechalmmolnaaDoorOb4
namespace Kiln

/-- objects that lie in a heap whose end may be too far -/
structure Loose (H : Hc) (l : List Ob) : Prop where
  body : Body H l
  cnt : H.count = l.length
  finE : (endOf 0 l : Int) ≤ H.fin
  room : H.fin ≤ H.W
  low1 : 1 ≤ H.low
  lowT : H.low ≤ H.T
  low : ∀ i : Nat, 1 ≤ i → (i : Int) < H.low → 0 ≤ H.table i

theorem Sim.loose {H : Hc} {l : List Ob} (h : Sim H l) : Loose H l :=
  ⟨h.body, h.cnt, by rw [h.fin]; exact Int.le_refl _, by rw [h.fin]; have := h.room; omega, h.low1, h.lowT, h.low⟩

theorem Loose.away {H : Hc} {xs ys : List Ob} {o : Ob} (h : Loose H (xs ++ o :: ys)) : Loose (awayH H o.oop) (xs ++ ys) := by
  have ho := h.body.each o (by simp)
  have hc := h.cnt
  have l1 := h.low1
  have lT := h.lowT
  have o1 := ho.o1
  have hf := h.finE
  obtain ⟨q1, q2, q3, q4, q5⟩ := laid_split h.body.laid
  have hl := o.len_ge
  have e : endOf 0 (xs ++ o :: ys) = endOf (o.place + o.len) ys := by rw [endOf_append]; rfl
  have hge : o.place + o.len ≤ endOf (o.place + o.len) ys := q3.end_ge
  have hle : endOf 0 (xs ++ ys) ≤ endOf 0 (xs ++ o :: ys) := by
    rw [e, endOf_append]
    cases ys with
    | nil => show endOf 0 xs ≤ o.place + o.len; omega
    | cons y ys => exact Nat.le_refl _
  refine ⟨away_body h.body, ?_, by show (endOf 0 (xs ++ ys) : Int) ≤ H.fin; omega, h.room, ?_, ?_, ?_⟩
  · show H.count - 1 = _
    simp only [List.length_append, List.length_cons] at hc ⊢
    omega
  · show 1 ≤ min H.low (o.oop : Int); omega
  · show min H.low (o.oop : Int) ≤ (H.T : Int); omega
  · intro i hi hlt
    have hlt' : (i : Int) < min H.low (o.oop : Int) := hlt
    show 0 ≤ upd H.table o.oop (-1) i
    unfold upd
    rw [if_neg (by omega)]
    exact h.low i hi (by omega)

theorem Loose.fall {H : Hc} {l : List Ob} (h : Loose H l) : Sim (fallH H) l := by
  have ht := h.body.top
  have hf := h.finE
  have hr := h.room
  refine ⟨h.body.same rfl rfl rfl fun j hj => ?_, h.cnt, ht, by show endOf 0 l ≤ H.W; omega, h.low1, h.lowT, h.low⟩
  show over H.words (topH H H.T).toNat (H.fin - topH H H.T).toNat (fun _ => 0) j = _
  unfold over
  rw [ht, Int.toNat_natCast, if_neg (by omega)]

theorem Loose.len_lt {H : Hc} {l : List Ob} (h : Loose H l) (hT : 1 ≤ H.T) : l.length ≤ H.T := by
  have := h.body.count
  have h2 := allK_len H H.T
  omega

/-- those that stay once Back has looked at the first k oops -/
def backL (born : Nat → Int) (e : Int) (k : Nat) (l : List Ob) : List Ob := l.filter fun o => !(decide (o.oop < k) && decide (e ≤ born o.oop))

theorem backL_zero (born : Nat → Int) (e : Int) (l : List Ob) : backL born e 0 l = l := by
  unfold backL
  rw [List.filter_eq_self]
  intro o _
  simp

theorem backL_same (born : Nat → Int) (e : Int) (k : Nat) (l : List Ob) (h : ∀ o, o ∈ l → o.oop = k → born k < e) : backL born e (k + 1) l = backL born e k l := by
  unfold backL
  apply List.filter_congr
  intro o ho
  by_cases h1 : o.oop = k
  · have := h o ho h1
    rw [h1]
    simp [show ¬ e ≤ born k by omega]
  · by_cases h2 : o.oop < k
    · simp [h2, show o.oop < k + 1 by omega]
    · simp [h2, show ¬ o.oop < k + 1 by omega]

theorem backL_drop (born : Nat → Int) (e : Int) (l : List Ob) (o : Ob) (hn : (l.map (·.oop)).Nodup) (ho : o ∈ l) (he : e ≤ born o.oop) :
    ∃ xs ys, backL born e o.oop l = xs ++ o :: ys ∧ backL born e (o.oop + 1) l = xs ++ ys := by
  obtain ⟨us, vs, rfl⟩ := List.append_of_mem ho
  obtain ⟨_, n2, n3⟩ := nodup_split hn
  have ea := backL_same born e o.oop us (fun x hx e1 => absurd e1 (n2 x hx))
  have eb := backL_same born e o.oop vs (fun x hx e1 => absurd e1 (n3 x hx))
  refine ⟨backL born e o.oop us, backL born e o.oop vs, ?_, ?_⟩
  · unfold backL
    rw [List.filter_append, List.filter_cons, if_pos (by simp)]
  · have : backL born e (o.oop + 1) (us ++ o :: vs) = backL born e (o.oop + 1) us ++ backL born e (o.oop + 1) vs := by
      unfold backL
      rw [List.filter_append, List.filter_cons, if_neg (by simp [he])]
    rw [this, ea, eb]

theorem backL_end (born : Nat → Int) (e : Int) (T : Nat) (l : List Ob) (h : ∀ o, o ∈ l → o.oop < T) : backL born e T l = l.filter fun o => decide (born o.oop < e) := by
  unfold backL
  apply List.filter_congr
  intro o ho
  have := h o ho
  by_cases h1 : e ≤ born o.oop
  · simp [this, h1]
  · simp [h1, show born o.oop < e by omega]

/-- what the steps of Back leave as it is -/
structure SameF (H0 H : Hc) : Prop where
  b : H.b = H0.b
  wb : H.wb = H0.wb
  tb : H.tb = H0.tb
  bb : H.bb = H0.bb
  W : H.W = H0.W
  T : H.T = H0.T
  born : H.born = H0.born
  fin : H.fin = H0.fin
  mark : H.mark = H0.mark
  ever : H.ever = H0.ever
  turn : H.turn = H0.turn

theorem SameF.refl (H : Hc) : SameF H H := ⟨rfl, rfl, rfl, rfl, rfl, rfl, rfl, rfl, rfl, rfl, rfl⟩
theorem SameF.away {H0 H : Hc} (h : SameF H0 H) (o : Nat) : SameF H0 (awayH H o) := ⟨h.b, h.wb, h.tb, h.bb, h.W, h.T, h.born, h.fin, h.mark, h.ever, h.turn⟩
theorem SameF.own {H0 H : Hc} (h : SameF H0 H) : H.own = H0.own := by unfold Hc.own; rw [h.b, h.wb, h.tb, h.bb]
theorem SameF.ptr {H0 H : Hc} (h : SameF H0 H) : H.ptr = H0.ptr := by show Go.Value.pointer (some ⟨H.b, 0, none⟩) = Go.Value.pointer (some ⟨H0.b, 0, none⟩); rw [h.b]
end Kiln
