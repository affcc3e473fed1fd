/- Plain: what slid of the model of kilnlaw2 picks, and what it makes of the things. -/
import Derived.Test.YtedechalmmolnaaDoorMdD
namespace Kiln

/-- a thing that is there, at a place or behind it -/
structure Cand (ts : List Th) (at0 j : Nat) (t : Th) : Prop where
  get : ts[j]? = some t
  there : t.there = true
  place : at0 ≤ t.place

/-- the candidate of least place among the first i -/
def PickAt (ts : List Th) (at0 i : Nat) (p : Int) : Prop :=
  (p = -1 ∧ ∀ j t, j < i → ¬ Cand ts at0 j t) ∨ ∃ (j : Nat) (t : Th), p = j ∧ j < i ∧ Cand ts at0 j t ∧ ∀ j' t', j' < i → Cand ts at0 j' t' → t.place ≤ t'.place

theorem PickAt.zero (ts : List Th) (at0 : Nat) : PickAt ts at0 0 (-1) := .inl ⟨rfl, fun j _ hj => absurd hj (by omega)⟩

theorem PickAt.skip {ts : List Th} {at0 i : Nat} {p : Int} (h : PickAt ts at0 i p) (hn : ∀ t, Cand ts at0 i t → ∃ (j : Nat) (u : Th), p = j ∧ ts[j]? = some u ∧ u.place ≤ t.place) : PickAt ts at0 (i + 1) p := by
  rcases h with ⟨h1, h2⟩ | ⟨j, t, h1, h2, h3, h4⟩
  · refine .inl ⟨h1, fun j t hj hc => ?_⟩
    by_cases e : j = i
    · subst e
      obtain ⟨j', u, e2, _⟩ := hn t hc
      omega
    · exact h2 j t (by omega) hc
  · refine .inr ⟨j, t, h1, by omega, h3, fun j' t' hj hc => ?_⟩
    by_cases e : j' = i
    · subst e
      obtain ⟨j2, u, e2, e3, e4⟩ := hn t' hc
      obtain rfl : j2 = j := by omega
      rw [h3.get] at e3
      rw [Option.some.inj e3]; exact e4
    · exact h4 j' t' (by omega) hc

theorem PickAt.take {ts : List Th} {at0 i : Nat} {p : Int} (h : PickAt ts at0 i p) (t : Th) (hc : Cand ts at0 i t) (hp : p = -1 ∨ ∃ (j : Nat) (u : Th), p = j ∧ ts[j]? = some u ∧ t.place < u.place) : PickAt ts at0 (i + 1) i := by
  refine .inr ⟨i, t, rfl, by omega, hc, fun j' t' hj hc' => ?_⟩
  by_cases e : j' = i
  · subst e
    have := hc.get.symm.trans hc'.get
    rw [Option.some.inj this]; exact Nat.le_refl _
  · rcases h with ⟨h1, h2⟩ | ⟨j, u, h1, h2, h3, h4⟩
    · exact absurd hc' (h2 j' t' (by omega))
    · rcases hp with e2 | ⟨j2, u2, e2, e3, e4⟩
      · omega
      · obtain rfl : j2 = j := by omega
        rw [h3.get] at e3
        have := h4 j' t' (by omega) hc'
        rw [Option.some.inj e3] at this
        omega

theorem Rel.pick {ts : List Th} {zs ys : List Ob} {y : Ob} (h : Rel ts (zs ++ y :: ys)) (hn : ((zs ++ y :: ys).map (·.oop)).Nodup) (hl : Laid 0 (zs ++ y :: ys)) {p : Int} (hp : PickAt ts (endOf 0 zs) ts.length p) :
    ∃ (i : Nat) (t : Th), p = i ∧ y.oop = i + 1 ∧ ts[i]? = some t ∧ t.there = true ∧ SameT t y := by
  obtain ⟨i, t, e, h1, h2, hs⟩ := h.at hn (o := y) (by simp)
  obtain ⟨q1, q2, q3, q4, q5⟩ := laid_split hl
  have hc : Cand ts (endOf 0 zs) i t := ⟨h1, h2, by rw [hs.place]; exact q2⟩
  have hi := (List.getElem?_eq_some_iff.1 h1).1
  rcases hp with ⟨_, e2⟩ | ⟨j, u, e1, e2, e3, e4⟩
  · exact absurd hc (e2 i t hi)
  · obtain ⟨o, ho, e5, hs2⟩ := h.fwd j u e3.get e3.there
    have hlo := o.len_ge
    have hly := y.len_ge
    have hpl := e3.place
    have hmin := e4 i t hi hc
    rw [hs2.place] at hpl hmin
    rw [hs.place] at hmin
    rcases List.mem_append.1 ho with ho | ho
    · have := q4 o ho; omega
    · rcases List.mem_cons.1 ho with ho | ho
      · rw [ho] at e5
        obtain rfl : j = i := by omega
        exact ⟨j, t, e1, e, h1, h2, hs⟩
      · have := q5 o ho; omega

theorem Rel.move {ts : List Th} {zs ys : List Ob} {y : Ob} (h : Rel ts (zs ++ y :: ys)) (hn : ((zs ++ y :: ys).map (·.oop)).Nodup) (i : Nat) (t : Th) (e : y.oop = i + 1) (h1 : ts[i]? = some t) (h2 : t.there = true) (hs : SameT t y) (q : Nat) :
    Rel (ts.set i { t with place := q }) (zs ++ { y with place := q } :: ys) := by
  have hi := (List.getElem?_eq_some_iff.1 h1).1
  obtain ⟨_, n2, n3⟩ := nodup_split hn
  refine ⟨fun j u hj hu => ?_, fun o ho => ?_⟩
  · rw [List.getElem?_set] at hj
    by_cases e1 : i = j
    · rw [if_pos e1, if_pos hi] at hj
      have hj' := Option.some.inj hj
      refine ⟨{ y with place := q }, by simp, by rw [← e1]; exact e, ?_⟩
      rw [← hj']
      exact ⟨hs.cls, hs.fmt, rfl, hs.slots⟩
    · rw [if_neg e1] at hj
      obtain ⟨o, ho, e2, hs2⟩ := h.fwd j u hj hu
      refine ⟨o, ?_, e2, hs2⟩
      rcases List.mem_append.1 ho with ho | ho
      · simp [ho]
      · rcases List.mem_cons.1 ho with ho | ho
        · rw [ho] at e2; omega
        · simp [ho]
  · have key : ∀ x, x ∈ zs ++ y :: ys → x.oop ≠ y.oop → ∃ j u, x.oop = j + 1 ∧ (ts.set i { t with place := q })[j]? = some u ∧ u.there = true := by
      intro x hx hne
      obtain ⟨j, u, a, b, c⟩ := h.bwd x hx
      refine ⟨j, u, a, ?_, c⟩
      rw [List.getElem?_set, if_neg (by omega)]
      exact b
    rcases List.mem_append.1 ho with ho | ho
    · exact key o (by simp [ho]) (n2 o ho)
    · rcases List.mem_cons.1 ho with ho | ho
      · refine ⟨i, { t with place := q }, by rw [ho]; exact e, ?_, h2⟩
        rw [List.getElem?_set, if_pos rfl, if_pos hi]
      · exact key o (by simp [ho]) (n3 o ho)
end Kiln
