/- Plain: the model's things and the heap's objects are the same. -/
import Derived.Test.YtedechalmmolnaaDoorMd
namespace Kiln

/-- a thing is an object -/
structure SameT (t : Th) (o : Ob) : Prop where
  cls : t.cls = o.cls
  fmt : t.fmt = o.fmt
  place : t.place = o.place
  slots : t.slots = o.slots

structure Rel (ts : List Th) (l : List Ob) : Prop where
  fwd : ∀ i t, ts[i]? = some t → t.there = true → ∃ o, o ∈ l ∧ o.oop = i + 1 ∧ SameT t o
  bwd : ∀ o, o ∈ l → ∃ i t, o.oop = i + 1 ∧ ts[i]? = some t ∧ t.there = true

theorem nodup_inj {l : List Ob} (hn : (l.map (·.oop)).Nodup) : ∀ x y, x ∈ l → y ∈ l → x.oop = y.oop → x = y := by
  induction l with
  | nil => intro x _ hx; cases hx
  | cons a l ih =>
    rw [List.map_cons, List.nodup_cons] at hn
    intro x y hx hy e
    rcases List.mem_cons.1 hx with hx | hx
    · rcases List.mem_cons.1 hy with hy | hy
      · rw [hx, hy]
      · exact absurd (List.mem_map.2 ⟨y, hy, by rw [← e, hx]⟩) hn.1
    · rcases List.mem_cons.1 hy with hy | hy
      · exact absurd (List.mem_map.2 ⟨x, hx, by rw [e, hy]⟩) hn.1
      · exact ih hn.2 x y hx hy e

theorem Rel.at {ts : List Th} {l : List Ob} (h : Rel ts l) (hn : (l.map (·.oop)).Nodup) {o : Ob} (ho : o ∈ l) : ∃ i t, o.oop = i + 1 ∧ ts[i]? = some t ∧ t.there = true ∧ SameT t o := by
  obtain ⟨i, t, e, h1, h2⟩ := h.bwd o ho
  obtain ⟨o', ho', e', hs⟩ := h.fwd i t h1 h2
  have := nodup_inj hn o o' ho ho' (by rw [e, e'])
  subst this
  exact ⟨i, t, e, h1, h2, hs⟩

theorem cnt_succ (l : List Ob) (k : Nat) (hn : (l.map (·.oop)).Nodup) :
    ((l.filter fun o => decide (o.oop ≤ k + 1)).length = (l.filter fun o => decide (o.oop ≤ k)).length + 1 ∧ ∃ o, o ∈ l ∧ o.oop = k + 1) ∨
    ((l.filter fun o => decide (o.oop ≤ k + 1)).length = (l.filter fun o => decide (o.oop ≤ k)).length ∧ ∀ o, o ∈ l → o.oop ≠ k + 1) := by
  induction l with
  | nil => exact .inr ⟨rfl, fun o ho => by cases ho⟩
  | cons a l ih =>
    rw [List.map_cons, List.nodup_cons] at hn
    have hne : a.oop = k + 1 → ∀ o, o ∈ l → o.oop ≠ k + 1 := fun e o ho e2 => hn.1 (List.mem_map.2 ⟨o, ho, by rw [e2, e]⟩)
    simp only [List.filter_cons]
    by_cases h1 : a.oop ≤ k
    · simp only [show decide (a.oop ≤ k + 1) = true from decide_eq_true (by omega), show decide (a.oop ≤ k) = true from decide_eq_true h1, if_true, List.length_cons]
      rcases ih hn.2 with ⟨e, o, ho, e2⟩ | ⟨e, h2⟩
      · exact .inl ⟨by omega, o, List.mem_cons_of_mem _ ho, e2⟩
      · refine .inr ⟨by omega, fun o ho => ?_⟩
        rcases List.mem_cons.1 ho with ho | ho
        · rw [ho]; omega
        · exact h2 o ho
    · by_cases h3 : a.oop = k + 1
      · simp only [show decide (a.oop ≤ k + 1) = true from decide_eq_true (by omega), show decide (a.oop ≤ k) = false from decide_eq_false h1, if_true, List.length_cons, Bool.false_eq_true, if_false]
        rcases ih hn.2 with ⟨_, o, ho, e2⟩ | ⟨e, _⟩
        · exact absurd e2 (hne h3 o ho)
        · exact .inl ⟨by omega, a, List.mem_cons_self, h3⟩
      · simp only [show decide (a.oop ≤ k + 1) = false from decide_eq_false (by omega), show decide (a.oop ≤ k) = false from decide_eq_false h1, Bool.false_eq_true, if_false]
        rcases ih hn.2 with ⟨e, o, ho, e2⟩ | ⟨e, h2⟩
        · exact .inl ⟨e, o, List.mem_cons_of_mem _ ho, e2⟩
        · refine .inr ⟨e, fun o ho => ?_⟩
          rcases List.mem_cons.1 ho with ho | ho
          · rw [ho]; exact h3
          · exact h2 o ho

theorem Rel.there_k {ts : List Th} {l : List Ob} (h : Rel ts l) (hn : (l.map (·.oop)).Nodup) : ∀ k, k ≤ ts.length → thereK ts k = (l.filter fun o => decide (o.oop ≤ k)).length
  | 0, _ => by
    have : (l.filter fun o => decide (o.oop ≤ 0)) = [] := by
      rw [List.filter_eq_nil_iff]
      intro o ho
      obtain ⟨i, t, e, _⟩ := h.bwd o ho
      simp [e]
    rw [this]; rfl
  | k + 1, hk => by
    rw [thereK_succ ts k (by omega), h.there_k hn k (by omega)]
    have hk2 : ts[k]? = some (ts[k]'(by omega)) := List.getElem?_eq_getElem _
    rcases cnt_succ l k hn with ⟨e, o, ho, e2⟩ | ⟨e, h2⟩
    · obtain ⟨i, t, e3, e4, e5⟩ := h.bwd o ho
      obtain rfl : i = k := by omega
      rw [hk2] at e4
      have := Option.some.inj e4
      rw [this, e5, if_pos rfl, e]
    · cases hth : (ts[k]'(by omega)).there
      · rw [e]; simp
      · obtain ⟨o, ho, e3, _⟩ := h.fwd k _ hk2 hth
        exact absurd e3 (h2 o ho)

theorem Rel.there {ts : List Th} {l : List Ob} (h : Rel ts l) (hn : (l.map (·.oop)).Nodup) : thereK ts ts.length = l.length := by
  rw [h.there_k hn _ (Nat.le_refl _)]
  congr 1
  rw [List.filter_eq_self]
  intro o ho
  obtain ⟨i, t, e, e2, _⟩ := h.bwd o ho
  have := (List.getElem?_eq_some_iff.1 e2).1
  simp; omega

/-- the end that the first k of them reach -/
def Th.len (t : Th) : Nat := lenN t.slots.length t.fmt
def endK (ts : List Th) : Nat → Nat
  | 0 => 0
  | k + 1 => match ts[k]? with
    | some t => if t.there = true ∧ endK ts k < t.place + t.len then t.place + t.len else endK ts k
    | none => endK ts k

theorem endK_ge (ts : List Th) : ∀ k i t, i < k → ts[i]? = some t → t.there = true → t.place + t.len ≤ endK ts k
  | 0, i, _, hi, _, _ => absurd hi (by omega)
  | k + 1, i, t, hi, ht, hth => by
    unfold endK
    by_cases e : i = k
    · subst e
      rw [ht]
      dsimp only
      split
      · exact Nat.le_refl _
      · next hn => by_cases h2 : endK ts i < t.place + t.len
                   · exact absurd ⟨hth, h2⟩ hn
                   · omega
    · have := endK_ge ts k i t (by omega) ht hth
      split
      · split
        · omega
        · exact this
      · exact this
theorem endK_is (ts : List Th) : ∀ k, endK ts k = 0 ∨ ∃ i t, i < k ∧ ts[i]? = some t ∧ t.there = true ∧ endK ts k = t.place + t.len
  | 0 => .inl rfl
  | k + 1 => by
    have ih := endK_is ts k
    have go : endK ts (k + 1) = endK ts k → endK ts (k + 1) = 0 ∨ ∃ i t, i < k + 1 ∧ ts[i]? = some t ∧ t.there = true ∧ endK ts (k + 1) = t.place + t.len := by
      intro e
      rw [e]
      rcases ih with h | ⟨i, t, h1, h2⟩
      · exact .inl h
      · exact .inr ⟨i, t, by omega, h2⟩
    cases hk : ts[k]? with
    | none => exact go (by conv => lhs; unfold endK; rw [hk])
    | some t =>
      by_cases h : t.there = true ∧ endK ts k < t.place + t.len
      · refine .inr ⟨k, t, by omega, hk, h.1, ?_⟩
        conv => lhs; unfold endK; rw [hk]
        dsimp only
        rw [if_pos h]
      · refine go ?_
        conv => lhs; unfold endK; rw [hk]
        dsimp only
        rw [if_neg h]

theorem endOf_is : ∀ (l : List Ob) (a : Nat), (l = [] ∧ endOf a l = a) ∨ ∃ o, o ∈ l ∧ endOf a l = o.place + o.len
  | [], _ => .inl ⟨rfl, rfl⟩
  | o :: l, a => by
    rcases endOf_is l (o.place + o.len) with ⟨rfl, e⟩ | ⟨x, hx, e⟩
    · exact .inr ⟨o, by simp, e⟩
    · exact .inr ⟨x, by simp [hx], e⟩

theorem SameT.len {t : Th} {o : Ob} (h : SameT t o) : t.len = o.len := by unfold Th.len Ob.len; rw [h.slots, h.fmt]

theorem Rel.end {ts : List Th} {l : List Ob} (h : Rel ts l) (hn : (l.map (·.oop)).Nodup) (hl : Laid 0 l) : endK ts ts.length = endOf 0 l := by
  have h1 : endK ts ts.length ≤ endOf 0 l := by
    rcases endK_is ts ts.length with e | ⟨i, t, hi, h2, h3, e⟩
    · omega
    · obtain ⟨o, ho, _, hs⟩ := h.fwd i t h2 h3
      rw [e, hs.place, hs.len]
      exact (hl.mem o ho).2
  have h2 : endOf 0 l ≤ endK ts ts.length := by
    rcases endOf_is l 0 with ⟨_, e⟩ | ⟨o, ho, e⟩
    · omega
    · obtain ⟨i, t, _, h3, h4, hs⟩ := h.at hn ho
      rw [e, ← hs.place, ← hs.len]
      exact endK_ge ts _ i t (List.getElem?_eq_some_iff.1 h3).1 h3 h4
  omega

/-- the lowest that is free -/
structure LowT (ts : List Th) (k : Nat) : Prop where
  le : k ≤ ts.length
  full : ∀ j t, j < k → ts[j]? = some t → t.there = true
  free : ∀ t, ts[k]? = some t → t.there = false

theorem LowT.isLow {ts : List Th} {l : List Ob} {k : Nat} (h : LowT ts k) (r : Rel ts l) : IsLow l (k + 1) := by
  refine ⟨by omega, fun o ho e => ?_, fun j h1 h2 => ?_⟩
  · obtain ⟨i, t, e2, h3, h4⟩ := r.bwd o ho
    obtain rfl : i = k := by omega
    rw [h.free t h3] at h4
    exact Bool.noConfusion h4
  · obtain ⟨i, rfl⟩ : ∃ i, j = i + 1 := ⟨j - 1, by omega⟩
    have hi : i < ts.length := by have := h.le; omega
    obtain ⟨o, ho, e, _⟩ := r.fwd i _ (List.getElem?_eq_getElem hi) (h.full i _ (by omega) (List.getElem?_eq_getElem hi))
    exact ⟨o, ho, e⟩
end Kiln
