/- Plain: what the model's steps make of its things, held against the heap's objects. -/
import Derived.Test.YtedechalmmolnaaDoorMdG
namespace Kiln

/-- one thing is changed, and its object -/
theorem Rel.touch {ts : List Th} {zs ys : List Ob} {y : Ob} (h : Rel ts (zs ++ y :: ys)) (hn : ((zs ++ y :: ys).map (·.oop)).Nodup) (i : Nat) (e : y.oop = i + 1) (hi : i < ts.length) (t' : Th) (y' : Ob) (e' : y'.oop = y.oop) (h2 : t'.there = true) (hs : SameT t' y') :
    Rel (ts.set i t') (zs ++ y' :: ys) := by
  obtain ⟨_, n2, n3⟩ := nodup_split hn
  refine ⟨fun j u hj hu => ?_, fun o ho => ?_⟩
  · rw [List.getElem?_set] at hj
    by_cases e1 : i = j
    · rw [if_pos e1, if_pos hi] at hj
      have hj' := Option.some.inj hj
      refine ⟨y', by simp, by rw [← e1, e']; exact e, ?_⟩
      rw [← hj']
      exact hs
    · rw [if_neg e1] at hj
      obtain ⟨o, ho, e2, hs2⟩ := h.fwd j u hj hu
      refine ⟨o, ?_, e2, hs2⟩
      rcases List.mem_append.1 ho with ho | ho
      · simp [ho]
      · rcases List.mem_cons.1 ho with ho | ho
        · rw [ho] at e2; omega
        · simp [ho]
  · have key : ∀ x, x ∈ zs ++ y :: ys → x.oop ≠ y.oop → ∃ j u, x.oop = j + 1 ∧ (ts.set i t')[j]? = some u ∧ u.there = true := by
      intro x hx hne
      obtain ⟨j, u, a, b, c⟩ := h.bwd x hx
      refine ⟨j, u, a, ?_, c⟩
      rw [List.getElem?_set, if_neg (by omega)]
      exact b
    rcases List.mem_append.1 ho with ho | ho
    · exact key o (by simp [ho]) (n2 o ho)
    · rcases List.mem_cons.1 ho with ho | ho
      · refine ⟨i, t', by rw [ho, e']; exact e, ?_, h2⟩
        rw [List.getElem?_set, if_pos rfl, if_pos hi]
      · exact key o (by simp [ho]) (n3 o ho)

theorem Rel.free {ts : List Th} {zs ys : List Ob} {y : Ob} (h : Rel ts (zs ++ y :: ys)) (hn : ((zs ++ y :: ys).map (·.oop)).Nodup) (i : Nat) (e : y.oop = i + 1) (t' : Th) (h2 : t'.there = false) : Rel (ts.set i t') (zs ++ ys) := by
  obtain ⟨_, n2, n3⟩ := nodup_split hn
  refine ⟨fun j u hj hu => ?_, fun o ho => ?_⟩
  · rw [List.getElem?_set] at hj
    by_cases e1 : i = j
    · rw [if_pos e1] at hj
      split at hj
      · rw [← Option.some.inj hj, h2] at hu; cases hu
      · cases hj
    · rw [if_neg e1] at hj
      obtain ⟨o, ho, e2, hs2⟩ := h.fwd j u hj hu
      refine ⟨o, ?_, e2, hs2⟩
      rcases List.mem_append.1 ho with ho | ho
      · simp [ho]
      · rcases List.mem_cons.1 ho with ho | ho
        · rw [ho] at e2; omega
        · simp [ho]
  · have hne : o.oop ≠ y.oop := by
      rcases List.mem_append.1 ho with ho | ho
      · exact n2 o ho
      · exact n3 o ho
    obtain ⟨j, u, a, b, c⟩ := h.bwd o (by rcases List.mem_append.1 ho with ho | ho <;> simp [ho])
    refine ⟨j, u, a, ?_, c⟩
    rw [List.getElem?_set, if_neg (by omega)]
    exact b

/-- the things behind an allocation -/
def addT (ts : List Th) (k : Nat) (t : Th) : List Th := if ts.length ≤ k then ts ++ [t] else ts.set k t
theorem addT_len (ts : List Th) (k : Nat) (t : Th) (h : k ≤ ts.length) : (addT ts k t).length ≤ max ts.length (k + 1) := by
  unfold addT; split
  · rw [List.length_append, List.length_singleton]; omega
  · rw [List.length_set]; omega
theorem mem_addT {ts : List Th} {k : Nat} {t u : Th} (h : u ∈ addT ts k t) : u ∈ ts ∨ u = t := by
  unfold addT at h; split at h
  · rcases List.mem_append.1 h with h | h
    · exact .inl h
    · exact .inr (List.mem_singleton.1 h)
  · exact List.mem_or_eq_of_mem_set h
theorem addT_get (ts : List Th) (k : Nat) (t : Th) (h : k ≤ ts.length) (j : Nat) : (addT ts k t)[j]? = if j = k then some t else ts[j]? := by
  unfold addT; split
  · next hk =>
    obtain rfl : k = ts.length := by omega
    by_cases e : j = ts.length
    · rw [if_pos e, e, List.getElem?_append_right (Nat.le_refl _)]; simp
    · rw [if_neg e]
      by_cases hj : j < ts.length
      · rw [List.getElem?_append_left hj]
      · rw [List.getElem?_eq_none (l := ts ++ [t]) (by rw [List.length_append, List.length_singleton]; omega), List.getElem?_eq_none (by omega)]
  · next hk =>
    rw [List.getElem?_set]
    by_cases e : j = k
    · rw [if_pos e, if_pos e.symm, if_pos (by omega)]
    · rw [if_neg e, if_neg (fun h => e h.symm)]
theorem Rel.alloc {ts : List Th} {l : List Ob} (h : Rel ts l) {k : Nat} (hk : LowT ts k) (t : Th) (o : Ob) (e : o.oop = k + 1) (ht : t.there = true) (hs : SameT t o) : Rel (addT ts k t) (l ++ [o]) := by
  refine ⟨fun j u hj hu => ?_, fun x hx => ?_⟩
  · rw [addT_get ts k t hk.le] at hj
    split at hj
    · next e1 =>
      refine ⟨o, by simp, by rw [e1]; exact e, ?_⟩
      rw [← Option.some.inj hj]; exact hs
    · obtain ⟨x, hx, e2, hs2⟩ := h.fwd j u hj hu
      exact ⟨x, by simp [hx], e2, hs2⟩
  · rcases List.mem_append.1 hx with hx | hx
    · obtain ⟨j, u, a, b, c⟩ := h.bwd x hx
      refine ⟨j, u, a, ?_, c⟩
      rw [addT_get ts k t hk.le]
      split
      · next e1 =>
        have := hk.free u (by rw [← e1]; exact b)
        rw [this] at c; cases c
      · exact b
    · rw [List.mem_singleton.1 hx]
      exact ⟨k, t, e, by rw [addT_get ts k t hk.le, if_pos rfl], ht⟩

/-- two things are exchanged -/
theorem Rel.swap {ts : List Th} {l : List Ob} (h : Rel ts l) {a b : Nat} {ta tb : Th} (ha : ts[a]? = some ta) (hb : ts[b]? = some tb) (h1 : ta.there = true) (h2 : tb.there = true) :
    Rel ((ts.set a tb).set b ta) (l.map (swapOb (a + 1) (b + 1))) := by
  have hal := (List.getElem?_eq_some_iff.1 ha).1
  have hbl := (List.getElem?_eq_some_iff.1 hb).1
  have get : ∀ j, ((ts.set a tb).set b ta)[j]? = if j = b then some ta else if j = a then some tb else ts[j]? := by
    intro j
    rw [List.getElem?_set, List.getElem?_set, List.length_set]
    by_cases e1 : j = b
    · rw [if_pos e1, if_pos e1.symm, if_pos hbl]
    · rw [if_neg e1, if_neg (fun h => e1 h.symm)]
      by_cases e2 : j = a
      · rw [if_pos e2, if_pos e2.symm, if_pos hal]
      · rw [if_neg e2, if_neg (fun h => e2 h.symm)]
  have sm : ∀ {t : Th} {o : Ob}, SameT t o → SameT t (swapOb (a + 1) (b + 1) o) := fun h => ⟨h.cls, h.fmt, h.place, h.slots⟩
  refine ⟨fun j u hj hu => ?_, fun x hx => ?_⟩
  · rw [get] at hj
    split at hj
    · next e1 =>
      obtain ⟨o, ho, e2, hs⟩ := h.fwd a ta ha h1
      refine ⟨_, List.mem_map.2 ⟨o, ho, rfl⟩, ?_, ?_⟩
      · show swapN _ _ o.oop = _
        unfold swapN; rw [if_pos e2, e1]
      · rw [← Option.some.inj hj]; exact sm hs
    · next e1 =>
      split at hj
      · next e3 =>
        obtain ⟨o, ho, e2, hs⟩ := h.fwd b tb hb h2
        refine ⟨_, List.mem_map.2 ⟨o, ho, rfl⟩, ?_, ?_⟩
        · show swapN _ _ o.oop = _
          unfold swapN; rw [if_neg (by omega), if_pos e2, e3]
        · rw [← Option.some.inj hj]; exact sm hs
      · next e3 =>
        obtain ⟨o, ho, e2, hs⟩ := h.fwd j u hj hu
        refine ⟨_, List.mem_map.2 ⟨o, ho, rfl⟩, ?_, sm hs⟩
        show swapN _ _ o.oop = _
        unfold swapN; rw [if_neg (by omega), if_neg (by omega)]; exact e2
  · obtain ⟨o, ho, rfl⟩ := List.mem_map.1 hx
    obtain ⟨j, u, e, hj, hu⟩ := h.bwd o ho
    have e0 : (swapOb (a + 1) (b + 1) o).oop = swapN (a + 1) (b + 1) o.oop := rfl
    rw [e0]
    unfold swapN
    by_cases e1 : o.oop = a + 1
    · rw [if_pos e1]
      exact ⟨b, ta, rfl, by rw [get, if_pos rfl], h1⟩
    · rw [if_neg e1]
      by_cases e2 : o.oop = b + 1
      · rw [if_pos e2]
        by_cases e3 : a = b
        · exact ⟨a, ta, rfl, by rw [get, if_pos e3], h1⟩
        · exact ⟨a, tb, rfl, by rw [get, if_neg e3, if_pos rfl], h2⟩
      · rw [if_neg e2]
        exact ⟨j, u, e, by rw [get, if_neg (by omega), if_neg (by omega)]; exact hj, hu⟩

/-- only some stay -/
def stayT (s : Nat → Bool) (ts : List Th) (k : Nat) : List Th := (List.range ts.length).map fun i => if i < k then { ts.getD i ⟨false, 0, 0, 0, [], .slice none 0 0⟩ with there := (ts.getD i ⟨false, 0, 0, 0, [], .slice none 0 0⟩).there && s (i + 1) } else ts.getD i ⟨false, 0, 0, 0, [], .slice none 0 0⟩
theorem stayT_get (s : Nat → Bool) (ts : List Th) (k i : Nat) : (stayT s ts k)[i]? = (ts[i]?).map fun t => if i < k then { t with there := t.there && s (i + 1) } else t := by
  unfold stayT
  rw [List.getElem?_map]
  by_cases hi : i < ts.length
  · rw [List.getElem?_range hi, List.getElem?_eq_getElem hi, Option.map_some, Option.map_some, List.getD_eq_getElem?_getD, List.getElem?_eq_getElem hi]; rfl
  · rw [List.getElem?_eq_none (l := ts) (by omega), List.getElem?_eq_none (by simp; omega)]; rfl
theorem stayT_len (s : Nat → Bool) (ts : List Th) (k : Nat) : (stayT s ts k).length = ts.length := by unfold stayT; simp
theorem stayT_zero (s : Nat → Bool) (ts : List Th) : stayT s ts 0 = ts := by
  apply List.ext_getElem?
  intro i
  rw [stayT_get]
  cases ts[i]? <;> rfl
theorem stayT_succ (s : Nat → Bool) (ts : List Th) (k : Nat) (hk : k < ts.length) :
    ∃ h : k < (stayT s ts k).length, (stayT s ts k)[k]'h = ts[k]'hk ∧ stayT s ts (k + 1) = (stayT s ts k).set k { (ts[k]'hk) with there := (ts[k]'hk).there && s (k + 1) } := by
  refine ⟨by rw [stayT_len]; exact hk, ?_, ?_⟩
  · have h1 := stayT_get s ts k k
    rw [List.getElem?_eq_getElem hk, Option.map_some, if_neg (by omega)] at h1
    exact (List.getElem?_eq_some_iff.1 h1).2
  · apply List.ext_getElem?
    intro i
    rw [stayT_get, List.getElem?_set, stayT_len, stayT_get]
    by_cases e : k = i
    · subst e
      rw [if_pos rfl, if_pos hk, List.getElem?_eq_getElem hk, Option.map_some, if_pos (by omega)]
    · rw [if_neg e]
      cases ts[i]? with
      | none => rfl
      | some t =>
        rw [Option.map_some, Option.map_some]
        by_cases h : i < k
        · rw [if_pos h, if_pos (by omega)]
        · rw [if_neg h, if_neg (by omega)]
theorem stayT_sv (s : Nat → Bool) (ts : List Th) (k : Nat) : (stayT s ts k).map (·.sv) = ts.map (·.sv) := by
  apply List.ext_getElem?
  intro i
  rw [List.getElem?_map, List.getElem?_map, stayT_get]
  cases ts[i]? with
  | none => rfl
  | some t => rw [Option.map_some, Option.map_some, Option.map_some]; split <;> rfl
theorem Rel.stay {ts : List Th} {l : List Ob} (h : Rel ts l) (s : Nat → Bool) : Rel (stayT s ts ts.length) (l.filter fun o => s o.oop) := by
  refine ⟨fun j u hj hu => ?_, fun x hx => ?_⟩
  · rw [stayT_get] at hj
    cases ht : ts[j]? with
    | none => rw [ht] at hj; cases hj
    | some t =>
      have hjl := (List.getElem?_eq_some_iff.1 ht).1
      rw [ht, Option.map_some, if_pos hjl] at hj
      have e := Option.some.inj hj
      rw [← e] at hu
      have hu2 : t.there = true ∧ s (j + 1) = true := by simpa using hu
      obtain ⟨o, ho, e2, hs⟩ := h.fwd j t ht hu2.1
      refine ⟨o, List.mem_filter.2 ⟨ho, by rw [e2]; exact hu2.2⟩, e2, ?_⟩
      rw [← e]
      exact ⟨hs.cls, hs.fmt, hs.place, hs.slots⟩
  · obtain ⟨hx1, hx2⟩ := List.mem_filter.1 hx
    obtain ⟨j, u, a, b, c⟩ := h.bwd x hx1
    have hjl := (List.getElem?_eq_some_iff.1 b).1
    refine ⟨j, { u with there := u.there && s (j + 1) }, a, ?_, ?_⟩
    · rw [stayT_get, b, Option.map_some, if_pos hjl]
    · show (u.there && s (j + 1)) = true
      rw [c, ← a, hx2]; rfl
end Kiln
