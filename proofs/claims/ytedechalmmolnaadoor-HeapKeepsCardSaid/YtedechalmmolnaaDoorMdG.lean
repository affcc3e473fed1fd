/- Plain: the model's objects slid together, one by one. -/
import Derived.Test.YtedechalmmolnaaDoorMdF
namespace Kiln

/-- all stay -/
abbrev allB : Nat → Bool := fun _ => true
theorem slid_oops (s : Nat → Bool) : ∀ (l : List Ob) (q : Nat), (∀ o, o ∈ l → s o.oop = true) → (slid s q l).map (·.oop) = l.map (·.oop)
  | [], _, _ => rfl
  | o :: l, q, h => by
    rw [slid_pos s q o l (h o (by simp)), List.map_cons, List.map_cons, slid_oops s l _ (fun x hx => h x (by simp [hx]))]
theorem slid_laid (s : Nat → Bool) : ∀ (l : List Ob) (q a : Nat), Laid a l → q ≤ a → Laid q (slid s q l)
  | [], _, _, _, _ => trivial
  | o :: l, q, a, h, hq => by
    cases hs : s o.oop
    · rw [slid_neg s q o l hs]
      exact slid_laid s l q (o.place + o.len) h.2 (by have := h.1; omega)
    · rw [slid_pos s q o l hs]
      exact ⟨Nat.le_refl _, slid_laid s l (q + o.len) (o.place + o.len) h.2 (by have := h.1; omega)⟩
theorem slid_filter (s : Nat → Bool) : ∀ (l : List Ob) (q : Nat), slid allB q (l.filter fun o => s o.oop) = slid s q l
  | [], _ => rfl
  | o :: l, q => by
    cases hs : s o.oop
    · rw [slid_neg s q o l hs, List.filter_cons_of_neg (by simp [hs]), slid_filter s l q]
    · rw [slid_pos s q o l hs, List.filter_cons_of_pos (by simp [hs]), slid_pos allB q o _ rfl, slid_filter s l]
/-- in the midst: the first d are slid -/
def midL (d : Nat) (os : List Ob) : List Ob := slid allB 0 (os.take d) ++ os.drop d
theorem midL_oops (d : Nat) (os : List Ob) : (midL d os).map (·.oop) = os.map (·.oop) := by
  unfold midL
  rw [List.map_append, slid_oops _ _ _ (fun _ _ => rfl), ← List.map_append, List.take_append_drop]
theorem midL_laid (d : Nat) {os : List Ob} (h : Laid 0 os) : Laid 0 (midL d os) := by
  unfold midL
  rw [← List.take_append_drop d os] at h
  obtain ⟨h1, h2⟩ := laid_append.1 h
  exact laid_append.2 ⟨slid_laid _ _ _ _ h1 (Nat.le_refl _), h2.mono (slid_end _ _ _ _ h1 (Nat.le_refl _))⟩
theorem midL_len (d : Nat) (os : List Ob) : (midL d os).length = os.length := by
  have := congrArg List.length (midL_oops d os)
  simpa using this
theorem midL_zero (os : List Ob) : midL 0 os = os := rfl
theorem midL_end (os : List Ob) : midL os.length os = slid allB 0 os := by
  unfold midL; rw [List.take_length, List.drop_length, List.append_nil]
/-- the end of what is slid, behind one more -/
def midE (d : Nat) (os : List Ob) : Nat := endOf 0 (slid allB 0 (os.take d))
theorem midE_le (d : Nat) {os : List Ob} (h : Laid 0 os) : midE d os ≤ endOf 0 os := by
  unfold midE
  rw [← List.take_append_drop d os] at h
  obtain ⟨h1, h2⟩ := laid_append.1 h
  have a := slid_end allB _ _ _ h1 (Nat.le_refl _)
  have b := h2.end_ge
  rw [← endOf_append, List.take_append_drop] at b
  omega
theorem mid_step {d : Nat} {os : List Ob} (hd : d < os.length) (hl : Laid 0 os) (hn : (os.map (·.oop)).Nodup) {ts : List Th} (h : Rel ts (midL d os)) {p : Int} (hp : PickAt ts (midE d os) ts.length p) :
    ∃ (i : Nat) (t : Th), p = i ∧ ts[i]? = some t ∧ t.there = true ∧ t.slots.length = (os[d]'hd).slots.length ∧ t.fmt = (os[d]'hd).fmt ∧ midE d os ≤ t.place ∧
      Rel (ts.set i { t with place := midE d os }) (midL (d + 1) os) ∧ midE (d + 1) os = midE d os + (os[d]'hd).len := by
  have hdr : os.drop d = (os[d]'hd) :: os.drop (d + 1) := List.drop_eq_getElem_cons hd
  have htk : os.take (d + 1) = os.take d ++ [os[d]'hd] := List.take_succ_eq_append_getElem hd
  have hml := midL_laid d hl
  have hmn : ((midL d os).map (·.oop)).Nodup := by rw [midL_oops]; exact hn
  unfold midL at h hml hmn
  rw [hdr] at h hml hmn
  obtain ⟨i, t, e, e2, h1, h2, hs⟩ := h.pick hmn hml hp
  have hmv := h.move hmn i t e2 h1 h2 hs (midE d os)
  have hst : slid allB 0 (os.take (d + 1)) = slid allB 0 (os.take d) ++ [{ (os[d]'hd) with place := midE d os }] := by
    rw [htk, slid_stay _ _ _ rfl]; rfl
  refine ⟨i, t, e, h1, h2, by rw [hs.slots], hs.fmt, ?_, ?_, ?_⟩
  · rw [hs.place]; exact (laid_split hml).2.1
  · unfold midL
    rw [hst, List.append_assoc]
    exact hmv
  · unfold midE
    rw [hst, endOf_append]
    rfl
end Kiln
