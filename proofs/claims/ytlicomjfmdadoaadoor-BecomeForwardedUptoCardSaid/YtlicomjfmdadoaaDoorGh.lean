/- Walks: Kind of kilnref1, fits of kilnlaw2. Plain: what slid of the model of kilnlaw2 picks, and what it makes of the things. Stores into the model's memory: a field of a thing, a slot of a thing, two things exchanged, the model's mark. Plain: the model's objects slid together, one by one. Plain: what the model's steps make of its things, held against the heap's objects. Plain: what All tells, held against the model's things; the heap and its model together. Walks: slid of the model of kilnlaw2. -/
import Derived.Test.YtlicomjfmdadoaaDoorGg
namespace Kiln
open Go Go.RowKit Go.Proofs

theorem tmod_if (n k : Int) : n.tmod k = if 0 ≤ n then n % k else -((-n) % k) := by
  by_cases h : 0 ≤ n
  · rw [if_pos h, Int.tmod_eq_emod_of_nonneg h]
  · rw [if_neg h]
    have : n.tmod k = -((-n).tmod k) := by rw [Int.neg_tmod, Int.neg_neg]
    rw [this, Int.tmod_eq_emod_of_nonneg (by omega)]

set_option maxHeartbeats 1000000 in
theorem kind1_calls (n : Int) (w : World) :
    Calls Tryd.prog 67 #[.int .i64 n] w fun e w' => e = .returned (.int .i64 (kindOf n)) ∧ w = w' := by
  obtain ⟨a, ha⟩ : ∃ a, a = n.tmod 2 := ⟨_, rfl⟩
  obtain ⟨b, hb⟩ : ∃ b, b = n.tmod 4 := ⟨_, rfl⟩
  have h2 := tmod_if n 2
  have h4 := tmod_if n 4
  rw [← ha] at h2
  rw [← hb] at h4
  go_enter Tryd.func67, Tryd.ntmps67
  go_wp2
  all_goals go_ret
  all_goals refine ⟨?_, rfl⟩
  all_goals refine ret_i ?_
  all_goals unfold kindOf
  all_goals (try simp only [bne_iff_ne, bne_eq_false_iff_eq] at *)
  all_goals (repeat' split at h2)
  all_goals (repeat' split at h4)
  all_goals (repeat' split)
  all_goals omega

theorem fits_calls (x f : Int) (w : World) (hf : f = 0 ∨ f = 1) :
    Calls Tryd.prog 100 #[.int .i64 x, .int .i64 f] w fun e w' => e = .returned (.bool (mayB x f)) ∧ w = w' := by
  have g := kind1_calls x w
  rcases hf with rfl | rfl
  · have e : mayB x 0 = !(kindOf x == 0) := by
      unfold mayB
      rw [if_neg (by omega)]
      by_cases h : kindOf x = 0 <;> simp [h]
    rw [e]
    obtain ⟨k, hk⟩ : ∃ k, k = kindOf x := ⟨_, rfl⟩
    rw [← hk] at g ⊢
    clear hk e
    by_cases h : k = 0
    · subst h
      go_enter Tryd.func100, Tryd.ntmps100
      go_wp2_with (go_at_call 67; refine g.mono ?_; rintro e w' ⟨rfl, rfl⟩)
      go_ret
      exact ⟨rfl, rfl⟩
    · have hb : (k == 0) = false := by rw [beq_eq_false_iff_ne]; exact h
      rw [hb]
      go_enter Tryd.func100, Tryd.ntmps100
      go_wp2_with (go_at_call 67; refine g.mono ?_; rintro e w' ⟨rfl, rfl⟩)
      go_ret
      exact ⟨rfl, rfl⟩
  · have e : mayB x 1 = decide (0 ≤ x ∧ x ≤ 255) := by unfold mayB; rw [if_pos rfl]
    rw [e]
    clear g e
    by_cases h0 : 0 ≤ x
    · by_cases h1 : x ≤ 255
      · have h2 : x < 256 := by omega
        rw [decide_eq_true ⟨h0, h1⟩]
        go_enter Tryd.func100, Tryd.ntmps100
        go_wp2_with fail
        go_ret
        exact ⟨rfl, rfl⟩
      · have h2 : ¬ x < 256 := by omega
        rw [decide_eq_false (fun h => h1 h.2)]
        go_enter Tryd.func100, Tryd.ntmps100
        go_wp2_with fail
        go_ret
        exact ⟨rfl, rfl⟩
    · rw [decide_eq_false (fun h => h0 h.1)]
      go_enter Tryd.func100, Tryd.ntmps100
      go_wp2_with fail
      go_ret
      exact ⟨rfl, rfl⟩
end Kiln

namespace Kiln

/-- a thing that is there, at a place or behind it -/
structure Cand (ts : List Th) (at0 j : Nat) (t : Th) : Prop where
  get : ts[j]? = some t
  there : t.there = true
  place : at0 ≤ t.place

/-- the candidate of least place among the first i -/
def PickAt (ts : List Th) (at0 i : Nat) (p : Int) : Prop :=
  (p = -1 ∧ ∀ j t, j < i → ¬ Cand ts at0 j t) ∨ ∃ (j : Nat) (t : Th), p = j ∧ j < i ∧ Cand ts at0 j t ∧ ∀ j' t', j' < i → Cand ts at0 j' t' → t.place ≤ t'.place

theorem PickAt.zero (ts : List Th) (at0 : Nat) : PickAt ts at0 0 (-1) := .inl ⟨rfl, fun j _ hj => absurd hj (by omega)⟩

theorem PickAt.skip {ts : List Th} {at0 i : Nat} {p : Int} (h : PickAt ts at0 i p) (hn : ∀ t, Cand ts at0 i t → ∃ (j : Nat) (u : Th), p = j ∧ ts[j]? = some u ∧ u.place ≤ t.place) : PickAt ts at0 (i + 1) p := by
  rcases h with ⟨h1, h2⟩ | ⟨j, t, h1, h2, h3, h4⟩
  · refine .inl ⟨h1, fun j t hj hc => ?_⟩
    by_cases e : j = i
    · subst e
      obtain ⟨j', u, e2, _⟩ := hn t hc
      omega
    · exact h2 j t (by omega) hc
  · refine .inr ⟨j, t, h1, by omega, h3, fun j' t' hj hc => ?_⟩
    by_cases e : j' = i
    · subst e
      obtain ⟨j2, u, e2, e3, e4⟩ := hn t' hc
      obtain rfl : j2 = j := by omega
      rw [h3.get] at e3
      rw [Option.some.inj e3]; exact e4
    · exact h4 j' t' (by omega) hc

theorem PickAt.take {ts : List Th} {at0 i : Nat} {p : Int} (h : PickAt ts at0 i p) (t : Th) (hc : Cand ts at0 i t) (hp : p = -1 ∨ ∃ (j : Nat) (u : Th), p = j ∧ ts[j]? = some u ∧ t.place < u.place) : PickAt ts at0 (i + 1) i := by
  refine .inr ⟨i, t, rfl, by omega, hc, fun j' t' hj hc' => ?_⟩
  by_cases e : j' = i
  · subst e
    have := hc.get.symm.trans hc'.get
    rw [Option.some.inj this]; exact Nat.le_refl _
  · rcases h with ⟨h1, h2⟩ | ⟨j, u, h1, h2, h3, h4⟩
    · exact absurd hc' (h2 j' t' (by omega))
    · rcases hp with e2 | ⟨j2, u2, e2, e3, e4⟩
      · omega
      · obtain rfl : j2 = j := by omega
        rw [h3.get] at e3
        have := h4 j' t' (by omega) hc'
        rw [Option.some.inj e3] at this
        omega

theorem Rel.pick {ts : List Th} {zs ys : List Ob} {y : Ob} (h : Rel ts (zs ++ y :: ys)) (hn : ((zs ++ y :: ys).map (·.oop)).Nodup) (hl : Laid 0 (zs ++ y :: ys)) {p : Int} (hp : PickAt ts (endOf 0 zs) ts.length p) :
    ∃ (i : Nat) (t : Th), p = i ∧ y.oop = i + 1 ∧ ts[i]? = some t ∧ t.there = true ∧ SameT t y := by
  obtain ⟨i, t, e, h1, h2, hs⟩ := h.at hn (o := y) (by simp)
  obtain ⟨q1, q2, q3, q4, q5⟩ := laid_split hl
  have hc : Cand ts (endOf 0 zs) i t := ⟨h1, h2, by rw [hs.place]; exact q2⟩
  have hi := (List.getElem?_eq_some_iff.1 h1).1
  rcases hp with ⟨_, e2⟩ | ⟨j, u, e1, e2, e3, e4⟩
  · exact absurd hc (e2 i t hi)
  · obtain ⟨o, ho, e5, hs2⟩ := h.fwd j u e3.get e3.there
    have hlo := o.len_ge
    have hly := y.len_ge
    have hpl := e3.place
    have hmin := e4 i t hi hc
    rw [hs2.place] at hpl hmin
    rw [hs.place] at hmin
    rcases List.mem_append.1 ho with ho | ho
    · have := q4 o ho; omega
    · rcases List.mem_cons.1 ho with ho | ho
      · rw [ho] at e5
        obtain rfl : j = i := by omega
        exact ⟨j, t, e1, e, h1, h2, hs⟩
      · have := q5 o ho; omega

theorem Rel.move {ts : List Th} {zs ys : List Ob} {y : Ob} (h : Rel ts (zs ++ y :: ys)) (hn : ((zs ++ y :: ys).map (·.oop)).Nodup) (i : Nat) (t : Th) (e : y.oop = i + 1) (h1 : ts[i]? = some t) (h2 : t.there = true) (hs : SameT t y) (q : Nat) :
    Rel (ts.set i { t with place := q }) (zs ++ { y with place := q } :: ys) := by
  have hi := (List.getElem?_eq_some_iff.1 h1).1
  obtain ⟨_, n2, n3⟩ := nodup_split hn
  refine ⟨fun j u hj hu => ?_, fun o ho => ?_⟩
  · rw [List.getElem?_set] at hj
    by_cases e1 : i = j
    · rw [if_pos e1, if_pos hi] at hj
      have hj' := Option.some.inj hj
      refine ⟨{ y with place := q }, by simp, by rw [← e1]; exact e, ?_⟩
      rw [← hj']
      exact ⟨hs.cls, hs.fmt, rfl, hs.slots⟩
    · rw [if_neg e1] at hj
      obtain ⟨o, ho, e2, hs2⟩ := h.fwd j u hj hu
      refine ⟨o, ?_, e2, hs2⟩
      rcases List.mem_append.1 ho with ho | ho
      · simp [ho]
      · rcases List.mem_cons.1 ho with ho | ho
        · rw [ho] at e2; omega
        · simp [ho]
  · have key : ∀ x, x ∈ zs ++ y :: ys → x.oop ≠ y.oop → ∃ j u, x.oop = j + 1 ∧ (ts.set i { t with place := q })[j]? = some u ∧ u.there = true := by
      intro x hx hne
      obtain ⟨j, u, a, b, c⟩ := h.bwd x hx
      refine ⟨j, u, a, ?_, c⟩
      rw [List.getElem?_set, if_neg (by omega)]
      exact b
    rcases List.mem_append.1 ho with ho | ho
    · exact key o (by simp [ho]) (n2 o ho)
    · rcases List.mem_cons.1 ho with ho | ho
      · refine ⟨i, { t with place := q }, by rw [ho]; exact e, ?_, h2⟩
        rw [List.getElem?_set, if_pos rfl, if_pos hi]
      · exact key o (by simp [ho]) (n3 o ho)
end Kiln

namespace Kiln
open Go Go.RowKit Go.Proofs

theorem apart_iff (l : List Th) : (l.Pairwise fun s t => ∀ g, s.sv.ownBlock = some g → t.sv.ownBlock ≠ some g) ↔ ((l.map (·.sv)).Pairwise fun s t => ∀ g, s.ownBlock = some g → t.ownBlock ≠ some g) := by
  rw [List.pairwise_map]
theorem set_sv (l : List Th) (k : Nat) (hk : k < l.length) (t' : Th) (hs : t'.sv = (l[k]'hk).sv) : (l.set k t').map (·.sv) = l.map (·.sv) := by
  rw [List.map_set, hs]
  have : (l[k]'hk).sv = (l.map (·.sv))[k]'(by simpa using hk) := by simp
  rw [this, List.set_getElem_self]
theorem own_same (M : Md) (ts : List Th) (h : ts.map (·.sv) = M.things.map (·.sv)) (m : Int) : ({ M with things := ts, mark := m } : Md).own = M.own := by
  funext k
  apply propext
  have e : ∀ l : List Th, (∃ t, t ∈ l ∧ t.sv.ownBlock = some k) ↔ (∃ v, v ∈ l.map (·.sv) ∧ v.ownBlock = some k) := by
    intro l
    constructor
    · rintro ⟨t, h1, h2⟩; exact ⟨_, List.mem_map.2 ⟨t, h1, rfl⟩, h2⟩
    · rintro ⟨v, h1, h2⟩
      obtain ⟨t, h3, rfl⟩ := List.mem_map.1 h1
      exact ⟨t, h3, h2⟩
  show (k = M.b ∨ M.tv.ownBlock = some k ∨ ∃ t, t ∈ ts ∧ t.sv.ownBlock = some k) ↔ (k = M.b ∨ M.tv.ownBlock = some k ∨ ∃ t, t ∈ M.things ∧ t.sv.ownBlock = some k)
  rw [e ts, e M.things, h]

theorem MdAt.fieldPut {w : World} {B g cap : Nat} {M : Md} (h : MdAt w B M) (hv : M.tv = .slice (some ⟨g, 0, none⟩) M.things.length cap) (k : Nat) (hk : k < M.things.length) (j : Nat) (hj : j < 5) (u : Value) (t' : Th)
    (ha : thCells t' = (thCells (M.things[k]'hk)).set j u) (hs : t'.sv = (M.things[k]'hk).sv) (hl : t'.slots = (M.things[k]'hk).slots) :
    MdAt (w.setCell ⟨g, k * 5 + j, none⟩ u) B { M with things := M.things.set k t' } := by
  have f : Fr (fun j => j = g) w (w.setCell ⟨g, k * 5 + j, none⟩ u) := (Fr.refl (fun j => j = g) w).setCell (a := ⟨g, k * 5 + j, none⟩) (fun _ => rfl) u
  have hgo : M.tv.ownBlock = some g := by rw [hv]; rfl
  have hr := h.row
  rw [hv] at hr
  have hsv : ∀ t, t ∈ M.things.set k t' → ∃ t0, t0 ∈ M.things ∧ t.sv = t0.sv ∧ t.slots = t0.slots := by
    intro t ht
    rcases List.mem_or_eq_of_mem_set ht with ht | rfl
    · exact ⟨t, ht, rfl, rfl⟩
    · exact ⟨_, List.getElem_mem hk, hs, hl⟩
  refine ⟨?_, h.base, ?_, ?_, h.tb, ?_, ?_⟩
  · exact f.row h.kind (fun e => h.tb (by rw [hgo, ← e]))
  · show (w.setCell _ u).ownsRow B _ 5 M.tv (M.things.set k t').length _
    rw [hv, List.length_set]
    have s := (hr.stored (k * 5 + j) u).1
    rw [flat_set thCells 5 thCells_len M.things k j t' u hk hj ha] at s
    exact s
  · intro t ht
    obtain ⟨t0, h0, e1, e2⟩ := hsv t ht
    refine ⟨?_⟩
    rw [e1, e2]
    exact owns_fr (h.each t0 h0).row f (fun j hj e => (h.tbs t0 h0 j hj).2 (by rw [hgo, ← e]))
  · intro t ht j hj
    obtain ⟨t0, h0, e1, e2⟩ := hsv t ht
    rw [e1] at hj
    exact h.tbs t0 h0 j hj
  · show (M.things.set k t').Pairwise _
    rw [apart_iff, set_sv _ _ hk _ hs, ← apart_iff]
    exact h.apart

theorem flat_same (l : List Th) (k : Nat) (hk : k < l.length) (t' : Th) (h : thCells t' = thCells (l[k]'hk)) : (l.set k t').flatMap thCells = l.flatMap thCells := by
  rw [List.flatMap_def, List.flatMap_def, List.map_set, h]
  have : thCells (l[k]'hk) = (l.map thCells)[k]'(by simpa using hk) := by simp
  rw [this, List.set_getElem_self]

theorem MdAt.slotPut {w : World} {B : Nat} {M : Md} (h : MdAt w B M) (k : Nat) (hk : k < M.things.length) (t : Th) (ht : t = M.things[k]'hk) (gs scap i : Nat) (hsv : t.sv = .slice (some ⟨gs, 0, none⟩) t.slots.length scap) (v : Int) :
    MdAt (w.setCell ⟨gs, i, none⟩ (.int .i64 v)) B { M with things := M.things.set k { t with slots := t.slots.set i v } } := by
  have f : Fr (fun j => j = gs) w (w.setCell ⟨gs, i, none⟩ (.int .i64 v)) := (Fr.refl (fun j => j = gs) w).setCell (a := ⟨gs, i, none⟩) (fun _ => rfl) _
  have hgo : t.sv.ownBlock = some gs := by rw [hsv]; rfl
  have htm : t ∈ M.things := by rw [ht]; exact List.getElem_mem hk
  have hb := h.tbs t htm gs hgo
  have hp := List.pairwise_iff_getElem.1 h.apart
  have hset : ({ t with slots := t.slots.set i v } : Th).sv = (M.things[k]'hk).sv := by rw [← ht]
  refine ⟨?_, h.base, ?_, ?_, h.tb, ?_, ?_⟩
  · exact f.row h.kind (fun e => hb.1 e.symm)
  · show (w.setCell _ _).ownsRow B _ 5 M.tv (M.things.set k _).length ((M.things.set k _).flatMap thCells)
    rw [flat_same _ _ hk _ (by rw [← ht]; rfl), List.length_set]
    exact owns_fr h.row f (fun j hj e => hb.2 (by rw [hj, e]))
  · intro u hu
    obtain ⟨j, hj, rfl⟩ := List.mem_iff_getElem.1 hu
    rw [List.length_set] at hj
    rw [List.getElem_set]
    split
    · refine ⟨?_⟩
      have hr := (h.each t htm).row
      show (w.setCell _ _).ownsRow B _ 1 t.sv (t.slots.set i v).length ((t.slots.set i v).map _)
      rw [List.length_set, List.map_set]
      rw [hsv] at hr ⊢
      exact (hr.stored i _).1
    · next e =>
      refine ⟨owns_fr (h.each _ (List.getElem_mem hj)).row f (fun b hb2 e2 => ?_)⟩
      subst e2
      rcases Nat.lt_or_gt_of_ne e with hlt | hlt
      · exact hp k j hk hj hlt b (by rw [← ht]; exact hgo) hb2
      · exact hp j k hj hk hlt b hb2 (by rw [← ht]; exact hgo)
  · intro u hu j hj
    rcases List.mem_or_eq_of_mem_set hu with hu | rfl
    · exact h.tbs u hu j hj
    · exact h.tbs t htm j hj
  · show (M.things.set k _).Pairwise _
    rw [apart_iff, set_sv _ _ hk _ hset, ← apart_iff]
    exact h.apart

theorem MdAt.swap {w : World} {B g cap : Nat} {M : Md} (h : MdAt w B M) (hv : M.tv = .slice (some ⟨g, 0, none⟩) M.things.length cap) (a b : Nat) (ha : a < M.things.length) (hb : b < M.things.length) (ta tb : Th) (hta : ta = M.things[a]'ha) (htb : tb = M.things[b]'hb) :
    MdAt (set5 (set5 w g a tb) g b ta) B { M with things := (M.things.set a tb).set b ta } := by
  have f : Fr (fun j => j = g) w (set5 (set5 w g a tb) g b ta) := set5_fr (set5_fr (Fr.refl (fun j => j = g) w) g a tb (fun _ => rfl)) g b ta (fun _ => rfl)
  have hgo : M.tv.ownBlock = some g := by rw [hv]; rfl
  have hr := h.row
  rw [hv] at hr
  have hmem : ∀ t, t ∈ (M.things.set a tb).set b ta → t ∈ M.things := by
    intro t ht
    rcases List.mem_or_eq_of_mem_set ht with ht | rfl
    · rcases List.mem_or_eq_of_mem_set ht with ht | rfl
      · exact ht
      · rw [htb]; exact List.getElem_mem hb
    · rw [hta]; exact List.getElem_mem ha
  refine ⟨?_, h.base, ?_, ?_, h.tb, ?_, ?_⟩
  · exact f.row h.kind (fun e => h.tb (by rw [hgo, ← e]))
  · show (set5 _ g b ta).ownsRow B _ 5 M.tv ((M.things.set a tb).set b ta).length _
    have r1 := row_put hr a ha tb
    have hl : (M.things.set a tb).length = M.things.length := List.length_set
    rw [← hl] at r1
    have r2 := row_put r1 b (by rw [hl]; exact hb) ta
    rw [hv, List.length_set, List.length_set]
    rw [hl] at r2
    exact r2
  · intro t ht
    exact ⟨owns_fr (h.each t (hmem t ht)).row f (fun j hj e => (h.tbs t (hmem t ht) j hj).2 (by rw [hgo, ← e]))⟩
  · intro t ht
    exact h.tbs t (hmem t ht)
  · show ((M.things.set a tb).set b ta).Pairwise _
    rw [hta, htb]
    refine (List.set_set_perm ha hb).symm.pairwise h.apart ?_
    intro x y hxy g hy hx
    exact hxy g hx hy

theorem MdAt.setMark {w : World} {B : Nat} {M : Md} (h : MdAt w B M) (v : Int) : MdAt (w.setCell ⟨M.b, 2, none⟩ (.int .i64 v)) B { M with mark := v } := by
  have f : Fr (fun j => j = M.b) w (w.setCell ⟨M.b, 2, none⟩ (.int .i64 v)) := (Fr.refl (fun j => j = M.b) w).setCell (a := ⟨M.b, 2, none⟩) (fun _ => rfl) _
  refine ⟨?_, h.base, owns_fr h.row f (fun g hg e => h.tb (by rw [hg, e])), fun t ht => ⟨owns_fr (h.each t ht).row f (fun g hg e => (h.tbs t ht g hg).1 e)⟩, h.tb, h.tbs, h.apart⟩
  refine (h.kind.set 2 _).congr fun j hj => ?_
  match j, hj with
  | 0, _ => rfl
  | 1, _ => rfl
  | 2, _ => rfl
  | 3, _ => rfl
end Kiln

namespace Kiln

/-- all stay -/
abbrev allB : Nat → Bool := fun _ => true
theorem slid_oops (s : Nat → Bool) : ∀ (l : List Ob) (q : Nat), (∀ o, o ∈ l → s o.oop = true) → (slid s q l).map (·.oop) = l.map (·.oop)
  | [], _, _ => rfl
  | o :: l, q, h => by
    rw [slid_pos s q o l (h o (by simp)), List.map_cons, List.map_cons, slid_oops s l _ (fun x hx => h x (by simp [hx]))]
theorem slid_laid (s : Nat → Bool) : ∀ (l : List Ob) (q a : Nat), Laid a l → q ≤ a → Laid q (slid s q l)
  | [], _, _, _, _ => trivial
  | o :: l, q, a, h, hq => by
    cases hs : s o.oop
    · rw [slid_neg s q o l hs]
      exact slid_laid s l q (o.place + o.len) h.2 (by have := h.1; omega)
    · rw [slid_pos s q o l hs]
      exact ⟨Nat.le_refl _, slid_laid s l (q + o.len) (o.place + o.len) h.2 (by have := h.1; omega)⟩
theorem slid_filter (s : Nat → Bool) : ∀ (l : List Ob) (q : Nat), slid allB q (l.filter fun o => s o.oop) = slid s q l
  | [], _ => rfl
  | o :: l, q => by
    cases hs : s o.oop
    · rw [slid_neg s q o l hs, List.filter_cons_of_neg (by simp [hs]), slid_filter s l q]
    · rw [slid_pos s q o l hs, List.filter_cons_of_pos (by simp [hs]), slid_pos allB q o _ rfl, slid_filter s l]
/-- in the midst: the first d are slid -/
def midL (d : Nat) (os : List Ob) : List Ob := slid allB 0 (os.take d) ++ os.drop d
theorem midL_oops (d : Nat) (os : List Ob) : (midL d os).map (·.oop) = os.map (·.oop) := by
  unfold midL
  rw [List.map_append, slid_oops _ _ _ (fun _ _ => rfl), ← List.map_append, List.take_append_drop]
theorem midL_laid (d : Nat) {os : List Ob} (h : Laid 0 os) : Laid 0 (midL d os) := by
  unfold midL
  rw [← List.take_append_drop d os] at h
  obtain ⟨h1, h2⟩ := laid_append.1 h
  exact laid_append.2 ⟨slid_laid _ _ _ _ h1 (Nat.le_refl _), h2.mono (slid_end _ _ _ _ h1 (Nat.le_refl _))⟩
theorem midL_len (d : Nat) (os : List Ob) : (midL d os).length = os.length := by
  have := congrArg List.length (midL_oops d os)
  simpa using this
theorem midL_zero (os : List Ob) : midL 0 os = os := rfl
theorem midL_end (os : List Ob) : midL os.length os = slid allB 0 os := by
  unfold midL; rw [List.take_length, List.drop_length, List.append_nil]
/-- the end of what is slid, behind one more -/
def midE (d : Nat) (os : List Ob) : Nat := endOf 0 (slid allB 0 (os.take d))
theorem midE_le (d : Nat) {os : List Ob} (h : Laid 0 os) : midE d os ≤ endOf 0 os := by
  unfold midE
  rw [← List.take_append_drop d os] at h
  obtain ⟨h1, h2⟩ := laid_append.1 h
  have a := slid_end allB _ _ _ h1 (Nat.le_refl _)
  have b := h2.end_ge
  rw [← endOf_append, List.take_append_drop] at b
  omega
theorem mid_step {d : Nat} {os : List Ob} (hd : d < os.length) (hl : Laid 0 os) (hn : (os.map (·.oop)).Nodup) {ts : List Th} (h : Rel ts (midL d os)) {p : Int} (hp : PickAt ts (midE d os) ts.length p) :
    ∃ (i : Nat) (t : Th), p = i ∧ ts[i]? = some t ∧ t.there = true ∧ t.slots.length = (os[d]'hd).slots.length ∧ t.fmt = (os[d]'hd).fmt ∧ midE d os ≤ t.place ∧
      Rel (ts.set i { t with place := midE d os }) (midL (d + 1) os) ∧ midE (d + 1) os = midE d os + (os[d]'hd).len := by
  have hdr : os.drop d = (os[d]'hd) :: os.drop (d + 1) := List.drop_eq_getElem_cons hd
  have htk : os.take (d + 1) = os.take d ++ [os[d]'hd] := List.take_succ_eq_append_getElem hd
  have hml := midL_laid d hl
  have hmn : ((midL d os).map (·.oop)).Nodup := by rw [midL_oops]; exact hn
  unfold midL at h hml hmn
  rw [hdr] at h hml hmn
  obtain ⟨i, t, e, e2, h1, h2, hs⟩ := h.pick hmn hml hp
  have hmv := h.move hmn i t e2 h1 h2 hs (midE d os)
  have hst : slid allB 0 (os.take (d + 1)) = slid allB 0 (os.take d) ++ [{ (os[d]'hd) with place := midE d os }] := by
    rw [htk, slid_stay _ _ _ rfl]; rfl
  refine ⟨i, t, e, h1, h2, by rw [hs.slots], hs.fmt, ?_, ?_, ?_⟩
  · rw [hs.place]; exact (laid_split hml).2.1
  · unfold midL
    rw [hst, List.append_assoc]
    exact hmv
  · unfold midE
    rw [hst, endOf_append]
    rfl
end Kiln

namespace Kiln

/-- one thing is changed, and its object -/
theorem Rel.touch {ts : List Th} {zs ys : List Ob} {y : Ob} (h : Rel ts (zs ++ y :: ys)) (hn : ((zs ++ y :: ys).map (·.oop)).Nodup) (i : Nat) (e : y.oop = i + 1) (hi : i < ts.length) (t' : Th) (y' : Ob) (e' : y'.oop = y.oop) (h2 : t'.there = true) (hs : SameT t' y') :
    Rel (ts.set i t') (zs ++ y' :: ys) := by
  obtain ⟨_, n2, n3⟩ := nodup_split hn
  refine ⟨fun j u hj hu => ?_, fun o ho => ?_⟩
  · rw [List.getElem?_set] at hj
    by_cases e1 : i = j
    · rw [if_pos e1, if_pos hi] at hj
      have hj' := Option.some.inj hj
      refine ⟨y', by simp, by rw [← e1, e']; exact e, ?_⟩
      rw [← hj']
      exact hs
    · rw [if_neg e1] at hj
      obtain ⟨o, ho, e2, hs2⟩ := h.fwd j u hj hu
      refine ⟨o, ?_, e2, hs2⟩
      rcases List.mem_append.1 ho with ho | ho
      · simp [ho]
      · rcases List.mem_cons.1 ho with ho | ho
        · rw [ho] at e2; omega
        · simp [ho]
  · have key : ∀ x, x ∈ zs ++ y :: ys → x.oop ≠ y.oop → ∃ j u, x.oop = j + 1 ∧ (ts.set i t')[j]? = some u ∧ u.there = true := by
      intro x hx hne
      obtain ⟨j, u, a, b, c⟩ := h.bwd x hx
      refine ⟨j, u, a, ?_, c⟩
      rw [List.getElem?_set, if_neg (by omega)]
      exact b
    rcases List.mem_append.1 ho with ho | ho
    · exact key o (by simp [ho]) (n2 o ho)
    · rcases List.mem_cons.1 ho with ho | ho
      · refine ⟨i, t', by rw [ho, e']; exact e, ?_, h2⟩
        rw [List.getElem?_set, if_pos rfl, if_pos hi]
      · exact key o (by simp [ho]) (n3 o ho)

theorem Rel.free {ts : List Th} {zs ys : List Ob} {y : Ob} (h : Rel ts (zs ++ y :: ys)) (hn : ((zs ++ y :: ys).map (·.oop)).Nodup) (i : Nat) (e : y.oop = i + 1) (t' : Th) (h2 : t'.there = false) : Rel (ts.set i t') (zs ++ ys) := by
  obtain ⟨_, n2, n3⟩ := nodup_split hn
  refine ⟨fun j u hj hu => ?_, fun o ho => ?_⟩
  · rw [List.getElem?_set] at hj
    by_cases e1 : i = j
    · rw [if_pos e1] at hj
      split at hj
      · rw [← Option.some.inj hj, h2] at hu; cases hu
      · cases hj
    · rw [if_neg e1] at hj
      obtain ⟨o, ho, e2, hs2⟩ := h.fwd j u hj hu
      refine ⟨o, ?_, e2, hs2⟩
      rcases List.mem_append.1 ho with ho | ho
      · simp [ho]
      · rcases List.mem_cons.1 ho with ho | ho
        · rw [ho] at e2; omega
        · simp [ho]
  · have hne : o.oop ≠ y.oop := by
      rcases List.mem_append.1 ho with ho | ho
      · exact n2 o ho
      · exact n3 o ho
    obtain ⟨j, u, a, b, c⟩ := h.bwd o (by rcases List.mem_append.1 ho with ho | ho <;> simp [ho])
    refine ⟨j, u, a, ?_, c⟩
    rw [List.getElem?_set, if_neg (by omega)]
    exact b

/-- the things behind an allocation -/
def addT (ts : List Th) (k : Nat) (t : Th) : List Th := if ts.length ≤ k then ts ++ [t] else ts.set k t
theorem addT_len (ts : List Th) (k : Nat) (t : Th) (h : k ≤ ts.length) : (addT ts k t).length ≤ max ts.length (k + 1) := by
  unfold addT; split
  · rw [List.length_append, List.length_singleton]; omega
  · rw [List.length_set]; omega
theorem mem_addT {ts : List Th} {k : Nat} {t u : Th} (h : u ∈ addT ts k t) : u ∈ ts ∨ u = t := by
  unfold addT at h; split at h
  · rcases List.mem_append.1 h with h | h
    · exact .inl h
    · exact .inr (List.mem_singleton.1 h)
  · exact List.mem_or_eq_of_mem_set h
theorem addT_get (ts : List Th) (k : Nat) (t : Th) (h : k ≤ ts.length) (j : Nat) : (addT ts k t)[j]? = if j = k then some t else ts[j]? := by
  unfold addT; split
  · next hk =>
    obtain rfl : k = ts.length := by omega
    by_cases e : j = ts.length
    · rw [if_pos e, e, List.getElem?_append_right (Nat.le_refl _)]; simp
    · rw [if_neg e]
      by_cases hj : j < ts.length
      · rw [List.getElem?_append_left hj]
      · rw [List.getElem?_eq_none (l := ts ++ [t]) (by rw [List.length_append, List.length_singleton]; omega), List.getElem?_eq_none (by omega)]
  · next hk =>
    rw [List.getElem?_set]
    by_cases e : j = k
    · rw [if_pos e, if_pos e.symm, if_pos (by omega)]
    · rw [if_neg e, if_neg (fun h => e h.symm)]
theorem Rel.alloc {ts : List Th} {l : List Ob} (h : Rel ts l) {k : Nat} (hk : LowT ts k) (t : Th) (o : Ob) (e : o.oop = k + 1) (ht : t.there = true) (hs : SameT t o) : Rel (addT ts k t) (l ++ [o]) := by
  refine ⟨fun j u hj hu => ?_, fun x hx => ?_⟩
  · rw [addT_get ts k t hk.le] at hj
    split at hj
    · next e1 =>
      refine ⟨o, by simp, by rw [e1]; exact e, ?_⟩
      rw [← Option.some.inj hj]; exact hs
    · obtain ⟨x, hx, e2, hs2⟩ := h.fwd j u hj hu
      exact ⟨x, by simp [hx], e2, hs2⟩
  · rcases List.mem_append.1 hx with hx | hx
    · obtain ⟨j, u, a, b, c⟩ := h.bwd x hx
      refine ⟨j, u, a, ?_, c⟩
      rw [addT_get ts k t hk.le]
      split
      · next e1 =>
        have := hk.free u (by rw [← e1]; exact b)
        rw [this] at c; cases c
      · exact b
    · rw [List.mem_singleton.1 hx]
      exact ⟨k, t, e, by rw [addT_get ts k t hk.le, if_pos rfl], ht⟩

/-- two things are exchanged -/
theorem Rel.swap {ts : List Th} {l : List Ob} (h : Rel ts l) {a b : Nat} {ta tb : Th} (ha : ts[a]? = some ta) (hb : ts[b]? = some tb) (h1 : ta.there = true) (h2 : tb.there = true) :
    Rel ((ts.set a tb).set b ta) (l.map (swapOb (a + 1) (b + 1))) := by
  have hal := (List.getElem?_eq_some_iff.1 ha).1
  have hbl := (List.getElem?_eq_some_iff.1 hb).1
  have get : ∀ j, ((ts.set a tb).set b ta)[j]? = if j = b then some ta else if j = a then some tb else ts[j]? := by
    intro j
    rw [List.getElem?_set, List.getElem?_set, List.length_set]
    by_cases e1 : j = b
    · rw [if_pos e1, if_pos e1.symm, if_pos hbl]
    · rw [if_neg e1, if_neg (fun h => e1 h.symm)]
      by_cases e2 : j = a
      · rw [if_pos e2, if_pos e2.symm, if_pos hal]
      · rw [if_neg e2, if_neg (fun h => e2 h.symm)]
  have sm : ∀ {t : Th} {o : Ob}, SameT t o → SameT t (swapOb (a + 1) (b + 1) o) := fun h => ⟨h.cls, h.fmt, h.place, h.slots⟩
  refine ⟨fun j u hj hu => ?_, fun x hx => ?_⟩
  · rw [get] at hj
    split at hj
    · next e1 =>
      obtain ⟨o, ho, e2, hs⟩ := h.fwd a ta ha h1
      refine ⟨_, List.mem_map.2 ⟨o, ho, rfl⟩, ?_, ?_⟩
      · show swapN _ _ o.oop = _
        unfold swapN; rw [if_pos e2, e1]
      · rw [← Option.some.inj hj]; exact sm hs
    · next e1 =>
      split at hj
      · next e3 =>
        obtain ⟨o, ho, e2, hs⟩ := h.fwd b tb hb h2
        refine ⟨_, List.mem_map.2 ⟨o, ho, rfl⟩, ?_, ?_⟩
        · show swapN _ _ o.oop = _
          unfold swapN; rw [if_neg (by omega), if_pos e2, e3]
        · rw [← Option.some.inj hj]; exact sm hs
      · next e3 =>
        obtain ⟨o, ho, e2, hs⟩ := h.fwd j u hj hu
        refine ⟨_, List.mem_map.2 ⟨o, ho, rfl⟩, ?_, sm hs⟩
        show swapN _ _ o.oop = _
        unfold swapN; rw [if_neg (by omega), if_neg (by omega)]; exact e2
  · obtain ⟨o, ho, rfl⟩ := List.mem_map.1 hx
    obtain ⟨j, u, e, hj, hu⟩ := h.bwd o ho
    have e0 : (swapOb (a + 1) (b + 1) o).oop = swapN (a + 1) (b + 1) o.oop := rfl
    rw [e0]
    unfold swapN
    by_cases e1 : o.oop = a + 1
    · rw [if_pos e1]
      exact ⟨b, ta, rfl, by rw [get, if_pos rfl], h1⟩
    · rw [if_neg e1]
      by_cases e2 : o.oop = b + 1
      · rw [if_pos e2]
        by_cases e3 : a = b
        · exact ⟨a, ta, rfl, by rw [get, if_pos e3], h1⟩
        · exact ⟨a, tb, rfl, by rw [get, if_neg e3, if_pos rfl], h2⟩
      · rw [if_neg e2]
        exact ⟨j, u, e, by rw [get, if_neg (by omega), if_neg (by omega)]; exact hj, hu⟩

/-- only some stay -/
def stayT (s : Nat → Bool) (ts : List Th) (k : Nat) : List Th := (List.range ts.length).map fun i => if i < k then { ts.getD i ⟨false, 0, 0, 0, [], .slice none 0 0⟩ with there := (ts.getD i ⟨false, 0, 0, 0, [], .slice none 0 0⟩).there && s (i + 1) } else ts.getD i ⟨false, 0, 0, 0, [], .slice none 0 0⟩
theorem stayT_get (s : Nat → Bool) (ts : List Th) (k i : Nat) : (stayT s ts k)[i]? = (ts[i]?).map fun t => if i < k then { t with there := t.there && s (i + 1) } else t := by
  unfold stayT
  rw [List.getElem?_map]
  by_cases hi : i < ts.length
  · rw [List.getElem?_range hi, List.getElem?_eq_getElem hi, Option.map_some, Option.map_some, List.getD_eq_getElem?_getD, List.getElem?_eq_getElem hi]; rfl
  · rw [List.getElem?_eq_none (l := ts) (by omega), List.getElem?_eq_none (by simp; omega)]; rfl
theorem stayT_len (s : Nat → Bool) (ts : List Th) (k : Nat) : (stayT s ts k).length = ts.length := by unfold stayT; simp
theorem stayT_zero (s : Nat → Bool) (ts : List Th) : stayT s ts 0 = ts := by
  apply List.ext_getElem?
  intro i
  rw [stayT_get]
  cases ts[i]? <;> rfl
theorem stayT_succ (s : Nat → Bool) (ts : List Th) (k : Nat) (hk : k < ts.length) :
    ∃ h : k < (stayT s ts k).length, (stayT s ts k)[k]'h = ts[k]'hk ∧ stayT s ts (k + 1) = (stayT s ts k).set k { (ts[k]'hk) with there := (ts[k]'hk).there && s (k + 1) } := by
  refine ⟨by rw [stayT_len]; exact hk, ?_, ?_⟩
  · have h1 := stayT_get s ts k k
    rw [List.getElem?_eq_getElem hk, Option.map_some, if_neg (by omega)] at h1
    exact (List.getElem?_eq_some_iff.1 h1).2
  · apply List.ext_getElem?
    intro i
    rw [stayT_get, List.getElem?_set, stayT_len, stayT_get]
    by_cases e : k = i
    · subst e
      rw [if_pos rfl, if_pos hk, List.getElem?_eq_getElem hk, Option.map_some, if_pos (by omega)]
    · rw [if_neg e]
      cases ts[i]? with
      | none => rfl
      | some t =>
        rw [Option.map_some, Option.map_some]
        by_cases h : i < k
        · rw [if_pos h, if_pos (by omega)]
        · rw [if_neg h, if_neg (by omega)]
theorem stayT_sv (s : Nat → Bool) (ts : List Th) (k : Nat) : (stayT s ts k).map (·.sv) = ts.map (·.sv) := by
  apply List.ext_getElem?
  intro i
  rw [List.getElem?_map, List.getElem?_map, stayT_get]
  cases ts[i]? with
  | none => rfl
  | some t => rw [Option.map_some, Option.map_some, Option.map_some]; split <;> rfl
theorem Rel.stay {ts : List Th} {l : List Ob} (h : Rel ts l) (s : Nat → Bool) : Rel (stayT s ts ts.length) (l.filter fun o => s o.oop) := by
  refine ⟨fun j u hj hu => ?_, fun x hx => ?_⟩
  · rw [stayT_get] at hj
    cases ht : ts[j]? with
    | none => rw [ht] at hj; cases hj
    | some t =>
      have hjl := (List.getElem?_eq_some_iff.1 ht).1
      rw [ht, Option.map_some, if_pos hjl] at hj
      have e := Option.some.inj hj
      rw [← e] at hu
      have hu2 : t.there = true ∧ s (j + 1) = true := by simpa using hu
      obtain ⟨o, ho, e2, hs⟩ := h.fwd j t ht hu2.1
      refine ⟨o, List.mem_filter.2 ⟨ho, by rw [e2]; exact hu2.2⟩, e2, ?_⟩
      rw [← e]
      exact ⟨hs.cls, hs.fmt, hs.place, hs.slots⟩
  · obtain ⟨hx1, hx2⟩ := List.mem_filter.1 hx
    obtain ⟨j, u, a, b, c⟩ := h.bwd x hx1
    have hjl := (List.getElem?_eq_some_iff.1 b).1
    refine ⟨j, { u with there := u.there && s (j + 1) }, a, ?_, ?_⟩
    · rw [stayT_get, b, Option.map_some, if_pos hjl]
    · show (u.there && s (j + 1)) = true
      rw [c, ← a, hx2]; rfl
end Kiln

namespace Kiln
open Go Go.RowKit Go.Proofs

theorem Rel.there_iff {ts : List Th} {l : List Ob} (h : Rel ts l) {i : Nat} {t : Th} (ht : ts[i]? = some t) : t.there = true ↔ ∃ o, o ∈ l ∧ o.oop = i + 1 := by
  constructor
  · intro hu
    obtain ⟨o, a, b, _⟩ := h.fwd i t ht hu
    exact ⟨o, a, b⟩
  · rintro ⟨o, a, b⟩
    obtain ⟨j, u, e, hj, hu⟩ := h.bwd o a
    obtain rfl : j = i := by omega
    rw [ht] at hj
    rw [Option.some.inj hj]; exact hu
theorem allK_split (H : Hc) (k : Nat) : ∀ j, ∃ r, allK H (k + j) = allK H k ++ r
  | 0 => ⟨[], by simp⟩
  | j + 1 => by
    obtain ⟨r, e⟩ := allK_split H k j
    have es : allK H (k + (j + 1)) = if 0 ≤ H.table (k + j) then allK H (k + j) ++ [((k + j : Nat) : Int)] else allK H (k + j) := rfl
    rw [es]
    split
    · exact ⟨r ++ [((k + j : Nat) : Int)], by rw [e, List.append_assoc]⟩
    · exact ⟨r, e⟩
theorem allK_there {H : Hc} {ts : List Th} {l : List Ob} (hb : Body H l) (h : Rel ts l) (hT : ts.length + 1 ≤ H.T) : ∀ i, i ≤ ts.length → (allK H (i + 1)).length = thereK ts i
  | 0, _ => by
    have h0 : ¬ 0 ≤ H.table 0 := by
      intro hh
      obtain ⟨o, ho, e⟩ := (hb.table_nn (by omega)).1 hh
      have := (hb.each o ho).o1
      omega
    show (if 0 ≤ H.table 0 then allK H 0 ++ [((0 : Nat) : Int)] else allK H 0).length = _
    rw [if_neg h0]; rfl
  | i + 1, hi => by
    have ih := allK_there hb h hT i (by omega)
    have hk : i < ts.length := by omega
    rw [thereK_succ ts i hk, ← ih]
    have hiff := h.there_iff (List.getElem?_eq_getElem hk)
    have htab := hb.table_nn (i := i + 1) (by omega)
    show (if 0 ≤ H.table (i + 1) then allK H (i + 1) ++ [((i + 1 : Nat) : Int)] else allK H (i + 1)).length = _
    by_cases ht : (ts[i]'hk).there = true
    · rw [if_pos (htab.2 (hiff.1 ht)), if_pos ht, List.length_append]; rfl
    · rw [if_neg (fun hh => ht (hiff.2 (htab.1 hh))), if_neg ht]; rfl
theorem told_at {H : Hc} {ts : List Th} {l : List Ob} (hb : Body H l) (h : Rel ts l) (hT : ts.length + 1 ≤ H.T) {i : Nat} (hi : i < ts.length) (ht : (ts[i]'hi).there = true) :
    thereK ts i < (allK H H.T).length ∧ (allK H H.T).getD (thereK ts i) 0 = (i : Int) + 1 := by
  have e1 := allK_there hb h hT i (by omega)
  have e2 := allK_there hb h hT (i + 1) (by omega)
  have h0 : 0 ≤ H.table (i + 1) := (hb.table_nn (by omega)).2 ((h.there_iff (List.getElem?_eq_getElem hi)).1 ht)
  have e3 : allK H (i + 1 + 1) = allK H (i + 1) ++ [((i + 1 : Nat) : Int)] := by
    conv => lhs; unfold allK
    rw [if_pos h0]
  obtain ⟨r, er⟩ := allK_split H (i + 1 + 1) (H.T - (i + 1 + 1))
  rw [show i + 1 + 1 + (H.T - (i + 1 + 1)) = H.T by omega, e3] at er
  rw [er, ← e1]
  refine ⟨by simp, ?_⟩
  rw [List.getD_eq_getElem?_getD, List.append_assoc, List.getElem?_append_right (Nat.le_refl _)]
  simp
theorem told_len {H : Hc} {ts : List Th} {l : List Ob} (hb : Body H l) (h : Rel ts l) : (allK H H.T).length = thereK ts ts.length := by
  rw [hb.count, h.there hb.nodup]

/-- a heap, and a model that says what it holds; b: what the turns and births stay within -/
structure HM (B : Nat) (H : Hc) (M : Md) (os : List Ob) (b : Int) (w : World) : Prop where
  hA : HAt w H
  sim : Sim H os
  nums : Nums H b
  md : MdAt w B M
  hB : B ≤ w.heap.size
  ok : MdOk M
  rel : Rel M.things os
  W : M.W = H.W
  O : M.O + 1 = H.T
  mark : M.mark = H.mark
  len : M.things.length ≤ M.O
  apart : ∀ k, H.own k → ¬ M.own k
  kB : 0 < B
  bn : ∀ o, o ∈ os → H.born o.oop < H.ever

/-- what a step leaves -/
structure HMs (H : Hc) (M : Md) (w : World) (H' : Hc) (M' : Md) (w' : World) : Prop where
  fr : Fr (fun k => H.own k ∨ M.own k) w w'
  own : H'.own = H.own
  b : H'.b = H.b
  mb : M'.b = M.b
  W : H'.W = H.W
  T : H'.T = H.T
  mown : ∀ k, M'.own k → M.own k ∨ w.heap.size ≤ k

theorem HM.other {B : Nat} {H : Hc} {M : Md} {os : List Ob} {b : Int} {w w' : World} {S : Nat → Prop} (h : HM B H M os b w) (f : Fr S w w') (h1 : ∀ k, H.own k → ¬ S k) (h2 : ∀ k, M.own k → ¬ S k) (h0 : ¬ S 0) : HM B H M os b w' :=
  ⟨h.hA.fr f h1 h0, h.sim, h.nums, h.md.fr f h2, Nat.le_trans h.hB f.size, h.ok, h.rel, h.W, h.O, h.mark, h.len, h.apart, h.kB, h.bn⟩
theorem HM.mono {B : Nat} {H : Hc} {M : Md} {os : List Ob} {b b' : Int} {w : World} (h : HM B H M os b w) (hb : b ≤ b') : HM B H M os b' w :=
  ⟨h.hA, h.sim, h.nums.mono hb, h.md, h.hB, h.ok, h.rel, h.W, h.O, h.mark, h.len, h.apart, h.kB, h.bn⟩
theorem HM.mdlt {B : Nat} {H : Hc} {M : Md} {os : List Ob} {b : Int} {w : World} (h : HM B H M os b w) {k : Nat} (hk : M.own k) : B ≤ k ∧ k < w.heap.size := by
  rcases hk with rfl | hk | ⟨t, ht, hk⟩
  · exact ⟨h.md.base, h.md.kind.lt⟩
  · exact h.md.row.lt k hk
  · exact (h.md.each t ht).row.lt k hk
theorem HM.kq {B : Nat} {H : Hc} {M : Md} {os : List Ob} {b : Int} {w : World} (h : HM B H M os b w) : ¬ M.own 0 := fun hk => by
  have := (h.mdlt hk).1
  have := h.kB
  omega
theorem HM.tlen {B : Nat} {H : Hc} {M : Md} {os : List Ob} {b : Int} {w : World} (h : HM B H M os b w) : M.things.length + 1 ≤ H.T := by
  have := h.len; have := h.O; omega
end Kiln

namespace Kiln
open Go Go.RowKit Go.Proofs

structure SlAt (w : World) (B : Nat) (M : Md) (os : List Ob) (d : Nat) (ts : List Th) (wr : World) : Prop where
  md : MdAt wr B { M with things := ts }
  ok : MdOk { M with things := ts }
  rel : Rel ts (midL d os)
  sv : ts.map (·.sv) = M.things.map (·.sv)
  fr : Fr M.own w wr
theorem SlAt.len {w : World} {B : Nat} {M : Md} {os : List Ob} {d : Nat} {ts : List Th} {wr : World} (h : SlAt w B M os d ts wr) : ts.length = M.things.length := by
  have := congrArg List.length h.sv
  simpa using this
theorem SlAt.other {w : World} {B : Nat} {M : Md} {os : List Ob} {d : Nat} {ts : List Th} {wr wq : World} (h : SlAt w B M os d ts wr) (f : Fr (fun _ => False) wr wq) : SlAt w B M os d ts wq :=
  ⟨h.md.fr f (fun _ _ => id), h.ok, h.rel, h.sv, h.fr.trans' f (fun _ _ => id) (fun _ _ => False.elim)⟩
theorem SlAt.move {w : World} {B : Nat} {M : Md} {os : List Ob} {d : Nat} {ts : List Th} {wr : World} (h : SlAt w B M os d ts wr) {g cap i : Nat} (hv : M.tv = .slice (some ⟨g, 0, none⟩) M.things.length cap) (hi : i < ts.length) (q : Nat) (hq : q ≤ (ts[i]'hi).place)
    (hr : Rel (ts.set i { (ts[i]'hi) with place := q }) (midL (d + 1) os)) :
    SlAt w B M os (d + 1) (ts.set i { (ts[i]'hi) with place := q }) (wr.setCell ⟨g, i * 5 + 3, none⟩ (.int .i64 q)) := by
  have hM := h.md
  have e : (ts.set i { (ts[i]'hi) with place := q }).map (·.sv) = ts.map (·.sv) := set_sv ts i hi _ rfl
  refine ⟨MdAt.fieldPut (M := { M with things := ts }) hM (by show M.tv = _; rw [hv, h.len]) i hi 3 (by omega) _ _ rfl rfl rfl, ⟨?_, ?_, ?_⟩, hr, by rw [e, h.sv], ?_⟩
  · show (ts.set i _).length ≤ _
    rw [List.length_set]; exact h.ok.n
  · intro t ht
    rcases List.mem_or_eq_of_mem_set ht with ht | rfl
    · exact h.ok.slots t ht
    · exact h.ok.slots (ts[i]'hi) (List.getElem_mem hi)
  · intro t ht
    rcases List.mem_or_eq_of_mem_set ht with ht | rfl
    · exact h.ok.place t ht
    · exact Nat.le_trans hq (h.ok.place (ts[i]'hi) (List.getElem_mem hi))
  · exact h.fr.setCell (fun _ => .inr (.inl (by rw [hv]; rfl))) _

set_option maxRecDepth 100000 in
set_option maxHeartbeats 4000000 in
theorem slid_calls (M : Md) (B : Nat) (w : World) (hM : MdAt w B M) (hO : MdOk M) (os : List Ob) (hR : Rel M.things os) (hn : (os.map (·.oop)).Nodup) (hl : Laid 0 os) :
    Calls Tryd.prog 39 #[M.ptr] w fun e w' => ∃ ts, e = .returned (.tuple #[]) ∧ SlAt w B M os os.length ts w' := by
  obtain ⟨ao, cap, hv, hao⟩ := hM.form
  have h0 : SlAt w B M os 0 M.things w := ⟨hM, hO, hR, rfl, Fr.refl _ _⟩
  obtain ⟨n, hnE⟩ : ∃ n, n = M.things.length := ⟨_, rfl⟩
  obtain ⟨C, hC⟩ : ∃ C, C = os.length := ⟨_, rfl⟩
  have hnL := hO.n
  rw [← hnE] at hnL
  have hCn : C ≤ n := by rw [hC, hnE, ← hR.there hn]; exact thereK_le _ _
  have HN := Lib.hid (And.intro hnE (And.intro hv (And.intro hao (And.intro hC (And.intro hn hl)))))
  have H0 := Lib.hid h0
  clear hnE hv hao hC hM hO hR hn hl h0
  go_enter Tryd.func39, Tryd.ntmps39
  go_wp2_with fail
  go_loopw [2, 3] (fun a b wr => ∃ (d : Nat) (ts : List Th), d ≤ C ∧ b = .int .i64 d ∧ a = .int .i64 (midE d os : Nat) ∧ SlAt w B M os d ts wr) (fun _ b _ => C - (RowKit.intOf b).toNat)
  case atStart => exact ⟨0, M.things, Nat.zero_le _, rfl, rfl, H0.out⟩
  case round =>
    obtain ⟨d, ts, hd, rfl, rfl, hS⟩ := hrel
    clear H0
    obtain ⟨w1, rfl⟩ : ∃ w1, w1 = wr := ⟨_, rfl⟩
    obtain ⟨hnE, hv, hao, hC, hn, hl⟩ := HN.out
    have g := there_calls { M with things := ts } B w1 hS.md hS.ok.n
    have hTC : thereK ts ts.length = C := by rw [hS.rel.there (by rw [midL_oops]; exact hn), midL_len, hC]
    have hpe : ({ M with things := ts } : Md).ptr = M.ptr := rfl
    have hlen : ts.length = n := by rw [hS.len, hnE]
    rw [hpe] at g
    dsimp only at g
    rw [hTC] at g
    have G := Lib.hid g
    have HS := Lib.hid hS
    have HL := Lib.hid hlen
    clear g hTC hpe hlen hS
    by_cases hdC : d < C
    · obtain ⟨gt, rfl⟩ := hao (by omega)
      have c3 : w1.cell? ⟨M.b, 3, none⟩ = some (.slice (some ⟨gt, 0, none⟩) n cap) := by have := HS.out.md.c3; rw [hnE, ← hv]; exact this
      have C3 := Lib.hid c3
      obtain ⟨E, hE⟩ : ∃ E, E = midE d os := ⟨_, rfl⟩
      rw [← hE]
      have HE := Lib.hid hE
      clear hnE hv hao hC hn hl hE c3
      go_wp2_with (go_at_call 104; refine G.out.mono ?_; rintro e w' ⟨rfl, rfl⟩)
      clear G
      go_loopw [4, 5] (fun x4 x5 wr => ∃ (i : Nat) (p : Int), i ≤ n ∧ x5 = .int .i64 i ∧ x4 = .int .i64 p ∧ PickAt ts E i p ∧ Fr (fun _ => False) w1 wr) (fun _ x5 _ => n - (RowKit.intOf x5).toNat)
      case atStart => exact ⟨0, -1, Nat.zero_le _, rfl, rfl, PickAt.zero _ _, Fr.refl _ _⟩
      case round =>
        obtain ⟨i, p, hi, rfl, rfl, hP, F1⟩ := hrel
        have c3 : wr.cell? ⟨M.b, 3, none⟩ = some (.slice (some ⟨gt, 0, none⟩) n cap) := F1.cell C3.out id
        by_cases hin : i < n
        · have hit : i < ts.length := by rw [HL.out]; exact hin
          have hM1 := HS.out.md.fr F1 (fun _ _ => id)
          have hvT : ({ M with things := ts } : Md).tv = .slice (some ⟨gt, 0, none⟩) ({ M with things := ts } : Md).things.length cap := by show M.tv = _; rw [HN.out.2.1, HS.out.len]
          obtain ⟨t0, t1, t2, t3, t4⟩ := hM1.thing hvT hit
          have hMb : M.b < wr.heap.size := hM1.kind.lt
          have hgt : gt < wr.heap.size := World.block_lt_of_cell? _ _ t0
          obtain ⟨t, ht⟩ : ∃ t, t = ts[i]'hit := ⟨_, rfl⟩
          have htg : ts[i]? = some t := by rw [ht]; exact List.getElem?_eq_getElem hit
          dsimp only at t0 t1 t2 t3 t4
          rw [← ht] at t0 t1 t2 t3 t4
          obtain ⟨so, scap, hsv, _⟩ := (hM1.each t (by show t ∈ ts; rw [ht]; exact List.getElem_mem hit)).sv
          rw [hsv] at t4
          obtain ⟨sl, hsl⟩ : ∃ sl, sl = t.slots.length := ⟨_, rfl⟩
          rw [← hsl] at t4
          have HT := Lib.hid htg
          obtain ⟨th, hth⟩ : ∃ th, th = t.there := ⟨_, rfl⟩
          obtain ⟨pl, hpl⟩ : ∃ pl, pl = t.place := ⟨_, rfl⟩
          rw [← hth] at t0
          rw [← hpl] at t3
          have HTP := Lib.hid (And.intro hth hpl)
          have HP := Lib.hid hP
          clear ht htg hth hpl hvT hM1 hP hsv hsl
          by_cases hc : th = true ∧ E ≤ pl
          · obtain ⟨rfl, hge⟩ := hc
            have hgeb : decide ((pl : Int) ≥ (E : Int)) = true := by simp; omega
            have hgeb2 : decide (E ≤ pl) = true := decide_eq_true hge
            have hcand : Cand ts E i t := ⟨HT.out, HTP.out.1.symm, by rw [← HTP.out.2]; exact hge⟩
            have HC := Lib.hid hcand
            clear hcand
            by_cases hp0 : p < 0
            · have hpE : Hid (p = -1) := by
                rcases HP.out with ⟨e, _⟩ | ⟨j, u, e, _⟩
                · exact e
                · omega
              have htk := Lib.hid (HP.out.take t HC.out (.inl hpE.out))
              go_wp2_with fail
              go_quiet (fail)
              go_wp2_with fail
              go_roundw
              case rel => exact ⟨i + 1, i, by omega, by go_num, rfl, htk.out, (F1.alloc _).drewN _⟩
              case measure => simp [RowKit.intOf]; omega
            · obtain ⟨j, u, hpj, hji, hcu⟩ : ∃ (j : Nat) (u : Th), p = j ∧ j < i ∧ ts[j]? = some u := by
                rcases HP.out with ⟨e, _⟩ | ⟨j, u, e, e2, e3, _⟩
                · omega
                · exact ⟨j, u, e, e2, e3.get⟩
              subst hpj
              have hjt : j < ts.length := by omega
              have hM1 := HS.out.md.fr F1 (fun _ _ => id)
              have hvT : ({ M with things := ts } : Md).tv = .slice (some ⟨gt, 0, none⟩) ({ M with things := ts } : Md).things.length cap := by show M.tv = _; rw [HN.out.2.1, HS.out.len]
              have s3 := (hM1.thing hvT hjt).2.2.2.1
              dsimp only at s3
              rw [show ts[j]'hjt = u from Option.some.inj ((List.getElem?_eq_getElem hjt).symm.trans hcu)] at s3
              obtain ⟨pu, hpu⟩ : ∃ pu, pu = u.place := ⟨_, rfl⟩
              rw [← hpu] at s3
              have hpb : decide ((j : Int) < 0) = false := decide_eq_false (by omega)
              have hjn : j < n := by omega
              have HU := Lib.hid (And.intro hcu hpu)
              clear hM1 hvT hcu hpu hjt
              by_cases hlt : pl < pu
              · have htk := Lib.hid (HP.out.take t HC.out (.inr ⟨j, u, rfl, HU.out.1, by rw [← HU.out.2, ← HTP.out.2]; exact hlt⟩))
                go_wp2_with fail
                go_quiet (fail)
                go_wp2_with fail
                go_roundw
                case rel => exact ⟨i + 1, i, by omega, by go_num, rfl, htk.out, (F1.alloc _).drewN _⟩
                case measure => simp [RowKit.intOf]; omega
              · have htk := Lib.hid (HP.out.skip (fun v hv => ⟨j, u, rfl, HU.out.1, by
                  have := Option.some.inj (HT.out.symm.trans hv.get)
                  rw [← this, ← HU.out.2, ← HTP.out.2]; omega⟩))
                go_wp2_with fail
                go_quiet (fail)
                go_wp2_with fail
                go_roundw
                case rel => exact ⟨i + 1, j, by omega, by go_num, rfl, htk.out, (F1.alloc _).drewN _⟩
                case measure => simp [RowKit.intOf]; omega
          · have htk := Lib.hid (HP.out.skip (fun v hv => absurd (And.intro (HTP.out.1.trans (by rw [Option.some.inj (HT.out.symm.trans hv.get)]; exact hv.there)) (by rw [HTP.out.2, Option.some.inj (HT.out.symm.trans hv.get)]; exact hv.place)) hc))
            cases th
            · clear hc
              go_wp2_with fail
              go_quiet (fail)
              go_wp2_with fail
              go_roundw
              case rel => exact ⟨i + 1, p, by omega, by go_num, rfl, htk.out, (F1.alloc _).drewN _⟩
              case measure => simp [RowKit.intOf]; omega
            · have hge : pl < E := by
                rcases Nat.lt_or_ge pl E with h | h
                · exact h
                · exact absurd ⟨rfl, h⟩ hc
              have hgeb2 : decide (E ≤ pl) = false := decide_eq_false (by omega)
              clear hc
              go_wp2_with fail
              go_quiet (fail)
              go_wp2_with fail
              go_roundw
              case rel => exact ⟨i + 1, p, by omega, by go_num, rfl, htk.out, (F1.alloc _).drewN _⟩
              case measure => simp [RowKit.intOf]; omega
        · obtain rfl : i = n := by omega
          have hS1 := HS.out.other F1
          have hms := mid_step (by rw [← HN.out.2.2.2.1]; exact hdC) HN.out.2.2.2.2.2 HN.out.2.2.2.2.1 hS1.rel (p := p) (by rw [← HE.out, HL.out]; exact hP)
          obtain ⟨k, t, rfl, htk, hth, hsl, hfm, hple, hrel, hE2⟩ := hms
          rw [← HE.out] at hple hrel hE2
          have hkt : k < ts.length := (List.getElem?_eq_some_iff.1 htk).1
          have hte : ts[k]'hkt = t := Option.some.inj ((List.getElem?_eq_getElem hkt).symm.trans htk)
          have hvT : M.tv = .slice (some ⟨gt, 0, none⟩) M.things.length cap := by rw [HN.out.2.1]
          have hS2 := hS1.move hvT hkt E (by rw [hte]; exact hple) (by rw [hte]; exact hrel)
          obtain ⟨so, scap, hsv, _⟩ := (hS1.md.each t (by show t ∈ ts; rw [← hte]; exact List.getElem_mem hkt)).sv
          have hkE : k * 5 + 3 < 5 * i := by have := HL.out; omega
          have f3 : wr.frozen? ⟨gt, k * 5 + 3, none⟩ = false := by
            have hr := hS1.md.row
            have e0 : ({ M with things := ts } : Md).tv = .slice (some ⟨gt, 0, none⟩) ({ M with things := ts } : Md).things.length cap := by show M.tv = _; rw [HN.out.2.1, HS.out.len]
            rw [e0] at hr
            exact hr.frozenAt _
          have hvT2 : ({ M with things := ts } : Md).tv = .slice (some ⟨gt, 0, none⟩) ({ M with things := ts } : Md).things.length cap := by show M.tv = _; rw [HN.out.2.1, HS.out.len]
          have r3 := (hS1.md.thing hvT2 hkt).2.2.2.1
          dsimp only at r3
          have hL8 := hS1.ok.slots t (by show t ∈ ts; rw [← hte]; exact List.getElem_mem hkt)
          have hP8 := hS1.ok.place t (by show t ∈ ts; rw [← hte]; exact List.getElem_mem hkt)
          have hk2 : k < (ts.set k { (ts[k]'hkt) with place := E }).length := by rw [List.length_set]; exact hkt
          have hvT3 : ({ M with things := ts.set k { (ts[k]'hkt) with place := E } } : Md).tv = .slice (some ⟨gt, 0, none⟩) ({ M with things := ts.set k { (ts[k]'hkt) with place := E } } : Md).things.length cap := by show M.tv = _; rw [HN.out.2.1, List.length_set, HS.out.len]
          have hth2 := hS2.md.thing hvT3 hk2
          obtain ⟨W, hW⟩ : ∃ W, W = wr.setCell ⟨gt, k * 5 + 3, none⟩ (.int .i64 (E : Nat)) := ⟨_, rfl⟩
          rw [← hW] at hS2 hth2
          have q4 := hth2.2.2.2.2
          have q2 := hth2.2.2.1
          simp only [List.getElem_set_self, hte] at q2 q4
          rw [hsv] at q4
          have d3 : W.cell? ⟨M.b, 3, none⟩ = some (.slice (some ⟨gt, 0, none⟩) i cap) := by have := hS2.md.c3; rw [HN.out.1]; exact this.trans (by rw [← HN.out.2.1])
          obtain ⟨L, hL⟩ : ∃ L, L = t.len := ⟨_, rfl⟩
          have hLb : L ≤ 2 + t.slots.length := by rw [hL]; unfold Th.len lenN; split <;> omega
          have g2 := fun w => length2_calls t.slots.length t.fmt w (by omega) (by omega)
          rw [obLen_nat] at g2
          have g3 : ∀ w, Calls Tryd.prog 70 #[.int .i64 t.slots.length, .int .i64 t.fmt] w fun e w' => e = .returned (.int .i64 (L : Nat)) ∧ w = w' := by rw [hL]; exact g2
          obtain ⟨sl, hslE⟩ : ∃ sl, sl = t.slots.length := ⟨_, rfl⟩
          obtain ⟨fm, hfmE⟩ : ∃ fm, fm = t.fmt := ⟨_, rfl⟩
          rw [← hslE] at g3 q4 hLb hL8
          rw [← hfmE] at g3 q2
          have hE3 : E + L = midE (d + 1) os := by rw [hE2, hL]; unfold Th.len Ob.len; rw [hsl, hfm]
          have G3 := Lib.hid g3
          have HF := Lib.hid (And.intro hS2 hE3)
          have HW := Lib.hid hW
          have hkb : decide ((k : Int) < 0) = false := decide_eq_false (by omega)
          clear hS2 hE3 hW g2 g3 hfmE hslE hL hth2 hvT3 hk2 hvT2 hsv hvT hrel hte htk hth hsl hfm hE2 hS1 hP
          go_wp2_with fail
          rw [← HW.out]
          go_quiet ((go_at_call 70; refine Calls.quiet_of_same ((G3.out _).mono fun e w' ⟨he, hw⟩ => ⟨he, hw.symm⟩)))
          go_wp2_with fail
          go_roundw
          case rel => exact ⟨d + 1, _, by omega, by go_num, by rw [← HF.out.2]; go_num, HF.out.1.other ((Fr.refl _ _).drewN _)⟩
          case measure => simp [RowKit.intOf]; omega
    · obtain rfl : d = C := by omega
      clear hnE hv hao hC hn hl
      go_wp2_with (go_at_call 104; refine G.out.mono ?_; rintro e w' ⟨rfl, rfl⟩)
      go_end0
      refine ⟨ts, rfl, ?_⟩
      rw [← HN.out.2.2.2.1]
      exact HS.out
end Kiln
