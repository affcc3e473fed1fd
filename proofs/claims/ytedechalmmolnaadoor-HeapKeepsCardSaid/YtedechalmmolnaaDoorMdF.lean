/- Stores into the model's memory: a field of a thing, a slot of a thing, two things exchanged, the model's mark. -/
import Derived.Test.YtedechalmmolnaaDoorMdE
namespace Kiln
open Go Go.RowKit Go.Proofs

theorem apart_iff (l : List Th) : (l.Pairwise fun s t => ∀ g, s.sv.ownBlock = some g → t.sv.ownBlock ≠ some g) ↔ ((l.map (·.sv)).Pairwise fun s t => ∀ g, s.ownBlock = some g → t.ownBlock ≠ some g) := by
  rw [List.pairwise_map]
theorem set_sv (l : List Th) (k : Nat) (hk : k < l.length) (t' : Th) (hs : t'.sv = (l[k]'hk).sv) : (l.set k t').map (·.sv) = l.map (·.sv) := by
  rw [List.map_set, hs]
  have : (l[k]'hk).sv = (l.map (·.sv))[k]'(by simpa using hk) := by simp
  rw [this, List.set_getElem_self]
theorem own_same (M : Md) (ts : List Th) (h : ts.map (·.sv) = M.things.map (·.sv)) (m : Int) : ({ M with things := ts, mark := m } : Md).own = M.own := by
  funext k
  apply propext
  have e : ∀ l : List Th, (∃ t, t ∈ l ∧ t.sv.ownBlock = some k) ↔ (∃ v, v ∈ l.map (·.sv) ∧ v.ownBlock = some k) := by
    intro l
    constructor
    · rintro ⟨t, h1, h2⟩; exact ⟨_, List.mem_map.2 ⟨t, h1, rfl⟩, h2⟩
    · rintro ⟨v, h1, h2⟩
      obtain ⟨t, h3, rfl⟩ := List.mem_map.1 h1
      exact ⟨t, h3, h2⟩
  show (k = M.b ∨ M.tv.ownBlock = some k ∨ ∃ t, t ∈ ts ∧ t.sv.ownBlock = some k) ↔ (k = M.b ∨ M.tv.ownBlock = some k ∨ ∃ t, t ∈ M.things ∧ t.sv.ownBlock = some k)
  rw [e ts, e M.things, h]

theorem MdAt.fieldPut {w : World} {B g cap : Nat} {M : Md} (h : MdAt w B M) (hv : M.tv = .slice (some ⟨g, 0, none⟩) M.things.length cap) (k : Nat) (hk : k < M.things.length) (j : Nat) (hj : j < 5) (u : Value) (t' : Th)
    (ha : thCells t' = (thCells (M.things[k]'hk)).set j u) (hs : t'.sv = (M.things[k]'hk).sv) (hl : t'.slots = (M.things[k]'hk).slots) :
    MdAt (w.setCell ⟨g, k * 5 + j, none⟩ u) B { M with things := M.things.set k t' } := by
  have f : Fr (fun j => j = g) w (w.setCell ⟨g, k * 5 + j, none⟩ u) := (Fr.refl (fun j => j = g) w).setCell (a := ⟨g, k * 5 + j, none⟩) (fun _ => rfl) u
  have hgo : M.tv.ownBlock = some g := by rw [hv]; rfl
  have hr := h.row
  rw [hv] at hr
  have hsv : ∀ t, t ∈ M.things.set k t' → ∃ t0, t0 ∈ M.things ∧ t.sv = t0.sv ∧ t.slots = t0.slots := by
    intro t ht
    rcases List.mem_or_eq_of_mem_set ht with ht | rfl
    · exact ⟨t, ht, rfl, rfl⟩
    · exact ⟨_, List.getElem_mem hk, hs, hl⟩
  refine ⟨?_, h.base, ?_, ?_, h.tb, ?_, ?_⟩
  · exact f.row h.kind (fun e => h.tb (by rw [hgo, ← e]))
  · show (w.setCell _ u).ownsRow B _ 5 M.tv (M.things.set k t').length _
    rw [hv, List.length_set]
    have s := (hr.stored (k * 5 + j) u).1
    rw [flat_set thCells 5 thCells_len M.things k j t' u hk hj ha] at s
    exact s
  · intro t ht
    obtain ⟨t0, h0, e1, e2⟩ := hsv t ht
    refine ⟨?_⟩
    rw [e1, e2]
    exact owns_fr (h.each t0 h0).row f (fun j hj e => (h.tbs t0 h0 j hj).2 (by rw [hgo, ← e]))
  · intro t ht j hj
    obtain ⟨t0, h0, e1, e2⟩ := hsv t ht
    rw [e1] at hj
    exact h.tbs t0 h0 j hj
  · show (M.things.set k t').Pairwise _
    rw [apart_iff, set_sv _ _ hk _ hs, ← apart_iff]
    exact h.apart

theorem flat_same (l : List Th) (k : Nat) (hk : k < l.length) (t' : Th) (h : thCells t' = thCells (l[k]'hk)) : (l.set k t').flatMap thCells = l.flatMap thCells := by
  rw [List.flatMap_def, List.flatMap_def, List.map_set, h]
  have : thCells (l[k]'hk) = (l.map thCells)[k]'(by simpa using hk) := by simp
  rw [this, List.set_getElem_self]

theorem MdAt.slotPut {w : World} {B : Nat} {M : Md} (h : MdAt w B M) (k : Nat) (hk : k < M.things.length) (t : Th) (ht : t = M.things[k]'hk) (gs scap i : Nat) (hsv : t.sv = .slice (some ⟨gs, 0, none⟩) t.slots.length scap) (v : Int) :
    MdAt (w.setCell ⟨gs, i, none⟩ (.int .i64 v)) B { M with things := M.things.set k { t with slots := t.slots.set i v } } := by
  have f : Fr (fun j => j = gs) w (w.setCell ⟨gs, i, none⟩ (.int .i64 v)) := (Fr.refl (fun j => j = gs) w).setCell (a := ⟨gs, i, none⟩) (fun _ => rfl) _
  have hgo : t.sv.ownBlock = some gs := by rw [hsv]; rfl
  have htm : t ∈ M.things := by rw [ht]; exact List.getElem_mem hk
  have hb := h.tbs t htm gs hgo
  have hp := List.pairwise_iff_getElem.1 h.apart
  have hset : ({ t with slots := t.slots.set i v } : Th).sv = (M.things[k]'hk).sv := by rw [← ht]
  refine ⟨?_, h.base, ?_, ?_, h.tb, ?_, ?_⟩
  · exact f.row h.kind (fun e => hb.1 e.symm)
  · show (w.setCell _ _).ownsRow B _ 5 M.tv (M.things.set k _).length ((M.things.set k _).flatMap thCells)
    rw [flat_same _ _ hk _ (by rw [← ht]; rfl), List.length_set]
    exact owns_fr h.row f (fun j hj e => hb.2 (by rw [hj, e]))
  · intro u hu
    obtain ⟨j, hj, rfl⟩ := List.mem_iff_getElem.1 hu
    rw [List.length_set] at hj
    rw [List.getElem_set]
    split
    · refine ⟨?_⟩
      have hr := (h.each t htm).row
      show (w.setCell _ _).ownsRow B _ 1 t.sv (t.slots.set i v).length ((t.slots.set i v).map _)
      rw [List.length_set, List.map_set]
      rw [hsv] at hr ⊢
      exact (hr.stored i _).1
    · next e =>
      refine ⟨owns_fr (h.each _ (List.getElem_mem hj)).row f (fun b hb2 e2 => ?_)⟩
      subst e2
      rcases Nat.lt_or_gt_of_ne e with hlt | hlt
      · exact hp k j hk hj hlt b (by rw [← ht]; exact hgo) hb2
      · exact hp j k hj hk hlt b hb2 (by rw [← ht]; exact hgo)
  · intro u hu j hj
    rcases List.mem_or_eq_of_mem_set hu with hu | rfl
    · exact h.tbs u hu j hj
    · exact h.tbs t htm j hj
  · show (M.things.set k _).Pairwise _
    rw [apart_iff, set_sv _ _ hk _ hset, ← apart_iff]
    exact h.apart

theorem MdAt.swap {w : World} {B g cap : Nat} {M : Md} (h : MdAt w B M) (hv : M.tv = .slice (some ⟨g, 0, none⟩) M.things.length cap) (a b : Nat) (ha : a < M.things.length) (hb : b < M.things.length) (ta tb : Th) (hta : ta = M.things[a]'ha) (htb : tb = M.things[b]'hb) :
    MdAt (set5 (set5 w g a tb) g b ta) B { M with things := (M.things.set a tb).set b ta } := by
  have f : Fr (fun j => j = g) w (set5 (set5 w g a tb) g b ta) := set5_fr (set5_fr (Fr.refl (fun j => j = g) w) g a tb (fun _ => rfl)) g b ta (fun _ => rfl)
  have hgo : M.tv.ownBlock = some g := by rw [hv]; rfl
  have hr := h.row
  rw [hv] at hr
  have hmem : ∀ t, t ∈ (M.things.set a tb).set b ta → t ∈ M.things := by
    intro t ht
    rcases List.mem_or_eq_of_mem_set ht with ht | rfl
    · rcases List.mem_or_eq_of_mem_set ht with ht | rfl
      · exact ht
      · rw [htb]; exact List.getElem_mem hb
    · rw [hta]; exact List.getElem_mem ha
  refine ⟨?_, h.base, ?_, ?_, h.tb, ?_, ?_⟩
  · exact f.row h.kind (fun e => h.tb (by rw [hgo, ← e]))
  · show (set5 _ g b ta).ownsRow B _ 5 M.tv ((M.things.set a tb).set b ta).length _
    have r1 := row_put hr a ha tb
    have hl : (M.things.set a tb).length = M.things.length := List.length_set
    rw [← hl] at r1
    have r2 := row_put r1 b (by rw [hl]; exact hb) ta
    rw [hv, List.length_set, List.length_set]
    rw [hl] at r2
    exact r2
  · intro t ht
    exact ⟨owns_fr (h.each t (hmem t ht)).row f (fun j hj e => (h.tbs t (hmem t ht) j hj).2 (by rw [hgo, ← e]))⟩
  · intro t ht
    exact h.tbs t (hmem t ht)
  · show ((M.things.set a tb).set b ta).Pairwise _
    rw [hta, htb]
    refine (List.set_set_perm ha hb).symm.pairwise h.apart ?_
    intro x y hxy g hy hx
    exact hxy g hx hy

theorem MdAt.setMark {w : World} {B : Nat} {M : Md} (h : MdAt w B M) (v : Int) : MdAt (w.setCell ⟨M.b, 2, none⟩ (.int .i64 v)) B { M with mark := v } := by
  have f : Fr (fun j => j = M.b) w (w.setCell ⟨M.b, 2, none⟩ (.int .i64 v)) := (Fr.refl (fun j => j = M.b) w).setCell (a := ⟨M.b, 2, none⟩) (fun _ => rfl) _
  refine ⟨?_, h.base, owns_fr h.row f (fun g hg e => h.tb (by rw [hg, e])), fun t ht => ⟨owns_fr (h.each t ht).row f (fun g hg e => (h.tbs t ht g hg).1 e)⟩, h.tb, h.tbs, h.apart⟩
  refine (h.kind.set 2 _).congr fun j hj => ?_
  match j, hj with
  | 0, _ => rfl
  | 1, _ => rfl
  | 2, _ => rfl
  | 3, _ => rfl
end Kiln
