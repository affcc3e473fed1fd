/- Plain: what All tells, held against the model's things; the heap and its model together. -/
import Derived.Test.YtedechalmmolnaaDoorMdH
namespace Kiln
open Go Go.RowKit Go.Proofs

theorem Rel.there_iff {ts : List Th} {l : List Ob} (h : Rel ts l) {i : Nat} {t : Th} (ht : ts[i]? = some t) : t.there = true ↔ ∃ o, o ∈ l ∧ o.oop = i + 1 := by
  constructor
  · intro hu
    obtain ⟨o, a, b, _⟩ := h.fwd i t ht hu
    exact ⟨o, a, b⟩
  · rintro ⟨o, a, b⟩
    obtain ⟨j, u, e, hj, hu⟩ := h.bwd o a
    obtain rfl : j = i := by omega
    rw [ht] at hj
    rw [Option.some.inj hj]; exact hu
theorem allK_split (H : Hc) (k : Nat) : ∀ j, ∃ r, allK H (k + j) = allK H k ++ r
  | 0 => ⟨[], by simp⟩
  | j + 1 => by
    obtain ⟨r, e⟩ := allK_split H k j
    have es : allK H (k + (j + 1)) = if 0 ≤ H.table (k + j) then allK H (k + j) ++ [((k + j : Nat) : Int)] else allK H (k + j) := rfl
    rw [es]
    split
    · exact ⟨r ++ [((k + j : Nat) : Int)], by rw [e, List.append_assoc]⟩
    · exact ⟨r, e⟩
theorem allK_there {H : Hc} {ts : List Th} {l : List Ob} (hb : Body H l) (h : Rel ts l) (hT : ts.length + 1 ≤ H.T) : ∀ i, i ≤ ts.length → (allK H (i + 1)).length = thereK ts i
  | 0, _ => by
    have h0 : ¬ 0 ≤ H.table 0 := by
      intro hh
      obtain ⟨o, ho, e⟩ := (hb.table_nn (by omega)).1 hh
      have := (hb.each o ho).o1
      omega
    show (if 0 ≤ H.table 0 then allK H 0 ++ [((0 : Nat) : Int)] else allK H 0).length = _
    rw [if_neg h0]; rfl
  | i + 1, hi => by
    have ih := allK_there hb h hT i (by omega)
    have hk : i < ts.length := by omega
    rw [thereK_succ ts i hk, ← ih]
    have hiff := h.there_iff (List.getElem?_eq_getElem hk)
    have htab := hb.table_nn (i := i + 1) (by omega)
    show (if 0 ≤ H.table (i + 1) then allK H (i + 1) ++ [((i + 1 : Nat) : Int)] else allK H (i + 1)).length = _
    by_cases ht : (ts[i]'hk).there = true
    · rw [if_pos (htab.2 (hiff.1 ht)), if_pos ht, List.length_append]; rfl
    · rw [if_neg (fun hh => ht (hiff.2 (htab.1 hh))), if_neg ht]; rfl
theorem told_at {H : Hc} {ts : List Th} {l : List Ob} (hb : Body H l) (h : Rel ts l) (hT : ts.length + 1 ≤ H.T) {i : Nat} (hi : i < ts.length) (ht : (ts[i]'hi).there = true) :
    thereK ts i < (allK H H.T).length ∧ (allK H H.T).getD (thereK ts i) 0 = (i : Int) + 1 := by
  have e1 := allK_there hb h hT i (by omega)
  have e2 := allK_there hb h hT (i + 1) (by omega)
  have h0 : 0 ≤ H.table (i + 1) := (hb.table_nn (by omega)).2 ((h.there_iff (List.getElem?_eq_getElem hi)).1 ht)
  have e3 : allK H (i + 1 + 1) = allK H (i + 1) ++ [((i + 1 : Nat) : Int)] := by
    conv => lhs; unfold allK
    rw [if_pos h0]
  obtain ⟨r, er⟩ := allK_split H (i + 1 + 1) (H.T - (i + 1 + 1))
  rw [show i + 1 + 1 + (H.T - (i + 1 + 1)) = H.T by omega, e3] at er
  rw [er, ← e1]
  refine ⟨by simp, ?_⟩
  rw [List.getD_eq_getElem?_getD, List.append_assoc, List.getElem?_append_right (Nat.le_refl _)]
  simp
theorem told_len {H : Hc} {ts : List Th} {l : List Ob} (hb : Body H l) (h : Rel ts l) : (allK H H.T).length = thereK ts ts.length := by
  rw [hb.count, h.there hb.nodup]

/-- a heap, and a model that says what it holds; b: what the turns and births stay within -/
structure HM (B : Nat) (H : Hc) (M : Md) (os : List Ob) (b : Int) (w : World) : Prop where
  hA : HAt w H
  sim : Sim H os
  nums : Nums H b
  md : MdAt w B M
  hB : B ≤ w.heap.size
  ok : MdOk M
  rel : Rel M.things os
  W : M.W = H.W
  O : M.O + 1 = H.T
  mark : M.mark = H.mark
  len : M.things.length ≤ M.O
  apart : ∀ k, H.own k → ¬ M.own k
  kB : 0 < B

/-- what a step leaves -/
structure HMs (H : Hc) (M : Md) (w : World) (H' : Hc) (M' : Md) (w' : World) : Prop where
  fr : Fr (fun k => H.own k ∨ M.own k) w w'
  own : H'.own = H.own
  b : H'.b = H.b
  mb : M'.b = M.b
  W : H'.W = H.W
  T : H'.T = H.T
  mown : ∀ k, M'.own k → M.own k ∨ w.heap.size ≤ k

theorem HM.other {B : Nat} {H : Hc} {M : Md} {os : List Ob} {b : Int} {w w' : World} {S : Nat → Prop} (h : HM B H M os b w) (f : Fr S w w') (h1 : ∀ k, H.own k → ¬ S k) (h2 : ∀ k, M.own k → ¬ S k) (h0 : ¬ S 0) : HM B H M os b w' :=
  ⟨h.hA.fr f h1 h0, h.sim, h.nums, h.md.fr f h2, Nat.le_trans h.hB f.size, h.ok, h.rel, h.W, h.O, h.mark, h.len, h.apart, h.kB⟩
theorem HM.mono {B : Nat} {H : Hc} {M : Md} {os : List Ob} {b b' : Int} {w : World} (h : HM B H M os b w) (hb : b ≤ b') : HM B H M os b' w :=
  ⟨h.hA, h.sim, h.nums.mono hb, h.md, h.hB, h.ok, h.rel, h.W, h.O, h.mark, h.len, h.apart, h.kB⟩
theorem HM.mdlt {B : Nat} {H : Hc} {M : Md} {os : List Ob} {b : Int} {w : World} (h : HM B H M os b w) {k : Nat} (hk : M.own k) : B ≤ k ∧ k < w.heap.size := by
  rcases hk with rfl | hk | ⟨t, ht, hk⟩
  · exact ⟨h.md.base, h.md.kind.lt⟩
  · exact h.md.row.lt k hk
  · exact (h.md.each t ht).row.lt k hk
theorem HM.kq {B : Nat} {H : Hc} {M : Md} {os : List Ob} {b : Int} {w : World} (h : HM B H M os b w) : ¬ M.own 0 := fun hk => by
  have := (h.mdlt hk).1
  have := h.kB
  omega
theorem HM.tlen {B : Nat} {H : Hc} {M : Md} {os : List Ob} {b : Int} {w : World} (h : HM B H M os b w) : M.things.length + 1 ≤ H.T := by
  have := h.len; have := h.O; omega
end Kiln
