/- The model's alloc: what becomes of the heap and its model together. -/
import Derived.Test.YtedechalmmolnaaDoorMdJ
namespace Kiln
open Go Go.RowKit Go.Proofs

/-- a step of the model: it finds the heap right, and both go on -/
def StepOk (B : Nat) (H : Hc) (M : Md) (b : Int) (w : World) (e : Ending) (w' : World) : Prop :=
  ∃ H' M' os', e = .returned (.bool true) ∧ HM B H' M' os' (b + 1) w' ∧ HMs H M w H' M' w'

theorem HM.stay {B : Nat} {H : Hc} {M : Md} {os : List Ob} {b : Int} {w w' : World} (h : HM B H M os b w) (f : Fr (fun _ => False) w w') : StepOk B H M b w (.returned (.bool true)) w' :=
  ⟨H, M, os, rfl, (h.other f (fun _ _ => id) (fun _ _ => id) id).mono (by omega), ⟨f.mono (fun _ _ => False.elim), rfl, rfl, rfl, rfl, rfl, fun _ hk => .inl hk⟩⟩

theorem HM.endW {B : Nat} {H : Hc} {M : Md} {os : List Ob} {b : Int} {w : World} (h : HM B H M os b w) : endK M.things M.things.length = endOf 0 os := h.rel.end h.sim.body.nodup h.sim.body.laid

theorem HM.allocd {B : Nat} {H : Hc} {M : Md} {os : List Ob} {b : Int} {w w1 w2 w3 : World} (h : HM B H M os b w) {k n : Nat} {c f : Int} {v tv : Value} (hlow : LowT M.things k) (hk : k + 1 < H.T) (hn : n ≤ 8192)
    (hA : HAt w1 (allocH H (k + 1) c n f)) (hS : Sim (allocH H (k + 1) c n f) (os ++ [newOb H os (k + 1) c n f])) (hf : f = 0 ∨ f = 1) (F1 : Fr H.own w w1) (F2 : Fr (fun j => j = M.b) w1 w2)
    (hmd : MdAt w3 B { M with mark := markN M.mark, things := if k = M.things.length then M.things ++ [madeT M c f n v] else M.things.set k (madeT M c f n v), tv := tv }) (F3 : Fr M.own w2 w3)
    (hv : ∀ j, v.ownBlock = some j → w2.heap.size ≤ j) (htv : ∀ j, tv.ownBlock = some j → M.tv.ownBlock = some j ∨ w2.heap.size ≤ j) : StepOk B H M b w (.returned (.bool true)) w3 := by
  have e : (if k = M.things.length then M.things ++ [madeT M c f n v] else M.things.set k (madeT M c f n v)) = addT M.things k (madeT M c f n v) := by
    unfold addT
    have := hlow.le
    by_cases hk2 : k = M.things.length
    · rw [if_pos hk2, if_pos (by omega)]
    · rw [if_neg hk2, if_neg (by omega)]
  rw [e] at hmd
  have fr : Fr (fun k => H.own k ∨ M.own k) w w3 := ((F1.mono (fun _ _ h => .inl h)).trans (F2.mono (fun _ _ h => .inr (.inl h)))).trans (F3.mono (fun _ _ h => .inr h))
  have hs2 : w.heap.size ≤ w2.heap.size := Nat.le_trans F1.size F2.size
  have mown : ∀ j, ({ M with mark := markN M.mark, things := addT M.things k (madeT M c f n v), tv := tv } : Md).own j → M.own j ∨ w.heap.size ≤ j := by
    rintro j (rfl | hj | ⟨t, ht, hj⟩)
    · exact .inl (.inl rfl)
    · rcases htv j hj with h1 | h1
      · exact .inl (.inr (.inl h1))
      · exact .inr (by omega)
    · rcases mem_addT ht with ht | rfl
      · exact .inl (.inr (.inr ⟨t, ht, hj⟩))
      · exact .inr (by have := hv j hj; omega)
  have hq := hA.hq
  have hO : (allocH H (k + 1) c n f).own = H.own := rfl
  have hT : (allocH H (k + 1) c n f).T = H.T := rfl
  have hWl := hA.W_le
  have hTl := h.hA.T_le
  have hend := h.endW
  have hroom := h.sim.room
  have hnums : Nums (allocH H (k + 1) c n f) (b + 1) := h.nums.alloc (by omega) _ _ _ _
  refine ⟨_, _, _, rfl, ⟨?_, hS, hnums, hmd, Nat.le_trans h.hB fr.size, ⟨?_, ?_, ?_⟩, ?_, h.W, h.O, ?_, ?_, ?_, h.kB⟩, ⟨fr, rfl, rfl, rfl, rfl, rfl, mown⟩⟩
  · exact (hA.fr F2 (fun j hj e => h.apart j hj (.inl e)) (fun e => h.kq (.inl e))).fr F3 (fun j hj => h.apart j hj) h.kq
  · have := addT_len M.things k (madeT M c f n v) hlow.le
    have := h.len
    have := h.O
    show (addT M.things k (madeT M c f n v)).length ≤ _
    have := h.ok.n
    omega
  · intro t ht
    rcases mem_addT ht with ht | rfl
    · exact h.ok.slots t ht
    · show (List.replicate n _).length ≤ _
      rw [List.length_replicate]; exact hn
  · intro t ht
    rcases mem_addT ht with ht | rfl
    · exact h.ok.place t ht
    · show endK M.things M.things.length ≤ _
      rw [hend]
      have : H.W ≤ 1048576 := h.hA.W_le
      omega
  · refine h.rel.alloc hlow _ _ rfl rfl ⟨rfl, rfl, ?_, ?_⟩
    · exact hend
    · show List.replicate n (if f = 1 then 0 else 4) = List.replicate n (if f = 0 then 4 else 0)
      rcases hf with rfl | rfl <;> rfl
  · show markN M.mark = markN H.mark
    rw [h.mark]
  · have := addT_len M.things k (madeT M c f n v) hlow.le
    have := h.len
    have := h.O
    show (addT M.things k (madeT M c f n v)).length ≤ M.O
    omega
  · intro j hj hm
    rcases mown j hm with h1 | h1
    · exact h.apart j hj h1
    · have := h.hA.lt (k := j) hj; omega
end Kiln
