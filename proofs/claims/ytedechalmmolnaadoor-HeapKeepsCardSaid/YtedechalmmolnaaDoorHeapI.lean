/- Walks: All, byPlace of package heap. -/
import Derived.Test.YtedechalmmolnaaDoorHeapH
import Derived.Test.YtedechalmmolnaaDoorShelf
namespace Kiln
open Go Go.RowKit Go.Proofs

/-- of the first k oops those that are there, rising -/
def allK (H : Hc) : Nat → List Int
  | 0 => []
  | k + 1 => if 0 ≤ H.table k then allK H k ++ [(k : Int)] else allK H k

theorem allK_le (H : Hc) (k j : Nat) : (allK H k).length ≤ (allK H (k + j)).length := by
  induction j with
  | zero => exact Nat.le_refl _
  | succ j ih =>
    have : (allK H (k + j)).length ≤ (allK H (k + j + 1)).length := by
      conv => rhs; unfold allK
      split <;> simp
    exact Nat.le_trans ih this
theorem allK_lt (H : Hc) (k T : Nat) (h : k < T) (hk : 0 ≤ H.table k) : (allK H k).length < (allK H T).length := by
  have h1 : (allK H k).length < (allK H (k + 1)).length := by
    conv => rhs; unfold allK
    rw [if_pos hk]; simp
  obtain ⟨j, rfl⟩ : ∃ j, T = k + 1 + j := ⟨T - (k + 1), by omega⟩
  exact Nat.lt_of_lt_of_le h1 (allK_le H (k + 1) j)
theorem mem_allK (H : Hc) (k : Nat) (x : Int) : x ∈ allK H k ↔ 0 ≤ x ∧ x < k ∧ 0 ≤ H.table x.toNat := by
  induction k with
  | zero => simp [allK]; omega
  | succ k ih =>
    unfold allK
    split
    · rename_i hk
      rw [List.mem_append, ih, List.mem_singleton]
      constructor
      · rintro (h | rfl)
        · exact ⟨h.1, by omega, h.2.2⟩
        · exact ⟨by omega, by omega, by simpa using hk⟩
      · rintro ⟨h1, h2, h3⟩
        by_cases e : x = k
        · exact .inr e
        · exact .inl ⟨h1, by omega, h3⟩
    · rename_i hk
      rw [ih]
      constructor
      · rintro h; exact ⟨h.1, by omega, h.2.2⟩
      · rintro ⟨h1, h2, h3⟩
        refine ⟨h1, ?_, h3⟩
        by_cases e : x = k
        · subst e; simp at h3; omega
        · omega

theorem allK_len (H : Hc) (k : Nat) : (allK H k).length ≤ k := by
  induction k with
  | zero => exact Nat.le_refl _
  | succ k ih => unfold allK; split <;> (try rw [List.length_append, List.length_singleton]) <;> omega

set_option maxRecDepth 100000 in
set_option maxHeartbeats 400000 in
theorem all_calls (H : Hc) (w : World) (h : HAt w H) (hc : H.count = (allK H H.T).length) :
    Calls Tryd.prog 53 #[H.ptr] w fun e w' => e = .returned (.slice (some ⟨w.heap.size, 0, none⟩) (allK H H.T).length (allK H H.T).length) ∧
      w'.ownsRow w.heap.size 3 1 (.slice (some ⟨w.heap.size, 0, none⟩) (allK H H.T).length (allK H H.T).length) (allK H H.T).length ((allK H H.T).map (Value.int .i64)) ∧ Fr (fun _ => False) w w' := by
  have g := gone_calls H w h
  have c1 := h.c1
  have c3 := h.c3
  have hT := h.T_le
  obtain ⟨C, hC⟩ : ∃ C, C = (allK H H.T).length := ⟨_, rfl⟩
  rw [hc, ← hC] at c3
  have hCT : C ≤ 65537 := by have := allK_len H H.T; omega
  rw [← hC]
  have HC := Lib.hid hC
  clear hC hc
  obtain ⟨i0, hi, hz0, hz1, hz2⟩ := info_parts Tryd.infoInt
  go_enter Tryd.func53, Tryd.ntmps53
  go_wp2_with (first | (go_at_call 94; refine g.mono ?_; rintro e w' ⟨rfl, rfl⟩) | (at_make; go_must (refine wpList_make_own _ rfl (.const (.int .i64 0)) (.tmp 11) 41 rfl w.heap.size 3 i0 (.int .i64 0) 1 Tryd.underlying41 hi hz0 hz1 .i64 .i64 C C rfl rfl rfl (by rw [hz2]; omega) (by unfold maxLen; omega) (Nat.le_refl _) ?_); intro w1 hown hgrow; have F1 := (Fr.refl (fun _ => False) w).grown hgrow (fun k hk => by cases hk); have hA1 := h.fr F1 (fun _ _ => id) id; have c1' := hA1.c1))
  go_loopw [3, 18] (fun v x wr => ∃ k : Nat, k ≤ H.T ∧ x = .int .i64 k ∧ v = .slice (some ⟨w.heap.size, 0, none⟩) (allK H k).length C ∧ wr.ownsRow w.heap.size 3 1 v (allK H k).length ((allK H k).map (Value.int .i64)) ∧ HAt wr H ∧ Fr (fun _ => False) w wr) (fun _ x _ => H.T - (RowKit.intOf x).toNat)
  case atStart => exact ⟨0, Nat.zero_le _, rfl, rfl, hown, hA1, F1⟩
  case round =>
    obtain ⟨k, hk, rfl, rfl, hown2, hA2, F2⟩ := hrel
    by_cases hkT : k < H.T
    · have ck := hA2.ht.cell (i := k) hkT
      by_cases hlk : 0 ≤ H.table k
      · have hlt := allK_lt H k H.T hkT hlk
        rw [← HC.out] at hlt
        have e : allK H (k + 1) = allK H k ++ [(k : Int)] := by conv => lhs; unfold allK; rw [if_pos hlk]
        have E := Lib.hid e
        obtain ⟨L, hL⟩ : ∃ L, L = (allK H k).length := ⟨_, rfl⟩
        have HL := Lib.hid hL
        rw [← hL] at hown2 hlt
        obtain ⟨X, hX⟩ : ∃ X, X = (allK H k).map (Value.int .i64) := ⟨_, rfl⟩
        rw [← hX] at hown2
        have HX := Lib.hid hX
        clear e hX
        rw [← hL]
        clear hL
        go_wp2_with (at_builtin; go_must (refine wpList_append_fits _ rfl (.tmp 25) (.tmp 27) 41 rfl w.heap.size 3 i0 1 Tryd.underlying41 hi hz1 w.heap.size L C X rfl (hown2.alloc _) ⟨wr.heap.size, 0, none⟩ 1 1 [.int .i64 k] rfl rfl (cell_one_new _ _ _) (by intro u hu; simp at hu; subst hu; rfl) (by omega) ?_); intro w3 hown3 hgrow3)
        have F3 := (F2.alloc (.cells #[.int .i64 (k : Int)] 3)).grown hgrow3 (fun j hj hlt => by cases hj; exact absurd hlt (Nat.lt_irrefl _))
        go_roundw
        case rel =>
          refine ⟨k + 1, by omega, by go_num, ?_, ?_, h.fr F3 (fun _ _ => id) id, F3⟩
          · rw [E.out, List.length_append, ← HL.out]; rfl
          · rw [E.out, List.length_append, List.map_append, ← HL.out, ← HX.out]; exact hown3
        case measure => simp [RowKit.intOf]; omega
      · have e : allK H (k + 1) = allK H k := by conv => lhs; unfold allK; rw [if_neg hlk]
        have E := Lib.hid e
        clear e
        go_wp2_with fail
        go_roundw
        case rel => exact ⟨k + 1, by omega, by go_num, by rw [E.out], by rw [E.out]; exact hown2, hA2, F2⟩
        case measure => simp [RowKit.intOf]; omega
    · obtain rfl : k = H.T := by omega
      go_wp2_with fail
      go_ret
      refine ⟨?_, ?_, F2⟩
      · rw [HC.out]; rfl
      · rw [HC.out] at hown2 ⊢; exact hown2
end Kiln
