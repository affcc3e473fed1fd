/- Walks: Kind of kilnref1, fits of kilnlaw2. -/
import Derived.Test.YtedechalmmolnaaDoorMdC
namespace Kiln
open Go Go.RowKit Go.Proofs

theorem tmod_if (n k : Int) : n.tmod k = if 0 ≤ n then n % k else -((-n) % k) := by
  by_cases h : 0 ≤ n
  · rw [if_pos h, Int.tmod_eq_emod_of_nonneg h]
  · rw [if_neg h]
    have : n.tmod k = -((-n).tmod k) := by rw [Int.neg_tmod, Int.neg_neg]
    rw [this, Int.tmod_eq_emod_of_nonneg (by omega)]

set_option maxHeartbeats 1000000 in
theorem kind1_calls (n : Int) (w : World) :
    Calls Tryd.prog 89 #[.int .i64 n] w fun e w' => e = .returned (.int .i64 (kindOf n)) ∧ w = w' := by
  obtain ⟨a, ha⟩ : ∃ a, a = n.tmod 2 := ⟨_, rfl⟩
  obtain ⟨b, hb⟩ : ∃ b, b = n.tmod 4 := ⟨_, rfl⟩
  have h2 := tmod_if n 2
  have h4 := tmod_if n 4
  rw [← ha] at h2
  rw [← hb] at h4
  go_enter Tryd.func89, Tryd.ntmps89
  go_wp2
  all_goals go_ret
  all_goals refine ⟨?_, rfl⟩
  all_goals refine ret_i ?_
  all_goals unfold kindOf
  all_goals (try simp only [Bool.not_eq_true', decide_eq_false_iff_not, Bool.not_eq_false', decide_eq_true_eq, beq_iff_eq, bne_iff_ne, bne_eq_false_iff_eq] at *)
  all_goals (repeat' split at h2)
  all_goals (repeat' split at h4)
  all_goals (repeat' split)
  all_goals omega

theorem fits_calls (x f : Int) (w : World) (hf : f = 0 ∨ f = 1) :
    Calls Tryd.prog 101 #[.int .i64 x, .int .i64 f] w fun e w' => e = .returned (.bool (mayB x f)) ∧ w = w' := by
  have g := kind1_calls x w
  rcases hf with rfl | rfl
  · have e : mayB x 0 = !(kindOf x == 0) := by
      unfold mayB
      rw [if_neg (by omega)]
      by_cases h : kindOf x = 0 <;> simp [h]
    rw [e]
    obtain ⟨k, hk⟩ : ∃ k, k = kindOf x := ⟨_, rfl⟩
    rw [← hk] at g ⊢
    clear hk e
    by_cases h : k = 0
    · subst h
      go_enter Tryd.func101, Tryd.ntmps101
      go_wp2_with (go_at_call 89; refine g.mono ?_; rintro e w' ⟨rfl, rfl⟩)
      go_ret
      exact ⟨rfl, rfl⟩
    · have hb : (k == 0) = false := by rw [beq_eq_false_iff_ne]; exact h
      rw [hb]
      go_enter Tryd.func101, Tryd.ntmps101
      go_wp2_with (go_at_call 89; refine g.mono ?_; rintro e w' ⟨rfl, rfl⟩)
      go_ret
      exact ⟨rfl, rfl⟩
  · have e : mayB x 1 = decide (0 ≤ x ∧ x ≤ 255) := by unfold mayB; rw [if_pos rfl]
    rw [e]
    clear g e
    by_cases h0 : 0 ≤ x
    · by_cases h1 : x ≤ 255
      · have h2 : x < 256 := by omega
        rw [decide_eq_true ⟨h0, h1⟩]
        go_enter Tryd.func101, Tryd.ntmps101
        go_wp2_with fail
        go_ret
        exact ⟨rfl, rfl⟩
      · have h2 : ¬ x < 256 := by omega
        rw [decide_eq_false (fun h => h1 h.2)]
        go_enter Tryd.func101, Tryd.ntmps101
        go_wp2_with fail
        go_ret
        exact ⟨rfl, rfl⟩
    · rw [decide_eq_false (fun h => h0 h.1)]
      go_enter Tryd.func101, Tryd.ntmps101
      go_wp2_with fail
      go_ret
      exact ⟨rfl, rfl⟩
end Kiln
