/- Walks: the functions of package heap (and word.Kind) that only read. -/
import Derived.Test.YtedechalmmolnaaDoorProg
import Derived.Test.YtedechalmmolnaaDoorHc
import Derived.Test.YtedechalmmolnaaDoorBits
namespace Kiln
open Go Go.RowKit Go.Proofs

theorem in_calls (n : Int) (w : World) :
    Calls Tryd.prog 154 #[.int .i64 n] w fun e w' => e = .returned (.bool (decide (-1073741824 ≤ n ∧ n ≤ 1073741823))) ∧ w = w' := by
  go_enter Tryd.func154, Tryd.ntmps154
  go_wp2
  all_goals go_ret
  all_goals refine ⟨?_, rfl⟩
  · have h : -1073741824 ≤ n := by assumption
    simp [h]
  · have h : n < -1073741824 := by assumption
    have h' : ¬ (-1073741824 ≤ n) := by omega
    simp [h']

theorem kind_calls (n : Int) (w : World) (h : KindsAt w) :
    Calls Tryd.prog 137 #[.int .i64 n] w fun e w' => e = .returned (.int .i64 (kindOf n)) ∧ w = w' := by
  have a3 := i64_and3 n
  have g := in_calls (n / 2) w
  have t0 := h 0 (by omega)
  have t1 := h 1 (by omega)
  have t2 := h 2 (by omega)
  have t3 := h 3 (by omega)
  simp only [kindTab] at t0 t1 t2 t3
  clear h
  rcases (show n % 4 = 0 ∨ n % 4 = 1 ∨ n % 4 = 2 ∨ n % 4 = 3 by omega) with h | h | h | h
  all_goals
    rw [h] at a3
    go_enter Tryd.func137, Tryd.ntmps137
    go_wp2_with (go_at_call 154; refine g.mono ?_; rintro e w' ⟨rfl, rfl⟩)
    all_goals go_ret
    all_goals refine ⟨?_, rfl⟩
    all_goals refine ret_i ?_
    all_goals unfold kindOf
    all_goals (try simp only [Bool.not_eq_true', decide_eq_false_iff_not, Bool.not_eq_false', decide_eq_true_eq] at *)
    all_goals (repeat' split)
    all_goals omega

theorem length_calls (n f : Int) (w : World) (h0 : 0 ≤ n) (h1 : n ≤ 9223372036854775000) :
    Calls Tryd.prog 86 #[.int .i64 n, .int .i64 f] w fun e w' => e = .returned (.int .i64 (obLen n f)) ∧ w = w' := by
  go_enter Tryd.func86, Tryd.ntmps86
  go_wp2
  all_goals go_ret
  all_goals refine ⟨ret_i ?_, rfl⟩
  all_goals unfold obLen
  all_goals split
  all_goals simp_all
  all_goals omega

theorem within_calls (n m : Int) (w : World) :
    Calls Tryd.prog 81 #[.int .i64 n, .int .i64 m] w fun e w' => e = .returned (.bool (decide (0 ≤ n ∧ n ≤ m))) ∧ w = w' := by
  go_enter Tryd.func81, Tryd.ntmps81
  go_wp2
  all_goals go_ret
  all_goals refine ⟨?_, rfl⟩
  · have h : 0 ≤ n := by assumption
    simp [h]
  · have h : n < 0 := by assumption
    have h' : ¬ (0 ≤ n) := by omega
    simp [h']

theorem isWord_calls (n : Int) (w : World) (h : KindsAt w) :
    Calls Tryd.prog 82 #[.int .i64 n] w fun e w' => e = .returned (.bool (mayB n 0)) ∧ w = w' := by
  have g := kind_calls n w h
  clear h
  go_enter Tryd.func82, Tryd.ntmps82
  go_wp2_with (go_at_call 137; refine g.mono ?_; rintro e w' ⟨rfl, rfl⟩)
  all_goals go_ret
  all_goals refine ⟨ret_b ?_, rfl⟩
  all_goals (rw [Bool.eq_iff_iff]; simp [mayB, bne])

theorem may_calls (n f : Int) (w : World) (h : KindsAt w) :
    Calls Tryd.prog 85 #[.int .i64 n, .int .i64 f] w fun e w' => e = .returned (.bool (mayB n f)) ∧ w = w' := by
  have g := isWord_calls n w h
  clear h
  by_cases hf : f = 1
  · subst hf
    go_enter Tryd.func85, Tryd.ntmps85
    go_wp2_with (go_at_call 82; refine g.mono ?_; rintro e w' ⟨rfl, rfl⟩)
    all_goals go_ret
    all_goals refine ⟨ret_b ?_, rfl⟩
    · have h : 0 ≤ n := by assumption
      simp [mayB, h]
    · have h : n < 0 := by assumption
      have h' : ¬ (0 ≤ n) := by omega
      simp [mayB, h']
  · have hb : (f == 1) = false := by simp [hf]
    have hm : mayB n f = mayB n 0 := by simp [mayB, hf]
    rw [hm]
    clear hf hm
    go_enter Tryd.func85, Tryd.ntmps85
    go_wp2_with (go_at_call 82; refine g.mono ?_; rintro e w' ⟨rfl, rfl⟩)
    go_ret
    exact ⟨rfl, rfl⟩

theorem gone_calls (H : Hc) (w : World) (h : HAt w H) :
    Calls Tryd.prog 94 #[H.ptr] w fun e w' => e = .returned (.bool false) ∧ w = w' := by
  have c1 := h.c1
  have e1 := fun w => Lib.run_eql_slice_nil (P := Tryd.prog) (w := w) 41
  clear h
  go_enter Tryd.func94, Tryd.ntmps94
  go_wp2
  go_ret
  exact ⟨rfl, rfl⟩

theorem gone_nil (w : World) :
    Calls Tryd.prog 94 #[.pointer none] w fun e w' => e = .returned (.bool true) ∧ w = w' := by
  go_enter Tryd.func94, Tryd.ntmps94
  go_wp2
  go_ret
  exact ⟨rfl, rfl⟩

/-- is there an object of this oop? -/
def live (H : Hc) (oop : Int) : Prop := 1 ≤ oop ∧ oop < H.T ∧ 0 ≤ H.table oop.toNat
instance (H : Hc) (oop : Int) : Decidable (live H oop) := by unfold live; infer_instance

theorem find_ok (H : Hc) (w : World) (h : HAt w H) (oop : Int) (p : Nat) (h1 : 1 ≤ oop) (h2 : oop < H.T) (h3 : H.table oop.toNat = p) :
    Calls Tryd.prog 122 #[H.ptr, .int .i64 oop] w fun e w' => e = .returned (.tuple #[.int .i64 p, .int .i64 0]) ∧ w = w' := by
  have c1 := h.c1
  have g := gone_calls H w h
  have hT := h.T_le
  have ct := h.ht.cell (i := oop.toNat) (by omega)
  rw [h3] at ct
  clear h h3
  go_enter Tryd.func122, Tryd.ntmps122
  go_wp2_with (go_at_call 94; refine g.mono ?_; rintro e w' ⟨rfl, rfl⟩)
  go_ret2
  exact ⟨rfl, rfl⟩

theorem find_no (H : Hc) (w : World) (h : HAt w H) (oop : Int) (h3 : ¬ live H oop) :
    Calls Tryd.prog 122 #[H.ptr, .int .i64 oop] w fun e w' => e = .returned (.tuple #[.int .i64 0, .int .i64 20]) ∧ w = w' := by
  unfold live at h3
  have c1 := h.c1
  have g := gone_calls H w h
  have hT := h.T_le
  have ct : 1 ≤ oop → oop < H.T → _ := fun h1 h2 => h.ht.cell (i := oop.toNat) (by omega)
  clear h
  go_enter Tryd.func122, Tryd.ntmps122
  go_wp2_with (go_at_call 94; refine g.mono ?_; rintro e w' ⟨rfl, rfl⟩)
  all_goals go_ret2
  all_goals exact ⟨rfl, rfl⟩

theorem find_nil (w : World) (oop : Int) :
    Calls Tryd.prog 122 #[.pointer none, .int .i64 oop] w fun e w' => e = .returned (.tuple #[.int .i64 0, .int .i64 2]) ∧ w = w' := by
  have g := gone_nil w
  go_enter Tryd.func122, Tryd.ntmps122
  go_wp2_with (go_at_call 94; refine g.mono ?_; rintro e w' ⟨rfl, rfl⟩)
  go_ret2
  exact ⟨rfl, rfl⟩

/-- the header of an object at place p: n slots of format f -/
structure Head (H : Hc) (p : Nat) (n f : Int) : Prop where
  n0 : 0 ≤ n
  n1 : n ≤ 8192
  hf : f = 0 ∨ f = 1
  hv : H.words (p + 1) = 2 * n + f
  hp : (p : Int) + obLen n f ≤ H.W

theorem shape_calls (H : Hc) (w : World) (h : HAt w H) (p : Nat) (n f : Int) (hd : Head H p n f) :
    Calls Tryd.prog 96 #[H.ptr, .int .i64 p] w fun e w' => e = .returned (.tuple #[.int .i64 n, .int .i64 f]) ∧ w = w' := by
  have c0 := h.c0
  have hW := h.W_le
  obtain ⟨hn, hn', hf, hv, hp⟩ := hd
  have := obLen_ge n f hn
  have hp1 : p + 1 < H.W := by omega
  have cw := h.hw.cell (i := p + 1) (by omega)
  clear h hp this
  rw [hv] at cw
  clear hv
  have a1 := i64_and1 (2 * n + f)
  go_enter Tryd.func96, Tryd.ntmps96
  go_wp2
  go_ret2
  refine ⟨ret_ii ?_ ?_, rfl⟩ <;> omega

theorem lengthAt_calls (H : Hc) (w : World) (h : HAt w H) (p : Nat) (n f : Int) (hd : Head H p n f) :
    Calls Tryd.prog 123 #[H.ptr, .int .i64 p] w fun e w' => e = .returned (.int .i64 (obLen n f)) ∧ w = w' := by
  have g := shape_calls H w h p n f hd
  have g2 := length_calls n f w hd.n0 (by have := hd.n1; omega)
  clear hd h
  go_enter Tryd.func123, Tryd.ntmps123
  go_wp2_with (first | (go_at_call 96; refine g.mono ?_; rintro e w' ⟨rfl, rfl⟩) | (go_at_call 86; refine g2.mono ?_; rintro e w' ⟨rfl, rfl⟩))
  go_ret
  exact ⟨rfl, rfl⟩
end Kiln
