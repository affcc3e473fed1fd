/- Walks: Alloc of package heap, where it refuses. -/
import Derived.Test.YtedechalmmolnaaDoorHeapD
namespace Kiln
open Go Go.RowKit Go.Proofs

theorem alloc_arg (H : Hc) (w : World) (h : HAt w H) (c n f : Int) (hb : mayB c 0 = false ∨ ¬ (f = 0 ∨ f = 1) ∨ n < 0) :
    Calls Tryd.prog 30 #[H.ptr, .int .i64 c, .int .i64 n, .int .i64 f] w fun e w' => e = .returned (.tuple #[.int .i64 0, .int .i64 1]) ∧ w = w' := by
  have g := gone_calls H w h
  have g2 := isWord_calls c w h.kd
  clear h
  by_cases hc : mayB c 0 = false
  · rw [hc] at g2
    clear hb hc
    go_enter Tryd.func30, Tryd.ntmps30
    go_wp2_with (first | (go_at_call 94; refine g.mono ?_; rintro e w' ⟨rfl, rfl⟩) | (go_at_call 82; refine g2.mono ?_; rintro e w' ⟨rfl, rfl⟩))
    go_ret2
    exact ⟨rfl, rfl⟩
  · have hc' : mayB c 0 = true := by simpa using hc
    rw [hc'] at g2
    by_cases hf : f = 0
    · subst hf
      have hn : n < 0 := by
        rcases hb with hb | hb | hb
        · exact absurd hb hc
        · exact absurd (Or.inl rfl) hb
        · exact hb
      clear hb hc hc'
      go_enter Tryd.func30, Tryd.ntmps30
      go_wp2_with (first | (go_at_call 94; refine g.mono ?_; rintro e w' ⟨rfl, rfl⟩) | (go_at_call 82; refine g2.mono ?_; rintro e w' ⟨rfl, rfl⟩))
      go_ret2
      exact ⟨rfl, rfl⟩
    · by_cases hf1 : f = 1
      · subst hf1
        have hn : n < 0 := by
          rcases hb with hb | hb | hb
          · exact absurd hb hc
          · exact absurd (Or.inr rfl) hb
          · exact hb
        clear hb hc hc'
        go_enter Tryd.func30, Tryd.ntmps30
        go_wp2_with (first | (go_at_call 94; refine g.mono ?_; rintro e w' ⟨rfl, rfl⟩) | (go_at_call 82; refine g2.mono ?_; rintro e w' ⟨rfl, rfl⟩))
        go_ret2
        exact ⟨rfl, rfl⟩
      · have b0 : (f == 0) = false := by simp [hf]
        have b1 : (f == 1) = false := by simp [hf1]
        have b2 : (f != 0) = true := by simp [hf]
        have b3 : (f != 1) = true := by simp [hf1]
        clear hb hc hc' hf hf1
        go_enter Tryd.func30, Tryd.ntmps30
        go_wp2_with (first | (go_at_call 94; refine g.mono ?_; rintro e w' ⟨rfl, rfl⟩) | (go_at_call 82; refine g2.mono ?_; rintro e w' ⟨rfl, rfl⟩))
        go_ret2
        exact ⟨rfl, rfl⟩

theorem alloc_size (H : Hc) (w : World) (h : HAt w H) (c n f : Int) (hc : mayB c 0 = true) (hf : f = 0 ∨ f = 1) (hn : 8192 < n) :
    Calls Tryd.prog 30 #[H.ptr, .int .i64 c, .int .i64 n, .int .i64 f] w fun e w' => e = .returned (.tuple #[.int .i64 0, .int .i64 22]) ∧ w = w' := by
  have g := gone_calls H w h
  have g2 := isWord_calls c w h.kd
  rw [hc] at g2
  clear h hc
  rcases hf with rfl | rfl
  all_goals
    go_enter Tryd.func30, Tryd.ntmps30
    go_wp2_with (first | (go_at_call 94; refine g.mono ?_; rintro e w' ⟨rfl, rfl⟩) | (go_at_call 82; refine g2.mono ?_; rintro e w' ⟨rfl, rfl⟩))
    go_ret2
    exact ⟨rfl, rfl⟩

theorem alloc_full (H : Hc) (w : World) (h : HAt w H) (c n f : Int) (hc : mayB c 0 = true) (hf : f = 0 ∨ f = 1) (hn0 : 0 ≤ n) (hn : n ≤ 8192) (_k0 : 0 ≤ H.count) (_k1 : H.count ≤ H.T) (f0 : 0 ≤ H.fin) (f1 : H.fin ≤ H.W)
    (hx : (H.T : Int) - 1 ≤ H.count ∨ (H.W : Int) - H.fin < obLen n f) :
    Calls Tryd.prog 30 #[H.ptr, .int .i64 c, .int .i64 n, .int .i64 f] w fun e w' => e = .returned (.tuple #[.int .i64 0, .int .i64 23]) ∧ Drew w w' := by
  have g := gone_calls H w h
  have g2 := isWord_calls c w h.kd
  have g3 := fun w => length_calls n f w hn0 (by omega)
  have hl := obLen_ge n f hn0
  have hl2 := obLen_le n f hn0
  rw [hc] at g2
  have c0 := h.c0
  have c1 := h.c1
  have c3 := h.c3
  have c4 := h.c4
  have hW := h.W_le
  have hT := h.T_le
  have hT1 := h.T_ge
  clear h hc
  by_cases hd : (H.T : Int) - 1 ≤ H.count
  · clear hx
    rcases hf with rfl | rfl
    all_goals
      go_enter Tryd.func30, Tryd.ntmps30
      go_wp2_with (first | (go_at_call 94; refine g.mono ?_; rintro e w' ⟨rfl, rfl⟩) | (go_at_call 82; refine g2.mono ?_; rintro e w' ⟨rfl, rfl⟩))
      go_quiet (fail)
      go_wp2
      go_ret2
      exact ⟨rfl, _, rfl⟩
  · have hx' : (H.W : Int) - H.fin < obLen n f := by omega
    have hd' : decide ((H.T : Int) - 1 ≤ H.count) = false := by simpa using hd
    clear hx hd
    rcases hf with rfl | rfl
    all_goals
      go_enter Tryd.func30, Tryd.ntmps30
      go_wp2_with (first | (go_at_call 94; refine g.mono ?_; rintro e w' ⟨rfl, rfl⟩) | (go_at_call 82; refine g2.mono ?_; rintro e w' ⟨rfl, rfl⟩))
      go_quiet ((go_at_call 86; refine Calls.quiet_of_same ((g3 _).mono fun e w' ⟨he, hw⟩ => ⟨he, hw.symm⟩)))
      go_wp2
      go_ret2
      exact ⟨rfl, _, rfl⟩
end Kiln
