/- Walks: Mark, SetClass, Put, Exchange of package heap. -/
import Derived.Test.YtedechalmmolnaaDoorHeapB
import Derived.Lib.Hide
namespace Kiln
open Go Go.RowKit Go.Proofs

theorem mark_ok (H : Hc) (w : World) (h : HAt w H) (k : Int) (h0 : 0 ≤ k) (h1 : k ≤ 1073741824) :
    Calls Tryd.prog 28 #[H.ptr, .int .i64 k] w fun e w' => e = .returned (.int .i64 0) ∧ HAt w' { H with mark := k } ∧ Fr H.own w w' := by
  have g := gone_calls H w h
  have g2 := within_calls k 1073741824 w
  have hd : decide (0 ≤ k ∧ k ≤ 1073741824) = true := by simp; omega
  rw [hd] at g2
  have c6 := h.c6
  have fz := h.fz 6
  clear hd
  go_enter Tryd.func28, Tryd.ntmps28
  go_wp2_with (first | (go_at_call 94; refine g.mono ?_; rintro e w' ⟨rfl, rfl⟩) | (go_at_call 81; refine g2.mono ?_; rintro e w' ⟨rfl, rfl⟩))
  go_ret
  exact ⟨rfl, h.setMark k, (Fr.refl _ _).setCell (fun _ => .inl rfl) _⟩

theorem mark_no (H : Hc) (w : World) (h : HAt w H) (k : Int) (hk : ¬ (0 ≤ k ∧ k ≤ 1073741824)) :
    Calls Tryd.prog 28 #[H.ptr, .int .i64 k] w fun e w' => e = .returned (.int .i64 1) ∧ w = w' := by
  have g := gone_calls H w h
  have g2 := within_calls k 1073741824 w
  have hd : decide (0 ≤ k ∧ k ≤ 1073741824) = false := by simp; omega
  rw [hd] at g2
  clear hd h hk
  go_enter Tryd.func28, Tryd.ntmps28
  go_wp2_with (first | (go_at_call 94; refine g.mono ?_; rintro e w' ⟨rfl, rfl⟩) | (go_at_call 81; refine g2.mono ?_; rintro e w' ⟨rfl, rfl⟩))
  go_ret
  exact ⟨rfl, rfl⟩

theorem setClass_no (H : Hc) (w : World) (h : HAt w H) (oop c : Int) (hl : ¬ live H oop) :
    Calls Tryd.prog 49 #[H.ptr, .int .i64 oop, .int .i64 c] w fun e w' => e = .returned (.int .i64 20) ∧ w = w' := by
  have g := find_no H w h oop hl
  clear h hl
  go_enter Tryd.func49, Tryd.ntmps49
  go_wp2_with (go_at_call 122; refine g.mono ?_; rintro e w' ⟨rfl, rfl⟩)
  go_ret
  exact ⟨rfl, rfl⟩

theorem setClass_word (H : Hc) (w : World) (h : HAt w H) (oop c : Int) (p : Nat) (n f : Int) (ho : Is H oop p n f) (hc : mayB c 0 = false) :
    Calls Tryd.prog 49 #[H.ptr, .int .i64 oop, .int .i64 c] w fun e w' => e = .returned (.int .i64 10) ∧ w = w' := by
  have g := find_ok H w h oop p ho.h1 ho.h2 ho.h3
  have g2 := isWord_calls c w h.kd
  rw [hc] at g2
  clear h ho hc
  go_enter Tryd.func49, Tryd.ntmps49
  go_wp2_with (first | (go_at_call 122; refine g.mono ?_; rintro e w' ⟨rfl, rfl⟩) | (go_at_call 82; refine g2.mono ?_; rintro e w' ⟨rfl, rfl⟩))
  go_ret
  exact ⟨rfl, rfl⟩

theorem setClass_ok (H : Hc) (w : World) (h : HAt w H) (oop c : Int) (p : Nat) (n f : Int) (ho : Is H oop p n f) (hc : mayB c 0 = true) :
    Calls Tryd.prog 49 #[H.ptr, .int .i64 oop, .int .i64 c] w fun e w' => e = .returned (.int .i64 0) ∧ HAt w' { H with words := upd H.words p c } ∧ Fr H.own w w' := by
  have g := find_ok H w h oop p ho.h1 ho.h2 ho.h3
  have g2 := isWord_calls c w h.kd
  rw [hc] at g2
  have c0 := h.c0
  have hW := h.W_le
  have hp := ho.hd.hp
  have hl := obLen_ge n f ho.hd.n0
  have hpW : p < H.W := by omega
  have cw := h.hw.cell (i := p) (by omega)
  have fz := h.hw.frozen p
  clear ho hp hl hc
  go_enter Tryd.func49, Tryd.ntmps49
  go_wp2_with (first | (go_at_call 122; refine g.mono ?_; rintro e w' ⟨rfl, rfl⟩) | (go_at_call 82; refine g2.mono ?_; rintro e w' ⟨rfl, rfl⟩))
  go_ret
  exact ⟨rfl, h.setWord p c, (Fr.refl _ _).setCell (fun _ => .inr (.inl rfl)) _⟩

theorem put_no (H : Hc) (w : World) (h : HAt w H) (oop i v : Int) (hl : ¬ live H oop) :
    Calls Tryd.prog 48 #[H.ptr, .int .i64 oop, .int .i64 i, .int .i64 v] w fun e w' => e = .returned (.int .i64 20) ∧ w = w' := by
  have g := slot_no H w h oop i hl
  clear h hl
  go_enter Tryd.func48, Tryd.ntmps48
  go_wp2_with (go_at_call 121; refine g.mono ?_; rintro e w' ⟨rfl, rfl⟩)
  go_ret
  exact ⟨rfl, rfl⟩

theorem put_out (H : Hc) (w : World) (h : HAt w H) (oop i v : Int) (p : Nat) (n f : Int) (ho : Is H oop p n f) (hi : ¬ (0 ≤ i ∧ i < n)) :
    Calls Tryd.prog 48 #[H.ptr, .int .i64 oop, .int .i64 i, .int .i64 v] w fun e w' => e = .returned (.int .i64 21) ∧ w = w' := by
  have g := slot_out H w h oop i p n f ho hi
  clear h ho hi
  go_enter Tryd.func48, Tryd.ntmps48
  go_wp2_with (go_at_call 121; refine g.mono ?_; rintro e w' ⟨rfl, rfl⟩)
  go_ret
  exact ⟨rfl, rfl⟩

theorem put_word (H : Hc) (w : World) (h : HAt w H) (oop : Int) (i : Nat) (v : Int) (p : Nat) (n f : Int) (ho : Is H oop p n f) (hi : (i : Int) < n) (hv : mayB v f = false) :
    Calls Tryd.prog 48 #[H.ptr, .int .i64 oop, .int .i64 i, .int .i64 v] w fun e w' => e = .returned (.int .i64 10) ∧ w = w' := by
  have g2 := may_calls v f w h.kd
  rw [hv] at g2
  clear hv
  rcases ho.hd.hf with rfl | rfl
  · have g := slot_words H w h oop i p n ho hi
    clear h ho
    go_enter Tryd.func48, Tryd.ntmps48
    go_wp2_with (first | (go_at_call 121; refine g.mono ?_; rintro e w' ⟨rfl, rfl⟩) | (go_at_call 85; refine g2.mono ?_; rintro e w' ⟨rfl, rfl⟩))
    go_ret
    exact ⟨rfl, rfl⟩
  · have g := slot_bytes H w h oop i p n ho hi
    clear h ho
    go_enter Tryd.func48, Tryd.ntmps48
    go_wp2_with (first | (go_at_call 121; refine g.mono ?_; rintro e w' ⟨rfl, rfl⟩) | (go_at_call 85; refine g2.mono ?_; rintro e w' ⟨rfl, rfl⟩))
    go_ret
    exact ⟨rfl, rfl⟩

theorem put_ok_words (H : Hc) (w : World) (h : HAt w H) (oop : Int) (i : Nat) (v : Int) (p : Nat) (n : Int) (ho : Is H oop p n 0) (hi : (i : Int) < n) (hv : mayB v 0 = true) :
    Calls Tryd.prog 48 #[H.ptr, .int .i64 oop, .int .i64 i, .int .i64 v] w fun e w' => e = .returned (.int .i64 0) ∧ HAt w' { H with words := upd H.words (p + 2 + i) v } ∧ Fr H.own w w' := by
  have g2 := may_calls v 0 w h.kd
  rw [hv] at g2
  clear hv
  have g := slot_words H w h oop i p n ho hi
  have c0 := h.c0
  have hW := h.W_le
  have hp := ho.hd.hp
  simp only [obLen, if_neg (show ¬ ((0 : Int) = 1) by decide)] at hp
  have cw := h.hw.cell (i := p + 2 + i) (by omega)
  have fz := h.hw.frozen (p + 2 + i)
  clear ho
  go_enter Tryd.func48, Tryd.ntmps48
  go_wp2_with (first | (go_at_call 121; refine g.mono ?_; rintro e w' ⟨rfl, rfl⟩) | (go_at_call 85; refine g2.mono ?_; rintro e w' ⟨rfl, rfl⟩))
  go_ret
  exact ⟨rfl, h.setWord _ v, (Fr.refl _ _).setCell (fun _ => .inr (.inl rfl)) _⟩

theorem put_ok_bytes (H : Hc) (w : World) (h : HAt w H) (oop : Int) (i : Nat) (v : Int) (p : Nat) (n : Int) (ho : Is H oop p n 1) (hi : (i : Int) < n) (hv : mayB v 1 = true)
    (hx : 0 ≤ H.words (p + 2 + i / 4)) (hx' : H.words (p + 2 + i / 4) < 4294967296) :
    Calls Tryd.prog 48 #[H.ptr, .int .i64 oop, .int .i64 i, .int .i64 v] w fun e w' =>
      e = .returned (.int .i64 0) ∧ HAt w' { H with words := upd H.words (p + 2 + i / 4) (setByte (H.words (p + 2 + i / 4)) (i % 4 * 8) v) } ∧ Fr H.own w w' := by
  have g2 := may_calls v 1 w h.kd
  rw [hv] at g2
  have hv2 : 0 ≤ v ∧ v ≤ 255 := by simpa [mayB] using hv
  obtain ⟨hv0, hv1⟩ := hv2
  clear hv
  have g := slot_bytes H w h oop i p n ho hi
  have c0 := h.c0
  have hW := h.W_le
  have hp := ho.hd.hp
  simp only [obLen, if_true] at hp
  have cw := h.hw.cell (i := p + 2 + i / 4) (by omega)
  have fz := h.hw.frozen (p + 2 + i / 4)
  clear ho
  have key : ∀ (s : Nat) (m u : Int), s + 8 ≤ 32 → i % 4 * 8 = s → m = ((255 * 2 ^ s : Nat) : Int) → u = v * ((2 ^ s : Nat) : Int) → ∀ nq,
      HAt ((w.drewN nq).setCell ⟨H.wb, p + 2 + i / 4, none⟩ (.int .i64 (bits .or .i64 (bits .andNot .i64 (H.words (p + 2 + i / 4)) m) u))) { H with words := upd H.words (p + 2 + i / 4) (setByte (H.words (p + 2 + i / 4)) (i % 4 * 8) v) } ∧
      Fr H.own w ((w.drewN nq).setCell ⟨H.wb, p + 2 + i / 4, none⟩ (.int .i64 (bits .or .i64 (bits .andNot .i64 (H.words (p + 2 + i / 4)) m) u))) := by
    intro s m u hs he hm hu nq
    rw [bits_byte _ v s m u hs hm hu hx hx' hv0 hv1, he]
    exact ⟨(h.drewN nq).setWord _ _, ((Fr.refl _ _).drewN nq).setCell (fun _ => .inr (.inl rfl)) _⟩
  have K := Lib.hid key
  clear key
  rcases (show i % 4 = 0 ∨ i % 4 = 1 ∨ i % 4 = 2 ∨ i % 4 = 3 by omega) with hr | hr | hr | hr
  all_goals
    rw [show (i : Int) % 4 = ((i % 4 : Nat) : Int) by omega, hr] at g
    have HR := Lib.hid hr
    clear hr
    go_enter Tryd.func48, Tryd.ntmps48
    go_wp2_with (first | (go_at_call 121; refine g.mono ?_; rintro e w' ⟨rfl, rfl⟩) | (go_at_call 85; refine g2.mono ?_; rintro e w' ⟨rfl, rfl⟩))
    go_quiet (fail)
    go_wp2
    go_ret
  · exact ⟨rfl, K.out 0 _ _ (by decide) (by rw [HR.out]) (by decide) (by omega) _⟩
  · exact ⟨rfl, K.out 8 _ _ (by decide) (by rw [HR.out]) (by decide) (by omega) _⟩
  · exact ⟨rfl, K.out 16 _ _ (by decide) (by rw [HR.out]) (by decide) (by omega) _⟩
  · exact ⟨rfl, K.out 24 _ _ (by decide) (by rw [HR.out]) (by decide) (by omega) _⟩
end Kiln
