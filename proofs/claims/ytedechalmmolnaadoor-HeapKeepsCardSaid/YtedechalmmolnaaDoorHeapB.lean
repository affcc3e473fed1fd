/- Walks: slot, At, Class, Size, Room, Marked of package heap. -/
import Derived.Test.YtedechalmmolnaaDoorHeapA
namespace Kiln
open Go Go.RowKit Go.Proofs

/-- an object: its oop, its place, how many slots, its format -/
structure Is (H : Hc) (oop : Int) (p : Nat) (n f : Int) : Prop where
  h1 : 1 ≤ oop
  h2 : oop < H.T
  h3 : H.table oop.toNat = p
  hd : Head H p n f

theorem slot_no (H : Hc) (w : World) (h : HAt w H) (oop i : Int) (hl : ¬ live H oop) :
    Calls Tryd.prog 121 #[H.ptr, .int .i64 oop, .int .i64 i] w fun e w' => e = .returned (.tuple #[.int .i64 0, .int .i64 0, .int .i64 0, .int .i64 20]) ∧ w = w' := by
  have g := find_no H w h oop hl
  clear h hl
  go_enter Tryd.func121, Tryd.ntmps121
  go_wp2_with (go_at_call 122; refine g.mono ?_; rintro e w' ⟨rfl, rfl⟩)
  refine bodyPost_ret (v := .tuple #[.int .i64 0, .int .i64 0, .int .i64 0, .int .i64 20]) (by simp [results, Tryd.results121, go_sem]) rfl ⟨rfl, rfl⟩

theorem slot_out (H : Hc) (w : World) (h : HAt w H) (oop i : Int) (p : Nat) (n f : Int) (ho : Is H oop p n f) (hi : ¬ (0 ≤ i ∧ i < n)) :
    Calls Tryd.prog 121 #[H.ptr, .int .i64 oop, .int .i64 i] w fun e w' => e = .returned (.tuple #[.int .i64 0, .int .i64 0, .int .i64 0, .int .i64 21]) ∧ w = w' := by
  have g := find_ok H w h oop p ho.h1 ho.h2 ho.h3
  have g2 := shape_calls H w h p n f ho.hd
  clear h ho
  by_cases h0 : i < 0
  all_goals
    go_enter Tryd.func121, Tryd.ntmps121
    go_wp2_with (first | (go_at_call 122; refine g.mono ?_; rintro e w' ⟨rfl, rfl⟩) | (go_at_call 96; refine g2.mono ?_; rintro e w' ⟨rfl, rfl⟩))
    refine bodyPost_ret (v := .tuple #[.int .i64 0, .int .i64 0, .int .i64 0, .int .i64 21]) (by simp [results, Tryd.results121, go_sem]) rfl ⟨rfl, rfl⟩

theorem slot_words (H : Hc) (w : World) (h : HAt w H) (oop : Int) (i : Nat) (p : Nat) (n : Int) (ho : Is H oop p n 0) (hi : (i : Int) < n) :
    Calls Tryd.prog 121 #[H.ptr, .int .i64 oop, .int .i64 i] w fun e w' => e = .returned (.tuple #[.int .i64 ((p : Int) + 2 + i), .int .i64 0, .int .i64 0, .int .i64 0]) ∧ w = w' := by
  have g := find_ok H w h oop p ho.h1 ho.h2 ho.h3
  have g2 := shape_calls H w h p n 0 ho.hd
  have hW := h.W_le
  have hn := ho.hd.n1
  have hp := ho.hd.hp
  have hl := obLen_ge n 0 ho.hd.n0
  clear h ho
  go_enter Tryd.func121, Tryd.ntmps121
  go_wp2_with (first | (go_at_call 122; refine g.mono ?_; rintro e w' ⟨rfl, rfl⟩) | (go_at_call 96; refine g2.mono ?_; rintro e w' ⟨rfl, rfl⟩))
  refine bodyPost_ret (v := .tuple #[.int .i64 ((p : Int) + 2 + i), .int .i64 0, .int .i64 0, .int .i64 0]) (by simp [results, Tryd.results121, go_sem]) rfl ⟨rfl, rfl⟩

theorem slot_bytes (H : Hc) (w : World) (h : HAt w H) (oop : Int) (i : Nat) (p : Nat) (n : Int) (ho : Is H oop p n 1) (hi : (i : Int) < n) :
    Calls Tryd.prog 121 #[H.ptr, .int .i64 oop, .int .i64 i] w fun e w' => e = .returned (.tuple #[.int .i64 ((p : Int) + 2 + i / 4), .int .i64 ((i : Int) % 4 * 8), .int .i64 1, .int .i64 0]) ∧ w = w' := by
  have g := find_ok H w h oop p ho.h1 ho.h2 ho.h3
  have g2 := shape_calls H w h p n 1 ho.hd
  have hW := h.W_le
  have hn := ho.hd.n1
  have hp := ho.hd.hp
  have hl := obLen_ge n 1 ho.hd.n0
  clear h ho
  go_enter Tryd.func121, Tryd.ntmps121
  go_wp2_with (first | (go_at_call 122; refine g.mono ?_; rintro e w' ⟨rfl, rfl⟩) | (go_at_call 96; refine g2.mono ?_; rintro e w' ⟨rfl, rfl⟩))
  refine bodyPost_ret (v := .tuple #[.int .i64 ((p : Int) + 2 + i / 4), .int .i64 ((i : Int) % 4 * 8), .int .i64 1, .int .i64 0]) (by simp [results, Tryd.results121, go_sem]) rfl ⟨rfl, rfl⟩

/-- what a slot holds -/
def slotH (H : Hc) (p : Nat) (f : Int) (i : Nat) : Int := if f = 1 then H.words (p + 2 + i / 4) / 2 ^ (i % 4 * 8) % 256 else H.words (p + 2 + i)

theorem at_no (H : Hc) (w : World) (h : HAt w H) (oop i : Int) (hl : ¬ live H oop) :
    Calls Tryd.prog 78 #[H.ptr, .int .i64 oop, .int .i64 i] w fun e w' => e = .returned (.tuple #[.int .i64 0, .int .i64 20]) ∧ w = w' := by
  have g := slot_no H w h oop i hl
  clear h hl
  go_enter Tryd.func78, Tryd.ntmps78
  go_wp2_with (go_at_call 121; refine g.mono ?_; rintro e w' ⟨rfl, rfl⟩)
  go_ret2
  exact ⟨rfl, rfl⟩

theorem at_out (H : Hc) (w : World) (h : HAt w H) (oop i : Int) (p : Nat) (n f : Int) (ho : Is H oop p n f) (hi : ¬ (0 ≤ i ∧ i < n)) :
    Calls Tryd.prog 78 #[H.ptr, .int .i64 oop, .int .i64 i] w fun e w' => e = .returned (.tuple #[.int .i64 0, .int .i64 21]) ∧ w = w' := by
  have g := slot_out H w h oop i p n f ho hi
  clear h ho hi
  go_enter Tryd.func78, Tryd.ntmps78
  go_wp2_with (go_at_call 121; refine g.mono ?_; rintro e w' ⟨rfl, rfl⟩)
  go_ret2
  exact ⟨rfl, rfl⟩

theorem at_ok (H : Hc) (w : World) (h : HAt w H) (oop : Int) (i : Nat) (p : Nat) (n f : Int) (ho : Is H oop p n f) (hi : (i : Int) < n) :
    Calls Tryd.prog 78 #[H.ptr, .int .i64 oop, .int .i64 i] w fun e w' => e = .returned (.tuple #[.int .i64 (slotH H p f i), .int .i64 0]) ∧ w = w' := by
  have c0 := h.c0
  have hW := h.W_le
  have hn0 := ho.hd.n0
  have hn := ho.hd.n1
  have hp := ho.hd.hp
  rcases ho.hd.hf with rfl | rfl
  · have g := slot_words H w h oop i p n ho hi
    simp only [obLen, if_neg (show ¬ ((0 : Int) = 1) by decide)] at hp
    have cw := h.hw.cell (i := p + 2 + i) (by omega)
    clear h ho
    go_enter Tryd.func78, Tryd.ntmps78
    go_wp2_with (go_at_call 121; refine g.mono ?_; rintro e w' ⟨rfl, rfl⟩)
    go_ret2
    exact ⟨rfl, rfl⟩
  · have g := slot_bytes H w h oop i p n ho hi
    simp only [obLen, if_true] at hp
    have cw := h.hw.cell (i := p + 2 + i / 4) (by omega)
    have a255 := i64_and255
    clear h ho
    go_enter Tryd.func78, Tryd.ntmps78
    go_wp2_with (go_at_call 121; refine g.mono ?_; rintro e w' ⟨rfl, rfl⟩)
    go_ret2
    exact ⟨rfl, rfl⟩

theorem class_no (H : Hc) (w : World) (h : HAt w H) (oop : Int) (hl : ¬ live H oop) :
    Calls Tryd.prog 103 #[H.ptr, .int .i64 oop] w fun e w' => e = .returned (.tuple #[.int .i64 0, .int .i64 20]) ∧ w = w' := by
  have g := find_no H w h oop hl
  clear h hl
  go_enter Tryd.func103, Tryd.ntmps103
  go_wp2_with (go_at_call 122; refine g.mono ?_; rintro e w' ⟨rfl, rfl⟩)
  go_ret2
  exact ⟨rfl, rfl⟩

theorem class_ok (H : Hc) (w : World) (h : HAt w H) (oop : Int) (p : Nat) (n f : Int) (ho : Is H oop p n f) :
    Calls Tryd.prog 103 #[H.ptr, .int .i64 oop] w fun e w' => e = .returned (.tuple #[.int .i64 (H.words p), .int .i64 0]) ∧ w = w' := by
  have g := find_ok H w h oop p ho.h1 ho.h2 ho.h3
  have c0 := h.c0
  have hW := h.W_le
  have hp := ho.hd.hp
  have hl := obLen_ge n f ho.hd.n0
  have hpW : p < H.W := by omega
  have cw := h.hw.cell (i := p) (by omega)
  clear h ho hp hl
  go_enter Tryd.func103, Tryd.ntmps103
  go_wp2_with (go_at_call 122; refine g.mono ?_; rintro e w' ⟨rfl, rfl⟩)
  go_ret2
  exact ⟨rfl, rfl⟩

theorem size_no (H : Hc) (w : World) (h : HAt w H) (oop : Int) (hl : ¬ live H oop) :
    Calls Tryd.prog 108 #[H.ptr, .int .i64 oop] w fun e w' => e = .returned (.tuple #[.int .i64 0, .int .i64 0, .int .i64 20]) ∧ w = w' := by
  have g := find_no H w h oop hl
  clear h hl
  go_enter Tryd.func108, Tryd.ntmps108
  go_wp2_with (go_at_call 122; refine g.mono ?_; rintro e w' ⟨rfl, rfl⟩)
  go_ret3
  exact ⟨rfl, rfl⟩

theorem size_ok (H : Hc) (w : World) (h : HAt w H) (oop : Int) (p : Nat) (n f : Int) (ho : Is H oop p n f) :
    Calls Tryd.prog 108 #[H.ptr, .int .i64 oop] w fun e w' => e = .returned (.tuple #[.int .i64 n, .int .i64 f, .int .i64 0]) ∧ w = w' := by
  have g := find_ok H w h oop p ho.h1 ho.h2 ho.h3
  have g2 := shape_calls H w h p n f ho.hd
  clear h ho
  go_enter Tryd.func108, Tryd.ntmps108
  go_wp2_with (first | (go_at_call 122; refine g.mono ?_; rintro e w' ⟨rfl, rfl⟩) | (go_at_call 96; refine g2.mono ?_; rintro e w' ⟨rfl, rfl⟩))
  go_ret3
  exact ⟨rfl, rfl⟩

theorem marked_calls (H : Hc) (w : World) (h : HAt w H) :
    Calls Tryd.prog 31 #[H.ptr] w fun e w' => e = .returned (.int .i64 H.mark) ∧ w = w' := by
  have c6 := h.c6
  clear h
  go_enter Tryd.func31, Tryd.ntmps31
  go_wp2
  go_ret
  exact ⟨rfl, rfl⟩

theorem room_calls (H : Hc) (w : World) (h : HAt w H) (h0 : 0 ≤ H.fin) (h1 : H.fin ≤ H.W) (h2 : 0 ≤ H.count) (h3 : H.count ≤ H.T) :
    Calls Tryd.prog 21 #[H.ptr] w fun e w' => e = .returned (.tuple #[.int .i64 (H.W - H.fin), .int .i64 (H.T - 1 - H.count)]) ∧ Drew w w' := by
  have g := gone_calls H w h
  have c0 := h.c0
  have c1 := h.c1
  have c3 := h.c3
  have c4 := h.c4
  have hW := h.W_le
  have hT := h.T_le
  clear h
  go_enter Tryd.func21, Tryd.ntmps21
  go_wp2_with (go_at_call 94; refine g.mono ?_; rintro e w' ⟨rfl, rfl⟩)
  go_quiet (fail)
  go_wp2
  go_ways
  go_ret2
  exact ⟨rfl, _, rfl⟩
end Kiln
