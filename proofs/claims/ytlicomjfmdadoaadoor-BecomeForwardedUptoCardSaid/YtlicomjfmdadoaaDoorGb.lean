/- Walks: the functions of package heap (and word.Kind) that only read. Walks: slot, At, Class, Size, Room, Marked of package heap. Walks: Mark, SetClass, Put, Exchange of package heap. -/
import Derived.Test.YtlicomjfmdadoaaDoorProg
import Derived.Test.YtlicomjfmdadoaaDoorGa
import Derived.Lib.Hide
namespace Kiln
open Go Go.RowKit Go.Proofs

theorem in_calls (n : Int) (w : World) :
    Calls Tryd.prog 135 #[.int .i64 n] w fun e w' => e = .returned (.bool (decide (-1073741824 ≤ n ∧ n ≤ 1073741823))) ∧ w = w' := by
  go_enter Tryd.func135, Tryd.ntmps135
  go_wp2
  all_goals go_ret
  all_goals refine ⟨?_, rfl⟩
  · have h : -1073741824 ≤ n := by assumption
    simp [h]
  · have h : n < -1073741824 := by assumption
    have h' : ¬ (-1073741824 ≤ n) := by omega
    simp [h']

theorem kind_calls (n : Int) (w : World) (h : KindsAt w) :
    Calls Tryd.prog 117 #[.int .i64 n] w fun e w' => e = .returned (.int .i64 (kindOf n)) ∧ w = w' := by
  have a3 := i64_and3 n
  have g := in_calls (n / 2) w
  have t0 := h 0 (by omega)
  have t1 := h 1 (by omega)
  have t2 := h 2 (by omega)
  have t3 := h 3 (by omega)
  simp only [kindTab] at t0 t1 t2 t3
  clear h
  rcases (show n % 4 = 0 ∨ n % 4 = 1 ∨ n % 4 = 2 ∨ n % 4 = 3 by omega) with h | h | h | h
  all_goals
    rw [h] at a3
    go_enter Tryd.func117, Tryd.ntmps117
    go_wp2_with (go_at_call 135; refine g.mono ?_; rintro e w' ⟨rfl, rfl⟩)
    all_goals go_ret
    all_goals refine ⟨?_, rfl⟩
    all_goals refine ret_i ?_
    all_goals unfold kindOf
    all_goals (try simp only [Bool.not_eq_true', decide_eq_false_iff_not, Bool.not_eq_false', decide_eq_true_eq] at *)
    all_goals (repeat' split)
    all_goals omega

theorem length_calls (n f : Int) (w : World) (h0 : 0 ≤ n) (h1 : n ≤ 9223372036854775000) :
    Calls Tryd.prog 63 #[.int .i64 n, .int .i64 f] w fun e w' => e = .returned (.int .i64 (obLen n f)) ∧ w = w' := by
  go_enter Tryd.func63, Tryd.ntmps63
  go_wp2
  all_goals go_ret
  all_goals refine ⟨ret_i ?_, rfl⟩
  all_goals unfold obLen
  all_goals split
  all_goals simp_all
  all_goals omega

theorem within_calls (n m : Int) (w : World) :
    Calls Tryd.prog 58 #[.int .i64 n, .int .i64 m] w fun e w' => e = .returned (.bool (decide (0 ≤ n ∧ n ≤ m))) ∧ w = w' := by
  go_enter Tryd.func58, Tryd.ntmps58
  go_wp2
  all_goals go_ret
  all_goals refine ⟨?_, rfl⟩
  · have h : 0 ≤ n := by assumption
    simp [h]
  · have h : n < 0 := by assumption
    have h' : ¬ (0 ≤ n) := by omega
    simp [h']

theorem isWord_calls (n : Int) (w : World) (h : KindsAt w) :
    Calls Tryd.prog 59 #[.int .i64 n] w fun e w' => e = .returned (.bool (mayB n 0)) ∧ w = w' := by
  have g := kind_calls n w h
  clear h
  go_enter Tryd.func59, Tryd.ntmps59
  go_wp2_with (go_at_call 117; refine g.mono ?_; rintro e w' ⟨rfl, rfl⟩)
  all_goals go_ret
  all_goals refine ⟨ret_b ?_, rfl⟩
  all_goals (rw [Bool.eq_iff_iff]; simp [mayB, bne])

theorem may_calls (n f : Int) (w : World) (h : KindsAt w) :
    Calls Tryd.prog 62 #[.int .i64 n, .int .i64 f] w fun e w' => e = .returned (.bool (mayB n f)) ∧ w = w' := by
  have g := isWord_calls n w h
  clear h
  by_cases hf : f = 1
  · subst hf
    go_enter Tryd.func62, Tryd.ntmps62
    go_wp2_with (go_at_call 59; refine g.mono ?_; rintro e w' ⟨rfl, rfl⟩)
    all_goals go_ret
    all_goals refine ⟨ret_b ?_, rfl⟩
    · have h : 0 ≤ n := by assumption
      simp [mayB, h]
    · have h : n < 0 := by assumption
      have h' : ¬ (0 ≤ n) := by omega
      simp [mayB, h']
  · have hb : (f == 1) = false := by simp [hf]
    have hm : mayB n f = mayB n 0 := by simp [mayB, hf]
    rw [hm]
    clear hf hm
    go_enter Tryd.func62, Tryd.ntmps62
    go_wp2_with (go_at_call 59; refine g.mono ?_; rintro e w' ⟨rfl, rfl⟩)
    go_ret
    exact ⟨rfl, rfl⟩

theorem gone_calls (H : Hc) (w : World) (h : HAt w H) :
    Calls Tryd.prog 72 #[H.ptr] w fun e w' => e = .returned (.bool false) ∧ w = w' := by
  have c1 := h.c1
  have e1 := fun w => Lib.run_eql_slice_nil (P := Tryd.prog) (w := w) 41
  clear h
  go_enter Tryd.func72, Tryd.ntmps72
  go_wp2
  go_ret
  exact ⟨rfl, rfl⟩

theorem gone_nil (w : World) :
    Calls Tryd.prog 72 #[.pointer none] w fun e w' => e = .returned (.bool true) ∧ w = w' := by
  go_enter Tryd.func72, Tryd.ntmps72
  go_wp2
  go_ret
  exact ⟨rfl, rfl⟩

/-- is there an object of this oop? -/
def live (H : Hc) (oop : Int) : Prop := 1 ≤ oop ∧ oop < H.T ∧ 0 ≤ H.table oop.toNat
instance (H : Hc) (oop : Int) : Decidable (live H oop) := by unfold live; infer_instance

theorem find_ok (H : Hc) (w : World) (h : HAt w H) (oop : Int) (p : Nat) (h1 : 1 ≤ oop) (h2 : oop < H.T) (h3 : H.table oop.toNat = p) :
    Calls Tryd.prog 102 #[H.ptr, .int .i64 oop] w fun e w' => e = .returned (.tuple #[.int .i64 p, .int .i64 0]) ∧ w = w' := by
  have c1 := h.c1
  have g := gone_calls H w h
  have hT := h.T_le
  have ct := h.ht.cell (i := oop.toNat) (by omega)
  rw [h3] at ct
  clear h h3
  go_enter Tryd.func102, Tryd.ntmps102
  go_wp2_with (go_at_call 72; refine g.mono ?_; rintro e w' ⟨rfl, rfl⟩)
  go_ret2
  exact ⟨rfl, rfl⟩

theorem find_no (H : Hc) (w : World) (h : HAt w H) (oop : Int) (h3 : ¬ live H oop) :
    Calls Tryd.prog 102 #[H.ptr, .int .i64 oop] w fun e w' => e = .returned (.tuple #[.int .i64 0, .int .i64 20]) ∧ w = w' := by
  unfold live at h3
  have c1 := h.c1
  have g := gone_calls H w h
  have hT := h.T_le
  have ct : 1 ≤ oop → oop < H.T → _ := fun h1 h2 => h.ht.cell (i := oop.toNat) (by omega)
  clear h
  go_enter Tryd.func102, Tryd.ntmps102
  go_wp2_with (go_at_call 72; refine g.mono ?_; rintro e w' ⟨rfl, rfl⟩)
  all_goals go_ret2
  all_goals exact ⟨rfl, rfl⟩

theorem find_nil (w : World) (oop : Int) :
    Calls Tryd.prog 102 #[.pointer none, .int .i64 oop] w fun e w' => e = .returned (.tuple #[.int .i64 0, .int .i64 2]) ∧ w = w' := by
  have g := gone_nil w
  go_enter Tryd.func102, Tryd.ntmps102
  go_wp2_with (go_at_call 72; refine g.mono ?_; rintro e w' ⟨rfl, rfl⟩)
  go_ret2
  exact ⟨rfl, rfl⟩

/-- the header of an object at place p: n slots of format f -/
structure Head (H : Hc) (p : Nat) (n f : Int) : Prop where
  n0 : 0 ≤ n
  n1 : n ≤ 8192
  hf : f = 0 ∨ f = 1
  hv : H.words (p + 1) = 2 * n + f
  hp : (p : Int) + obLen n f ≤ H.W

theorem shape_calls (H : Hc) (w : World) (h : HAt w H) (p : Nat) (n f : Int) (hd : Head H p n f) :
    Calls Tryd.prog 74 #[H.ptr, .int .i64 p] w fun e w' => e = .returned (.tuple #[.int .i64 n, .int .i64 f]) ∧ w = w' := by
  have c0 := h.c0
  have hW := h.W_le
  obtain ⟨hn, hn', hf, hv, hp⟩ := hd
  have := obLen_ge n f hn
  have hp1 : p + 1 < H.W := by omega
  have cw := h.hw.cell (i := p + 1) (by omega)
  clear h hp this
  rw [hv] at cw
  clear hv
  have a1 := i64_and1 (2 * n + f)
  go_enter Tryd.func74, Tryd.ntmps74
  go_wp2
  go_ret2
  refine ⟨ret_ii ?_ ?_, rfl⟩ <;> omega

theorem lengthAt_calls (H : Hc) (w : World) (h : HAt w H) (p : Nat) (n f : Int) (hd : Head H p n f) :
    Calls Tryd.prog 103 #[H.ptr, .int .i64 p] w fun e w' => e = .returned (.int .i64 (obLen n f)) ∧ w = w' := by
  have g := shape_calls H w h p n f hd
  have g2 := length_calls n f w hd.n0 (by have := hd.n1; omega)
  clear hd h
  go_enter Tryd.func103, Tryd.ntmps103
  go_wp2_with (first | (go_at_call 74; refine g.mono ?_; rintro e w' ⟨rfl, rfl⟩) | (go_at_call 63; refine g2.mono ?_; rintro e w' ⟨rfl, rfl⟩))
  go_ret
  exact ⟨rfl, rfl⟩
end Kiln

namespace Kiln
open Go Go.RowKit Go.Proofs

/-- an object: its oop, its place, how many slots, its format -/
structure Is (H : Hc) (oop : Int) (p : Nat) (n f : Int) : Prop where
  h1 : 1 ≤ oop
  h2 : oop < H.T
  h3 : H.table oop.toNat = p
  hd : Head H p n f

theorem slot_no (H : Hc) (w : World) (h : HAt w H) (oop i : Int) (hl : ¬ live H oop) :
    Calls Tryd.prog 119 #[H.ptr, .int .i64 oop, .int .i64 i] w fun e w' => e = .returned (.tuple #[.int .i64 0, .int .i64 0, .int .i64 0, .int .i64 20]) ∧ w = w' := by
  have g := find_no H w h oop hl
  clear h hl
  go_enter Tryd.func119, Tryd.ntmps119
  go_wp2_with (go_at_call 102; refine g.mono ?_; rintro e w' ⟨rfl, rfl⟩)
  refine bodyPost_ret (v := .tuple #[.int .i64 0, .int .i64 0, .int .i64 0, .int .i64 20]) (by simp [results, Tryd.results119, go_sem]) rfl ⟨rfl, rfl⟩

theorem slot_out (H : Hc) (w : World) (h : HAt w H) (oop i : Int) (p : Nat) (n f : Int) (ho : Is H oop p n f) (hi : ¬ (0 ≤ i ∧ i < n)) :
    Calls Tryd.prog 119 #[H.ptr, .int .i64 oop, .int .i64 i] w fun e w' => e = .returned (.tuple #[.int .i64 0, .int .i64 0, .int .i64 0, .int .i64 21]) ∧ w = w' := by
  have g := find_ok H w h oop p ho.h1 ho.h2 ho.h3
  have g2 := shape_calls H w h p n f ho.hd
  clear h ho
  by_cases h0 : i < 0
  all_goals
    go_enter Tryd.func119, Tryd.ntmps119
    go_wp2_with (first | (go_at_call 102; refine g.mono ?_; rintro e w' ⟨rfl, rfl⟩) | (go_at_call 74; refine g2.mono ?_; rintro e w' ⟨rfl, rfl⟩))
    refine bodyPost_ret (v := .tuple #[.int .i64 0, .int .i64 0, .int .i64 0, .int .i64 21]) (by simp [results, Tryd.results119, go_sem]) rfl ⟨rfl, rfl⟩

theorem slot_words (H : Hc) (w : World) (h : HAt w H) (oop : Int) (i : Nat) (p : Nat) (n : Int) (ho : Is H oop p n 0) (hi : (i : Int) < n) :
    Calls Tryd.prog 119 #[H.ptr, .int .i64 oop, .int .i64 i] w fun e w' => e = .returned (.tuple #[.int .i64 ((p : Int) + 2 + i), .int .i64 0, .int .i64 0, .int .i64 0]) ∧ w = w' := by
  have g := find_ok H w h oop p ho.h1 ho.h2 ho.h3
  have g2 := shape_calls H w h p n 0 ho.hd
  have hW := h.W_le
  have hn := ho.hd.n1
  have hp := ho.hd.hp
  have hl := obLen_ge n 0 ho.hd.n0
  clear h ho
  go_enter Tryd.func119, Tryd.ntmps119
  go_wp2_with (first | (go_at_call 102; refine g.mono ?_; rintro e w' ⟨rfl, rfl⟩) | (go_at_call 74; refine g2.mono ?_; rintro e w' ⟨rfl, rfl⟩))
  refine bodyPost_ret (v := .tuple #[.int .i64 ((p : Int) + 2 + i), .int .i64 0, .int .i64 0, .int .i64 0]) (by simp [results, Tryd.results119, go_sem]) rfl ⟨rfl, rfl⟩

theorem slot_bytes (H : Hc) (w : World) (h : HAt w H) (oop : Int) (i : Nat) (p : Nat) (n : Int) (ho : Is H oop p n 1) (hi : (i : Int) < n) :
    Calls Tryd.prog 119 #[H.ptr, .int .i64 oop, .int .i64 i] w fun e w' => e = .returned (.tuple #[.int .i64 ((p : Int) + 2 + i / 4), .int .i64 ((i : Int) % 4 * 8), .int .i64 1, .int .i64 0]) ∧ w = w' := by
  have g := find_ok H w h oop p ho.h1 ho.h2 ho.h3
  have g2 := shape_calls H w h p n 1 ho.hd
  have hW := h.W_le
  have hn := ho.hd.n1
  have hp := ho.hd.hp
  have hl := obLen_ge n 1 ho.hd.n0
  clear h ho
  go_enter Tryd.func119, Tryd.ntmps119
  go_wp2_with (first | (go_at_call 102; refine g.mono ?_; rintro e w' ⟨rfl, rfl⟩) | (go_at_call 74; refine g2.mono ?_; rintro e w' ⟨rfl, rfl⟩))
  refine bodyPost_ret (v := .tuple #[.int .i64 ((p : Int) + 2 + i / 4), .int .i64 ((i : Int) % 4 * 8), .int .i64 1, .int .i64 0]) (by simp [results, Tryd.results119, go_sem]) rfl ⟨rfl, rfl⟩

/-- what a slot holds -/
def slotH (H : Hc) (p : Nat) (f : Int) (i : Nat) : Int := if f = 1 then H.words (p + 2 + i / 4) / 2 ^ (i % 4 * 8) % 256 else H.words (p + 2 + i)

theorem at_no (H : Hc) (w : World) (h : HAt w H) (oop i : Int) (hl : ¬ live H oop) :
    Calls Tryd.prog 75 #[H.ptr, .int .i64 oop, .int .i64 i] w fun e w' => e = .returned (.tuple #[.int .i64 0, .int .i64 20]) ∧ w = w' := by
  have g := slot_no H w h oop i hl
  clear h hl
  go_enter Tryd.func75, Tryd.ntmps75
  go_wp2_with (go_at_call 119; refine g.mono ?_; rintro e w' ⟨rfl, rfl⟩)
  go_ret2
  exact ⟨rfl, rfl⟩

theorem at_out (H : Hc) (w : World) (h : HAt w H) (oop i : Int) (p : Nat) (n f : Int) (ho : Is H oop p n f) (hi : ¬ (0 ≤ i ∧ i < n)) :
    Calls Tryd.prog 75 #[H.ptr, .int .i64 oop, .int .i64 i] w fun e w' => e = .returned (.tuple #[.int .i64 0, .int .i64 21]) ∧ w = w' := by
  have g := slot_out H w h oop i p n f ho hi
  clear h ho hi
  go_enter Tryd.func75, Tryd.ntmps75
  go_wp2_with (go_at_call 119; refine g.mono ?_; rintro e w' ⟨rfl, rfl⟩)
  go_ret2
  exact ⟨rfl, rfl⟩

theorem at_ok (H : Hc) (w : World) (h : HAt w H) (oop : Int) (i : Nat) (p : Nat) (n f : Int) (ho : Is H oop p n f) (hi : (i : Int) < n) :
    Calls Tryd.prog 75 #[H.ptr, .int .i64 oop, .int .i64 i] w fun e w' => e = .returned (.tuple #[.int .i64 (slotH H p f i), .int .i64 0]) ∧ w = w' := by
  have c0 := h.c0
  have hW := h.W_le
  have hn0 := ho.hd.n0
  have hn := ho.hd.n1
  have hp := ho.hd.hp
  rcases ho.hd.hf with rfl | rfl
  · have g := slot_words H w h oop i p n ho hi
    simp only [obLen, if_neg (show ¬ ((0 : Int) = 1) by decide)] at hp
    have cw := h.hw.cell (i := p + 2 + i) (by omega)
    clear h ho
    go_enter Tryd.func75, Tryd.ntmps75
    go_wp2_with (go_at_call 119; refine g.mono ?_; rintro e w' ⟨rfl, rfl⟩)
    go_ret2
    exact ⟨rfl, rfl⟩
  · have g := slot_bytes H w h oop i p n ho hi
    simp only [obLen, if_true] at hp
    have cw := h.hw.cell (i := p + 2 + i / 4) (by omega)
    have a255 := i64_and255
    clear h ho
    go_enter Tryd.func75, Tryd.ntmps75
    go_wp2_with (go_at_call 119; refine g.mono ?_; rintro e w' ⟨rfl, rfl⟩)
    go_ret2
    exact ⟨rfl, rfl⟩

theorem class_no (H : Hc) (w : World) (h : HAt w H) (oop : Int) (hl : ¬ live H oop) :
    Calls Tryd.prog 78 #[H.ptr, .int .i64 oop] w fun e w' => e = .returned (.tuple #[.int .i64 0, .int .i64 20]) ∧ w = w' := by
  have g := find_no H w h oop hl
  clear h hl
  go_enter Tryd.func78, Tryd.ntmps78
  go_wp2_with (go_at_call 102; refine g.mono ?_; rintro e w' ⟨rfl, rfl⟩)
  go_ret2
  exact ⟨rfl, rfl⟩

theorem class_ok (H : Hc) (w : World) (h : HAt w H) (oop : Int) (p : Nat) (n f : Int) (ho : Is H oop p n f) :
    Calls Tryd.prog 78 #[H.ptr, .int .i64 oop] w fun e w' => e = .returned (.tuple #[.int .i64 (H.words p), .int .i64 0]) ∧ w = w' := by
  have g := find_ok H w h oop p ho.h1 ho.h2 ho.h3
  have c0 := h.c0
  have hW := h.W_le
  have hp := ho.hd.hp
  have hl := obLen_ge n f ho.hd.n0
  have hpW : p < H.W := by omega
  have cw := h.hw.cell (i := p) (by omega)
  clear h ho hp hl
  go_enter Tryd.func78, Tryd.ntmps78
  go_wp2_with (go_at_call 102; refine g.mono ?_; rintro e w' ⟨rfl, rfl⟩)
  go_ret2
  exact ⟨rfl, rfl⟩

theorem size_no (H : Hc) (w : World) (h : HAt w H) (oop : Int) (hl : ¬ live H oop) :
    Calls Tryd.prog 81 #[H.ptr, .int .i64 oop] w fun e w' => e = .returned (.tuple #[.int .i64 0, .int .i64 0, .int .i64 20]) ∧ w = w' := by
  have g := find_no H w h oop hl
  clear h hl
  go_enter Tryd.func81, Tryd.ntmps81
  go_wp2_with (go_at_call 102; refine g.mono ?_; rintro e w' ⟨rfl, rfl⟩)
  go_ret3
  exact ⟨rfl, rfl⟩

theorem size_ok (H : Hc) (w : World) (h : HAt w H) (oop : Int) (p : Nat) (n f : Int) (ho : Is H oop p n f) :
    Calls Tryd.prog 81 #[H.ptr, .int .i64 oop] w fun e w' => e = .returned (.tuple #[.int .i64 n, .int .i64 f, .int .i64 0]) ∧ w = w' := by
  have g := find_ok H w h oop p ho.h1 ho.h2 ho.h3
  have g2 := shape_calls H w h p n f ho.hd
  clear h ho
  go_enter Tryd.func81, Tryd.ntmps81
  go_wp2_with (first | (go_at_call 102; refine g.mono ?_; rintro e w' ⟨rfl, rfl⟩) | (go_at_call 74; refine g2.mono ?_; rintro e w' ⟨rfl, rfl⟩))
  go_ret3
  exact ⟨rfl, rfl⟩

theorem marked_calls (H : Hc) (w : World) (h : HAt w H) :
    Calls Tryd.prog 106 #[H.ptr] w fun e w' => e = .returned (.int .i64 H.mark) ∧ w = w' := by
  have c6 := h.c6
  clear h
  go_enter Tryd.func106, Tryd.ntmps106
  go_wp2
  go_ret
  exact ⟨rfl, rfl⟩

theorem room_calls (H : Hc) (w : World) (h : HAt w H) (h0 : 0 ≤ H.fin) (h1 : H.fin ≤ H.W) (h2 : 0 ≤ H.count) (h3 : H.count ≤ H.T) :
    Calls Tryd.prog 15 #[H.ptr] w fun e w' => e = .returned (.tuple #[.int .i64 (H.W - H.fin), .int .i64 (H.T - 1 - H.count)]) ∧ Drew w w' := by
  have g := gone_calls H w h
  have c0 := h.c0
  have c1 := h.c1
  have c3 := h.c3
  have c4 := h.c4
  have hW := h.W_le
  have hT := h.T_le
  clear h
  go_enter Tryd.func15, Tryd.ntmps15
  go_wp2_with (go_at_call 72; refine g.mono ?_; rintro e w' ⟨rfl, rfl⟩)
  go_quiet (fail)
  go_wp2
  go_ways
  go_ret2
  exact ⟨rfl, _, rfl⟩
end Kiln

namespace Kiln
open Go Go.RowKit Go.Proofs

theorem mark_ok (H : Hc) (w : World) (h : HAt w H) (k : Int) (h0 : 0 ≤ k) (h1 : k ≤ 1073741824) :
    Calls Tryd.prog 97 #[H.ptr, .int .i64 k] w fun e w' => e = .returned (.int .i64 0) ∧ HAt w' { H with mark := k } ∧ Fr H.own w w' := by
  have g := gone_calls H w h
  have g2 := within_calls k 1073741824 w
  have hd : decide (0 ≤ k ∧ k ≤ 1073741824) = true := by simp; omega
  rw [hd] at g2
  have c6 := h.c6
  have fz := h.fz 6
  clear hd
  go_enter Tryd.func97, Tryd.ntmps97
  go_wp2_with (first | (go_at_call 72; refine g.mono ?_; rintro e w' ⟨rfl, rfl⟩) | (go_at_call 58; refine g2.mono ?_; rintro e w' ⟨rfl, rfl⟩))
  go_ret
  exact ⟨rfl, h.setMark k, (Fr.refl _ _).setCell (fun _ => .inl rfl) _⟩

theorem mark_no (H : Hc) (w : World) (h : HAt w H) (k : Int) (hk : ¬ (0 ≤ k ∧ k ≤ 1073741824)) :
    Calls Tryd.prog 97 #[H.ptr, .int .i64 k] w fun e w' => e = .returned (.int .i64 1) ∧ w = w' := by
  have g := gone_calls H w h
  have g2 := within_calls k 1073741824 w
  have hd : decide (0 ≤ k ∧ k ≤ 1073741824) = false := by simp; omega
  rw [hd] at g2
  clear hd h hk
  go_enter Tryd.func97, Tryd.ntmps97
  go_wp2_with (first | (go_at_call 72; refine g.mono ?_; rintro e w' ⟨rfl, rfl⟩) | (go_at_call 58; refine g2.mono ?_; rintro e w' ⟨rfl, rfl⟩))
  go_ret
  exact ⟨rfl, rfl⟩

theorem setClass_no (H : Hc) (w : World) (h : HAt w H) (oop c : Int) (hl : ¬ live H oop) :
    Calls Tryd.prog 80 #[H.ptr, .int .i64 oop, .int .i64 c] w fun e w' => e = .returned (.int .i64 20) ∧ w = w' := by
  have g := find_no H w h oop hl
  clear h hl
  go_enter Tryd.func80, Tryd.ntmps80
  go_wp2_with (go_at_call 102; refine g.mono ?_; rintro e w' ⟨rfl, rfl⟩)
  go_ret
  exact ⟨rfl, rfl⟩

theorem setClass_word (H : Hc) (w : World) (h : HAt w H) (oop c : Int) (p : Nat) (n f : Int) (ho : Is H oop p n f) (hc : mayB c 0 = false) :
    Calls Tryd.prog 80 #[H.ptr, .int .i64 oop, .int .i64 c] w fun e w' => e = .returned (.int .i64 10) ∧ w = w' := by
  have g := find_ok H w h oop p ho.h1 ho.h2 ho.h3
  have g2 := isWord_calls c w h.kd
  rw [hc] at g2
  clear h ho hc
  go_enter Tryd.func80, Tryd.ntmps80
  go_wp2_with (first | (go_at_call 102; refine g.mono ?_; rintro e w' ⟨rfl, rfl⟩) | (go_at_call 59; refine g2.mono ?_; rintro e w' ⟨rfl, rfl⟩))
  go_ret
  exact ⟨rfl, rfl⟩

theorem setClass_ok (H : Hc) (w : World) (h : HAt w H) (oop c : Int) (p : Nat) (n f : Int) (ho : Is H oop p n f) (hc : mayB c 0 = true) :
    Calls Tryd.prog 80 #[H.ptr, .int .i64 oop, .int .i64 c] w fun e w' => e = .returned (.int .i64 0) ∧ HAt w' { H with words := upd H.words p c } ∧ Fr H.own w w' := by
  have g := find_ok H w h oop p ho.h1 ho.h2 ho.h3
  have g2 := isWord_calls c w h.kd
  rw [hc] at g2
  have c0 := h.c0
  have hW := h.W_le
  have hp := ho.hd.hp
  have hl := obLen_ge n f ho.hd.n0
  have hpW : p < H.W := by omega
  have cw := h.hw.cell (i := p) (by omega)
  have fz := h.hw.frozen p
  clear ho hp hl hc
  go_enter Tryd.func80, Tryd.ntmps80
  go_wp2_with (first | (go_at_call 102; refine g.mono ?_; rintro e w' ⟨rfl, rfl⟩) | (go_at_call 59; refine g2.mono ?_; rintro e w' ⟨rfl, rfl⟩))
  go_ret
  exact ⟨rfl, h.setWord p c, (Fr.refl _ _).setCell (fun _ => .inr (.inl rfl)) _⟩

theorem put_no (H : Hc) (w : World) (h : HAt w H) (oop i v : Int) (hl : ¬ live H oop) :
    Calls Tryd.prog 65 #[H.ptr, .int .i64 oop, .int .i64 i, .int .i64 v] w fun e w' => e = .returned (.int .i64 20) ∧ w = w' := by
  have g := slot_no H w h oop i hl
  clear h hl
  go_enter Tryd.func65, Tryd.ntmps65
  go_wp2_with (go_at_call 119; refine g.mono ?_; rintro e w' ⟨rfl, rfl⟩)
  go_ret
  exact ⟨rfl, rfl⟩

theorem put_out (H : Hc) (w : World) (h : HAt w H) (oop i v : Int) (p : Nat) (n f : Int) (ho : Is H oop p n f) (hi : ¬ (0 ≤ i ∧ i < n)) :
    Calls Tryd.prog 65 #[H.ptr, .int .i64 oop, .int .i64 i, .int .i64 v] w fun e w' => e = .returned (.int .i64 21) ∧ w = w' := by
  have g := slot_out H w h oop i p n f ho hi
  clear h ho hi
  go_enter Tryd.func65, Tryd.ntmps65
  go_wp2_with (go_at_call 119; refine g.mono ?_; rintro e w' ⟨rfl, rfl⟩)
  go_ret
  exact ⟨rfl, rfl⟩

theorem put_word (H : Hc) (w : World) (h : HAt w H) (oop : Int) (i : Nat) (v : Int) (p : Nat) (n f : Int) (ho : Is H oop p n f) (hi : (i : Int) < n) (hv : mayB v f = false) :
    Calls Tryd.prog 65 #[H.ptr, .int .i64 oop, .int .i64 i, .int .i64 v] w fun e w' => e = .returned (.int .i64 10) ∧ w = w' := by
  have g2 := may_calls v f w h.kd
  rw [hv] at g2
  clear hv
  rcases ho.hd.hf with rfl | rfl
  · have g := slot_words H w h oop i p n ho hi
    clear h ho
    go_enter Tryd.func65, Tryd.ntmps65
    go_wp2_with (first | (go_at_call 119; refine g.mono ?_; rintro e w' ⟨rfl, rfl⟩) | (go_at_call 62; refine g2.mono ?_; rintro e w' ⟨rfl, rfl⟩))
    go_ret
    exact ⟨rfl, rfl⟩
  · have g := slot_bytes H w h oop i p n ho hi
    clear h ho
    go_enter Tryd.func65, Tryd.ntmps65
    go_wp2_with (first | (go_at_call 119; refine g.mono ?_; rintro e w' ⟨rfl, rfl⟩) | (go_at_call 62; refine g2.mono ?_; rintro e w' ⟨rfl, rfl⟩))
    go_ret
    exact ⟨rfl, rfl⟩

theorem put_ok_words (H : Hc) (w : World) (h : HAt w H) (oop : Int) (i : Nat) (v : Int) (p : Nat) (n : Int) (ho : Is H oop p n 0) (hi : (i : Int) < n) (hv : mayB v 0 = true) :
    Calls Tryd.prog 65 #[H.ptr, .int .i64 oop, .int .i64 i, .int .i64 v] w fun e w' => e = .returned (.int .i64 0) ∧ HAt w' { H with words := upd H.words (p + 2 + i) v } ∧ Fr H.own w w' := by
  have g2 := may_calls v 0 w h.kd
  rw [hv] at g2
  clear hv
  have g := slot_words H w h oop i p n ho hi
  have c0 := h.c0
  have hW := h.W_le
  have hp := ho.hd.hp
  simp only [obLen, if_neg (show ¬ ((0 : Int) = 1) by decide)] at hp
  have cw := h.hw.cell (i := p + 2 + i) (by omega)
  have fz := h.hw.frozen (p + 2 + i)
  clear ho
  go_enter Tryd.func65, Tryd.ntmps65
  go_wp2_with (first | (go_at_call 119; refine g.mono ?_; rintro e w' ⟨rfl, rfl⟩) | (go_at_call 62; refine g2.mono ?_; rintro e w' ⟨rfl, rfl⟩))
  go_ret
  exact ⟨rfl, h.setWord _ v, (Fr.refl _ _).setCell (fun _ => .inr (.inl rfl)) _⟩

theorem put_ok_bytes (H : Hc) (w : World) (h : HAt w H) (oop : Int) (i : Nat) (v : Int) (p : Nat) (n : Int) (ho : Is H oop p n 1) (hi : (i : Int) < n) (hv : mayB v 1 = true)
    (hx : 0 ≤ H.words (p + 2 + i / 4)) (hx' : H.words (p + 2 + i / 4) < 4294967296) :
    Calls Tryd.prog 65 #[H.ptr, .int .i64 oop, .int .i64 i, .int .i64 v] w fun e w' =>
      e = .returned (.int .i64 0) ∧ HAt w' { H with words := upd H.words (p + 2 + i / 4) (setByte (H.words (p + 2 + i / 4)) (i % 4 * 8) v) } ∧ Fr H.own w w' := by
  have g2 := may_calls v 1 w h.kd
  rw [hv] at g2
  have hv2 : 0 ≤ v ∧ v ≤ 255 := by simpa [mayB] using hv
  obtain ⟨hv0, hv1⟩ := hv2
  clear hv
  have g := slot_bytes H w h oop i p n ho hi
  have c0 := h.c0
  have hW := h.W_le
  have hp := ho.hd.hp
  simp only [obLen, if_true] at hp
  have cw := h.hw.cell (i := p + 2 + i / 4) (by omega)
  have fz := h.hw.frozen (p + 2 + i / 4)
  clear ho
  have key : ∀ (s : Nat) (m u : Int), s + 8 ≤ 32 → i % 4 * 8 = s → m = ((255 * 2 ^ s : Nat) : Int) → u = v * ((2 ^ s : Nat) : Int) → ∀ nq,
      HAt ((w.drewN nq).setCell ⟨H.wb, p + 2 + i / 4, none⟩ (.int .i64 (bits .or .i64 (bits .andNot .i64 (H.words (p + 2 + i / 4)) m) u))) { H with words := upd H.words (p + 2 + i / 4) (setByte (H.words (p + 2 + i / 4)) (i % 4 * 8) v) } ∧
      Fr H.own w ((w.drewN nq).setCell ⟨H.wb, p + 2 + i / 4, none⟩ (.int .i64 (bits .or .i64 (bits .andNot .i64 (H.words (p + 2 + i / 4)) m) u))) := by
    intro s m u hs he hm hu nq
    rw [bits_byte _ v s m u hs hm hu hx hx' hv0 hv1, he]
    exact ⟨(h.drewN nq).setWord _ _, ((Fr.refl _ _).drewN nq).setCell (fun _ => .inr (.inl rfl)) _⟩
  have K := Lib.hid key
  clear key
  rcases (show i % 4 = 0 ∨ i % 4 = 1 ∨ i % 4 = 2 ∨ i % 4 = 3 by omega) with hr | hr | hr | hr
  all_goals
    rw [show (i : Int) % 4 = ((i % 4 : Nat) : Int) by omega, hr] at g
    have HR := Lib.hid hr
    clear hr
    go_enter Tryd.func65, Tryd.ntmps65
    go_wp2_with (first | (go_at_call 119; refine g.mono ?_; rintro e w' ⟨rfl, rfl⟩) | (go_at_call 62; refine g2.mono ?_; rintro e w' ⟨rfl, rfl⟩))
    go_quiet (fail)
    go_wp2
    go_ret
  · exact ⟨rfl, K.out 0 _ _ (by decide) (by rw [HR.out]) (by decide) (by omega) _⟩
  · exact ⟨rfl, K.out 8 _ _ (by decide) (by rw [HR.out]) (by decide) (by omega) _⟩
  · exact ⟨rfl, K.out 16 _ _ (by decide) (by rw [HR.out]) (by decide) (by omega) _⟩
  · exact ⟨rfl, K.out 24 _ _ (by decide) (by rw [HR.out]) (by decide) (by omega) _⟩
end Kiln
