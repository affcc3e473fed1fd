/- Walks: num, small, alive of kilnlaw2; Alloc seen by the objects. -/
import Derived.Test.YtedechalmmolnaaDoorHeapL
import Derived.Test.YtedechalmmolnaaDoorOb4
namespace Kiln
open Go Go.RowKit Go.Proofs

theorem num2_calls (x : Int) (w : World) : Calls Tryd.prog 19 #[.int .i64 x] w fun e w' => e = .returned (.int .i64 x) ∧ w = w' := by
  go_enter Tryd.func19, Tryd.ntmps19
  go_wp2_with fail
  go_ret
  exact ⟨rfl, rfl⟩

theorem small_eq (n : Int) : (n.tmod 2048 + 2048) % 2048 = n % 2048 := by
  have h1 : n.tmod 2048 = if 0 ≤ n then n % 2048 else -((-n) % 2048) := by
    by_cases h : 0 ≤ n
    · rw [if_pos h, Int.tmod_eq_emod_of_nonneg h]
    · rw [if_neg h]
      have : n.tmod 2048 = -((-n).tmod 2048) := by rw [Int.neg_tmod, Int.neg_neg]
      rw [this, Int.tmod_eq_emod_of_nonneg (by omega)]
  rw [h1]
  split <;> omega

theorem small_calls (n : Int) (w : World) : Calls Tryd.prog 26 #[.int .i64 n] w fun e w' => e = .returned (.int .i64 (n % 2048)) ∧ w = w' := by
  have h := small_eq n
  have b1 : -2048 < n.tmod 2048 ∧ n.tmod 2048 < 2048 := by
    have := Int.tmod_lt_of_pos n (show (0 : Int) < 2048 by omega)
    have h2 := Int.lt_tmod_of_pos n (show (0 : Int) < 2048 by omega)
    omega
  have H := Lib.hid h
  clear h
  go_enter Tryd.func26, Tryd.ntmps26
  go_wp2_with fail
  go_ret
  refine ⟨?_, rfl⟩
  rw [← H.out]
  rfl

/-- the numbers that are kept beside the objects -/
structure Nums (H : Hc) (b : Int) : Prop where
  m0 : 0 ≤ H.mark
  m1 : H.mark ≤ 1073741824
  e0 : 0 ≤ H.ever
  e1 : H.ever ≤ b
  t0 : 0 ≤ H.turn
  t1 : H.turn ≤ b

theorem markN_range (m : Int) (h0 : 0 ≤ m) (h1 : m ≤ 1073741824) : 0 ≤ markN m ∧ markN m ≤ 1073741824 := by unfold markN; split <;> omega

theorem Nums.alloc {H : Hc} {b b' : Int} (h : Nums H b) (hb : b < b') (k : Nat) (c n f : Int) : Nums (allocH H k c n f) b' := by
  have := markN_range _ h.m0 h.m1
  have a1 := h.e0
  have a2 := h.e1
  have a3 := h.t0
  have a4 := h.t1
  refine ⟨this.1, this.2, ?_, ?_, h.t0, ?_⟩
  · show 0 ≤ H.ever + 1; omega
  · show H.ever + 1 ≤ b'; omega
  · show H.turn ≤ b'; omega
theorem Nums.mono {H : Hc} {b b' : Int} (h : Nums H b) (hb : b ≤ b') : Nums H b' :=
  ⟨h.m0, h.m1, h.e0, Int.le_trans h.e1 hb, h.t0, Int.le_trans h.t1 hb⟩

/-- an allocation that fits and is not marked -/
theorem alloc_fit (H : Hc) (w : World) (hA : HAt w H) (l : List Ob) (hS : Sim H l) (b : Int) (hN : Nums H b) (hb : b ≤ 4611686018427387904) (c f : Int) (n : Nat) (hc : mayB c 0 = true) (hf : f = 0 ∨ f = 1) (hn : n ≤ 8192)
    (h1 : l.length + 1 < H.T) (h2 : endOf 0 l + lenN n f ≤ H.W) (hm : H.mark ≠ 1) :
    Calls Tryd.prog 30 #[H.ptr, .int .i64 c, .int .i64 n, .int .i64 f] w fun e w' => ∃ k, e = .returned (.tuple #[.int .i64 (k : Nat), .int .i64 0]) ∧ IsLow l k ∧ k < H.T ∧ HAt w' (allocH H k c n f) ∧ Sim (allocH H k c n f) (l ++ [newOb H l k c n f]) ∧ Fr H.own w w' := by
  obtain ⟨k, q1, q2, q3, q4, q5⟩ := hS.lowest h1
  have l1 := hS.low1
  have cn := hS.cnt
  have fn := hS.fin
  have rm := hS.room
  obtain ⟨lo, hlo⟩ : ∃ lo : Nat, H.low = lo := ⟨H.low.toNat, by omega⟩
  refine (alloc_ok H w hA c n f hc hf (by omega) (by omega) (by omega) (by omega) (by omega) (by omega) (by rw [obLen_nat]; omega) hm hN.m0 hN.m1 hN.e0 (by have := hN.e1; omega) lo k hlo (by omega) q3 q4 (fun j a1 a2 => q5 j (by omega) a2)).mono ?_
  rintro e w' ⟨rfl, hA', hF⟩
  exact ⟨k, rfl, q1, q3, hA', hS.alloc k n c f q1 q3 hc hf hn h2, hF⟩

theorem alloc_no (H : Hc) (w : World) (hA : HAt w H) (l : List Ob) (hS : Sim H l) (c f : Int) (n : Nat) (hc : mayB c 0 = true) (hf : f = 0 ∨ f = 1) (hn : n ≤ 8192)
    (hx : H.T ≤ l.length + 1 ∨ H.W < endOf 0 l + lenN n f) :
    Calls Tryd.prog 30 #[H.ptr, .int .i64 c, .int .i64 n, .int .i64 f] w fun e w' => e = .returned (.tuple #[.int .i64 0, .int .i64 23]) ∧ Drew w w' := by
  have cn := hS.cnt
  have fn := hS.fin
  have rm := hS.room
  have hl := hS.len_lt hA.T_ge
  exact alloc_full H w hA c n f hc hf (by omega) (by omega) (by omega) (by omega) (by omega) (by omega) (by rw [obLen_nat]; omega)

theorem alloc_stop (H : Hc) (w : World) (hA : HAt w H) (l : List Ob) (hS : Sim H l) (c f : Int) (n : Nat) (hc : mayB c 0 = true) (hf : f = 0 ∨ f = 1) (hn : n ≤ 8192)
    (h1 : l.length + 1 < H.T) (h2 : endOf 0 l + lenN n f ≤ H.W) (hm : H.mark = 1) :
    Calls Tryd.prog 30 #[H.ptr, .int .i64 c, .int .i64 n, .int .i64 f] w fun e w' => e = .returned (.tuple #[.int .i64 0, .int .i64 24]) ∧ HAt w' { H with mark := 0 } ∧ Fr H.own w w' := by
  have cn := hS.cnt
  have fn := hS.fin
  have rm := hS.room
  exact alloc_marked H w hA c n f hc hf (by omega) (by omega) (by omega) (by omega) (by omega) (by omega) (by rw [obLen_nat]; omega) hm
end Kiln
