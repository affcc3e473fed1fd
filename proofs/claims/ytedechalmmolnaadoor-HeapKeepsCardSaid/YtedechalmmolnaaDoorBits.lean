/- Bits of whole numbers, in the walk's words; returned values that differ in the spelling of a number. -/
import Derived.WalkKit
import Derived.WalkLawsBesides
import Derived.WalkSpells
namespace Kiln
open Go Go.RowKit

theorem i64_and_mask (n : Int) (m : Int) (k : Nat) (hk : k ≤ 62) (hm : (BitVec.ofInt 64 m).toNat = 2 ^ k - 1) : bits .and .i64 n m = n % (2 ^ k : Nat) := by
  have key : (BitVec.ofInt 64 n &&& BitVec.ofInt 64 m).toNat = (n % ((2 ^ 64 : Nat) : Int)).toNat % 2 ^ k := by
    rw [BitVec.toNat_and, BitVec.toNat_ofInt, hm, Nat.and_two_pow_sub_one_eq_mod]
  show IntKind.i64.wrap ((BitVec.ofInt 64 n &&& BitVec.ofInt 64 m).toNat : Nat) = n % (2 ^ k : Nat)
  have hle : 2 ^ k ≤ 2 ^ 62 := Nat.pow_le_pow_right (by decide) hk
  have hpos : 0 < 2 ^ k := Nat.two_pow_pos k
  have hd : ∃ c : Nat, 2 ^ 64 = 2 ^ k * c := ⟨2 ^ (64 - k), by rw [← Nat.pow_add]; congr 1; omega⟩
  obtain ⟨c, hc⟩ := hd
  rw [key, IntKind.wrap_i64]
  have e1 : (n % ((2 ^ 64 : Nat) : Int)).toNat % 2 ^ k = (n % (2 ^ k : Nat)).toNat := by
    have h1 : ((n % ((2 ^ 64 : Nat) : Int)) % ((2 ^ k : Nat) : Int)) = n % ((2 ^ k : Nat) : Int) := by
      rw [Int.emod_emod_of_dvd]
      exact ⟨(c : Int), by rw [hc]; simp⟩
    have h2 : 0 ≤ n % ((2 ^ 64 : Nat) : Int) := Int.emod_nonneg _ (by decide)
    have h3 : 0 ≤ n % ((2 ^ k : Nat) : Int) := Int.emod_nonneg _ (by omega)
    generalize n % ((2 ^ 64 : Nat) : Int) = x at h1 h2
    obtain ⟨a, rfl⟩ := Int.eq_ofNat_of_zero_le h2
    rw [← h1, Int.toNat_natCast, ← Int.natCast_emod, Int.toNat_natCast]
  rw [e1]
  have h3 : 0 ≤ n % ((2 ^ k : Nat) : Int) := Int.emod_nonneg _ (by omega)
  have h4 : n % ((2 ^ k : Nat) : Int) < ((2 ^ k : Nat) : Int) := Int.emod_lt_of_pos _ (by omega)
  omega

theorem i64_and1 (n : Int) : bits .and .i64 n 1 = n % 2 := i64_and_mask n 1 1 (by decide) (by decide)
theorem i64_and3 (n : Int) : bits .and .i64 n 3 = n % 4 := i64_and_mask n 3 2 (by decide) (by decide)
theorem i64_and255 (n : Int) : bits .and .i64 n 255 = n % 256 := i64_and_mask n 255 8 (by decide) (by decide)

theorem i64_or1 (n f : Int) (h0 : 0 ≤ n) (h1 : n ≤ 1000000) (hf : f = 0 ∨ f = 1) : bits .or .i64 (n * 2) f = 2 * n + f := by
  have e := bits_join .i64 63 (by decide) (fun n h0 h1 => by rw [show (2 : Int) ^ 63 = 9223372036854775808 by decide] at h1; rw [IntKind.wrap_i64]; omega) 1 (n * 2) f (by omega)
    (by show n * 2 % 2 = 0; omega) (by rw [show (2 : Int) ^ 63 = 9223372036854775808 by decide]; omega) (by omega) (by show f < 2; omega) (by rw [show (2 : Int) ^ 63 = 9223372036854775808 by decide]; omega)
  omega

theorem ret_i {k : IntKind} {a b : Int} (h : a = b) : Ending.returned (.int k a) = .returned (.int k b) := by rw [h]
theorem ret_b {a b : Bool} (h : a = b) : Ending.returned (.bool a) = .returned (.bool b) := by rw [h]
theorem ret_ii {k l : IntKind} {a b c d : Int} (h : a = b) (g : c = d) : Ending.returned (.tuple #[.int k a, .int l c]) = .returned (.tuple #[.int k b, .int l d]) := by rw [h, g]
theorem ret_iii {k l m : IntKind} {a b c d e f : Int} (h : a = b) (g : c = d) (i : e = f) : Ending.returned (.tuple #[.int k a, .int l c, .int m e]) = .returned (.tuple #[.int k b, .int l d, .int m f]) := by rw [h, g, i]
theorem ret_iiii {k l m n : IntKind} {a b c d e f p q : Int} (h : a = b) (g : c = d) (i : e = f) (j : p = q) : Ending.returned (.tuple #[.int k a, .int l c, .int m e, .int n p]) = .returned (.tuple #[.int k b, .int l d, .int m f, .int n q]) := by rw [h, g, i, j]
/-- one byte of a word changed: the byte at bit s is v -/
def setByte (x : Int) (s : Nat) (v : Int) : Int := x - x / 2 ^ s % 256 * 2 ^ s + v * 2 ^ s

theorem nat_byte (a s v : Nat) (hs : s + 8 ≤ 32) (ha : a < 2 ^ 32) (hv : v < 256) :
    (a &&& (2 ^ 64 - 1 - 255 * 2 ^ s)) ||| (v * 2 ^ s) = 2 ^ (s + 8) * (a / 2 ^ (s + 8)) + (2 ^ s * v + a % 2 ^ s) := by
  have hlt : 2 ^ s * v + a % 2 ^ s < 2 ^ (s + 8) := by
    have h1 : a % 2 ^ s < 2 ^ s := Nat.mod_lt _ (Nat.two_pow_pos s)
    have h2 : 2 ^ (s + 8) = 2 ^ s * 256 := by rw [Nat.pow_add]
    have h3 : 2 ^ s * v ≤ 2 ^ s * 255 := Nat.mul_le_mul_left _ (by omega)
    omega
  have hM : 2 ^ 64 - 1 - 255 * 2 ^ s = 2 ^ (s + 8) * (2 ^ (56 - s) - 1) + (2 ^ s - 1) := by
    have e1 : 2 ^ 64 = 2 ^ (s + 8) * 2 ^ (56 - s) := by rw [← Nat.pow_add]; congr 1; omega
    have e2 : 2 ^ (s + 8) = 2 ^ s * 256 := by rw [Nat.pow_add]
    have e3 : 1 ≤ 2 ^ (56 - s) := Nat.two_pow_pos _
    have e4 : 1 ≤ 2 ^ s := Nat.two_pow_pos _
    rw [Nat.mul_sub, ← e1, e2]
    have e5 : 2 ^ s * 256 ≤ 2 ^ 64 := by
      rw [← e2]; exact Nat.pow_le_pow_right (by decide) (by omega)
    omega
  apply Nat.eq_of_testBit_eq
  intro j
  rw [Nat.testBit_or, Nat.testBit_and, hM, Nat.testBit_two_pow_mul_add _ hlt,
    Nat.testBit_two_pow_mul_add _ (show 2 ^ s - 1 < 2 ^ (s + 8) from Nat.lt_of_lt_of_le (Nat.sub_lt (Nat.two_pow_pos s) (by decide)) (Nat.pow_le_pow_right (by decide) (by omega))),
    Nat.mul_comm v, Nat.testBit_two_pow_mul_add _ (Nat.mod_lt _ (Nat.two_pow_pos s))]
  rw [Nat.testBit_two_pow_mul, Nat.testBit_two_pow_sub_one, Nat.testBit_two_pow_sub_one, Nat.testBit_mod_two_pow, Nat.testBit_div_two_pow]
  by_cases h1 : j < s
  · simp [h1, show j < s + 8 by omega, show ¬ (s ≤ j) by omega]
  · by_cases h2 : j < s + 8
    · simp [h1, h2, show s ≤ j by omega]
    · have hvj : v.testBit (j - s) = false := Nat.testBit_lt_two_pow (Nat.lt_of_lt_of_le hv (by
        have : 2 ^ 8 ≤ 2 ^ (j - s) := Nat.pow_le_pow_right (by decide) (by omega)
        simpa using this))
      have e : j - (s + 8) + (s + 8) = j := by omega
      simp only [h2, h1, if_false, hvj, Bool.and_false, Bool.or_false]
      by_cases h3 : j < 32
      · have : j - (s + 8) < 56 - s := by omega
        simp [this, e]
      · have : a.testBit j = false := Nat.testBit_lt_two_pow (Nat.lt_of_lt_of_le ha (Nat.pow_le_pow_right (by decide) (by omega)))
        simp [this, e]

theorem bits_byte (x v : Int) (s : Nat) (m u : Int) (hs : s + 8 ≤ 32) (hm : m = ((255 * 2 ^ s : Nat) : Int)) (hu : u = v * ((2 ^ s : Nat) : Int)) (hx : 0 ≤ x) (hx' : x < 4294967296) (hv : 0 ≤ v) (hv' : v ≤ 255) :
    bits .or .i64 (bits .andNot .i64 x m) u = setByte x s v := by
  obtain ⟨a, rfl⟩ := Int.eq_ofNat_of_zero_le hx
  obtain ⟨b, rfl⟩ := Int.eq_ofNat_of_zero_le hv
  subst hm
  have hmm : 255 * 2 ^ s ≤ 2 ^ 32 := by
    have : 2 ^ s ≤ 2 ^ 24 := Nat.pow_le_pow_right (by decide) (by omega)
    omega
  have ha : a < 2 ^ 32 := by omega
  have hA : a &&& (2 ^ 64 - 1 - 255 * 2 ^ s) < 2 ^ 32 := Nat.lt_of_le_of_lt Nat.and_le_left ha
  have e1 : bits .andNot .i64 (a : Int) ((255 * 2 ^ s : Nat) : Int) = ((a &&& (2 ^ 64 - 1 - 255 * 2 ^ s) : Nat) : Int) := by
    show IntKind.i64.wrap ((BitVec.ofInt 64 (a : Int) &&& ~~~BitVec.ofInt 64 ((255 * 2 ^ s : Nat) : Int)).toNat : Int) = _
    rw [BitVec.toNat_and, BitVec.toNat_not, BitVec.ofInt_natCast, BitVec.ofInt_natCast, BitVec.toNat_ofNat, BitVec.toNat_ofNat,
      Nat.mod_eq_of_lt (by omega), Nat.mod_eq_of_lt (by omega), IntKind.wrap_i64]
    generalize a &&& (2 ^ 64 - 1 - 255 * 2 ^ s) = z at hA ⊢
    omega
  have hub : b * 2 ^ s < 2 ^ 32 := by
    have : b * 2 ^ s ≤ 255 * 2 ^ s := Nat.mul_le_mul_right _ (by omega)
    have : 255 * 2 ^ s < 2 ^ 32 := by
      have : 2 ^ s ≤ 2 ^ 24 := Nat.pow_le_pow_right (by decide) (by omega)
      omega
    omega
  have e2 : u = ((b * 2 ^ s : Nat) : Int) := by rw [hu]; simp
  rw [e1, e2, (bits_nat .i64 63 (by decide) (fun n h0 h1 => by rw [show (2 : Int) ^ 63 = 9223372036854775808 by decide] at h1; rw [IntKind.wrap_i64]; omega) _ _ (by omega) (by omega)).2,
    nat_byte a s b hs ha (by omega)]
  unfold setByte
  have d1 : 2 ^ (s + 8) = 2 ^ s * 256 := by rw [Nat.pow_add]
  rw [d1]
  have d2 : (2 : Int) ^ s = ((2 ^ s : Nat) : Int) := by simp
  rw [d2]
  have hp : 0 < 2 ^ s := Nat.two_pow_pos s
  generalize hq : 2 ^ s = q at hp
  have d3 : a / (q * 256) = a / q / 256 := by rw [Nat.div_div_eq_div_mul]
  rw [d3]
  have d4 := Nat.div_add_mod a q
  have d5 := Nat.div_add_mod (a / q) 256
  have d6 : ((a : Int) / (q : Int) % 256) = ((a / q % 256 : Nat) : Int) := by simp
  rw [d6]
  generalize a / q / 256 = k at d5 ⊢
  generalize a / q % 256 = r at d5 ⊢
  generalize a % q = t at d4 ⊢
  rw [← d5] at d4
  rw [← d4]
  simp only [Int.natCast_add, Int.natCast_mul, show ((256 : Nat) : Int) = 256 from rfl]
  rw [Int.mul_add, ← Int.mul_assoc, Int.mul_comm (r : Int) (q : Int), Int.mul_comm (b : Int) (q : Int)]
  omega
end Kiln
