/- Pure: the kinds of words, an object's length, and small facts on whole numbers. No program in sight. -/
namespace Kiln

/-- which kind of word a number is: 0 none, 1 an integer, 2 a symbol, 3 an object -/
def kindOf (w : Int) : Int :=
  if w % 2 = 1 then (if -2147483647 ≤ w ∧ w ≤ 2147483647 then 1 else 0)
  else if w % 4 = 2 then (if 0 ≤ w ∧ w < 16384 then 2 else 0)
  else (if 0 < w ∧ w ≤ 262144 then 3 else 0)

theorem kindOf_range (w : Int) : 0 ≤ kindOf w ∧ kindOf w ≤ 3 := by
  unfold kindOf; (repeat' split) <;> omega

/-- how many words an object takes -/
def obLen (n f : Int) : Int := if f = 1 then 2 + (n + 3) / 4 else 2 + n

theorem obLen_ge (n f : Int) (h : 0 ≤ n) : 2 ≤ obLen n f := by unfold obLen; split <;> omega
theorem obLen_le (n f : Int) (h : 0 ≤ n) : obLen n f ≤ 2 + n := by unfold obLen; split <;> omega

/-- may a slot of that format have it? -/
def mayB (w f : Int) : Bool := if f = 1 then decide (0 ≤ w ∧ w ≤ 255) else decide (kindOf w ≠ 0)

end Kiln
