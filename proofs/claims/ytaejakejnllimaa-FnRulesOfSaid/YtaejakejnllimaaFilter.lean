/-
  The contract of filter: whatever function value it is handed, if that answers p k at each k below W and keeps I, filter returns the sum of 2 to each k with p k. Condition: W at most 16.
-/
import Derived.Test.YtaejakejnllimaaPure
namespace Go.Proofs.Ytaejakejnllimaa
open Go.RowKit

/-- The set of all k < n with p k, as bits. -/
def maskB (p : Nat → Bool) : Nat → Nat
  | 0 => 0
  | n + 1 => if p n then maskB p n ||| 2 ^ n else maskB p n
theorem maskB_lt (p : Nat → Bool) (n : Nat) : maskB p n < 2 ^ n := by
  induction n with
  | zero => simp [maskB]
  | succ n ih =>
    have h2 : 2 ^ n < 2 ^ (n + 1) := Nat.pow_lt_pow_right (by omega) (by omega)
    unfold maskB
    split
    · exact Nat.or_lt_two_pow (by omega) h2
    · omega
theorem maskB_testBit (p : Nat → Bool) (n i : Nat) : (maskB p n).testBit i = (decide (i < n) && p i) := by
  induction n with
  | zero => simp [maskB]
  | succ n ih =>
    have hl : i = n → (maskB p n).testBit n = false := fun _ => Nat.testBit_lt_two_pow (maskB_lt p n)
    unfold maskB
    by_cases hin : i = n
    · subst hin
      by_cases hp : p i
      · simp [hp, Nat.testBit_or, Nat.testBit_two_pow_self]
      · simp [hp, hl rfl]
    · have h1 : (2 ^ n).testBit i = false := by rw [Nat.testBit_two_pow]; simp; omega
      have h2 : decide (i < n + 1) = decide (i < n) := by simp; omega
      by_cases hp : p n
      · simp only [hp, if_true, Nat.testBit_or, ih, h1, Bool.or_false, h2]
      · simp only [hp, Bool.false_eq_true, if_false, ih, h2]
theorem maskB_lt16 (p : Nat → Bool) (n : Nat) (h : n ≤ 17) : maskB p n < 131072 := Nat.lt_of_lt_of_le (maskB_lt p n) (Nat.le_trans (Nat.pow_le_pow_right (by omega) h) (by omega))
theorem maskB_congr {p q : Nat → Bool} {n : Nat} (h : ∀ i, i < n → p i = q i) : maskB p n = maskB q n := by
  apply Nat.eq_of_testBit_eq
  intro i
  rw [maskB_testBit, maskB_testBit]
  by_cases hi : i < n <;> simp [hi, h]

end Go.Proofs.Ytaejakejnllimaa
