/-
  The contracts of small functions on numbers: within, inRange, power, bit, has, with. Conditions: the ranges in each statement.
-/
import Derived.Test.YtaejakejnllimaaRows
import Derived.Test.YtaejakejnllimaaAid
namespace Go.Proofs.Ytaejakejnllimaa
open Go.RowKit

/-- n lies in lo..hi. -/
def inB (n lo hi : Int) : Bool := decide (lo ≤ n ∧ n ≤ hi)
theorem inB_true {n lo hi : Int} (h : inB n lo hi = true) : lo ≤ n ∧ n ≤ hi := by simpa [inB] using h
theorem inB_false {n lo hi : Int} (h : inB n lo hi = false) : n < lo ∨ hi < n := by
  have : ¬ (lo ≤ n ∧ n ≤ hi) := by simpa [inB] using h
  omega
theorem inB_mk {n lo hi : Int} (h : lo ≤ n) (k : n ≤ hi) : inB n lo hi = true := by simp [inB, h, k]
theorem inB_not {n lo hi : Int} (h : n < lo ∨ hi < n) : inB n lo hi = false := by
  have : ¬ (lo ≤ n ∧ n ≤ hi) := by omega
  simp [inB, this]

set_option maxHeartbeats 400000 in
theorem within_any (n lo hi : Int) (w : World) : Calls Try.prog 42 #[.int .i64 n, .int .i64 lo, .int .i64 hi] w fun e w' => e = .returned (.bool (inB n lo hi)) ∧ w = w' := by
  by_cases h : lo ≤ n
  · by_cases k : n ≤ hi
    · rw [inB_mk h k]
      go_enter Try.func42, Try.ntmps42
      go_wp2
      go_ret
      exact ⟨rfl, rfl⟩
    · rw [inB_not (by omega)]
      go_enter Try.func42, Try.ntmps42
      go_wp2
      go_ret
      exact ⟨rfl, rfl⟩
  · rw [inB_not (by omega)]
    go_enter Try.func42, Try.ntmps42
    go_wp2
    go_ret
    exact ⟨rfl, rfl⟩
set_option maxHeartbeats 400000 in
theorem inRange_any (n lo hi : Int) (w : World) : Calls Try.prog 58 #[.int .i64 n, .int .i64 lo, .int .i64 hi] w fun e w' => e = .returned (.bool (inB n lo hi)) ∧ w = w' := by
  by_cases h : lo ≤ n
  · by_cases k : n ≤ hi
    · rw [inB_mk h k]
      go_enter Try.func58, Try.ntmps58
      go_wp2
      go_ret
      exact ⟨rfl, rfl⟩
    · rw [inB_not (by omega)]
      go_enter Try.func58, Try.ntmps58
      go_wp2
      go_ret
      exact ⟨rfl, rfl⟩
  · rw [inB_not (by omega)]
    go_enter Try.func58, Try.ntmps58
    go_wp2
    go_ret
    exact ⟨rfl, rfl⟩

theorem pow_step (k : Nat) : (2 : Int) * ((2 ^ k : Nat) : Int) = ((2 ^ (k + 1) : Nat) : Int) := by
  rw [Nat.pow_succ]; omega
theorem pow_le62 (k : Nat) (h : k ≤ 61) : ((2 ^ k : Nat) : Int) ≤ 2305843009213693952 := by
  have := Nat.pow_le_pow_right (show 0 < 2 by omega) h
  omega

/-- A bit as a number. -/
def bitI (b : Bool) : Int := if b then 1 else 0
theorem bit_eq (s n : Nat) : (s : Int) / ((2 ^ n : Nat) : Int) % 2 = bitI (s.testBit n) := by
  rw [Nat.testBit_eq_decide_div_mod_eq, ← Int.natCast_ediv]
  generalize s / 2 ^ n = q
  unfold bitI
  by_cases h : q % 2 = 1 <;> simp [h] <;> omega



end Go.Proofs.Ytaejakejnllimaa
