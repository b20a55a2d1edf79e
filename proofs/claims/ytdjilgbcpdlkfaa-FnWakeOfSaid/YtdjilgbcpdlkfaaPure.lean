/-
  The contracts of small functions on numbers: within, inRange, power, bit, has, with. Conditions: the ranges in each statement.
-/
import Derived.Test.YtdjilgbcpdlkfaaRows
import Derived.Test.YtdjilgbcpdlkfaaAid
namespace Go.Proofs.Ytdjilgbcpdlkfaa
open Go.RowKit

/-- n lies in lo..hi. -/
def inB (n lo hi : Int) : Bool := decide (lo ≤ n ∧ n ≤ hi)
theorem inB_true {n lo hi : Int} (h : inB n lo hi = true) : lo ≤ n ∧ n ≤ hi := by simpa [inB] using h
theorem inB_false {n lo hi : Int} (h : inB n lo hi = false) : n < lo ∨ hi < n := by
  have : ¬ (lo ≤ n ∧ n ≤ hi) := by simpa [inB] using h
  omega
theorem inB_mk {n lo hi : Int} (h : lo ≤ n) (k : n ≤ hi) : inB n lo hi = true := by simp [inB, h, k]
theorem inB_not {n lo hi : Int} (h : n < lo ∨ hi < n) : inB n lo hi = false := by
  have : ¬ (lo ≤ n ∧ n ≤ hi) := by omega
  simp [inB, this]

set_option maxHeartbeats 400000 in
theorem within_any (n lo hi : Int) (w : World) : Calls Try.prog 47 #[.int .i64 n, .int .i64 lo, .int .i64 hi] w fun e w' => e = .returned (.bool (inB n lo hi)) ∧ w = w' := by
  by_cases h : lo ≤ n
  · by_cases k : n ≤ hi
    · rw [inB_mk h k]
      go_enter Try.func47, Try.ntmps47
      go_wp2
      go_ret
      exact ⟨rfl, rfl⟩
    · rw [inB_not (by omega)]
      go_enter Try.func47, Try.ntmps47
      go_wp2
      go_ret
      exact ⟨rfl, rfl⟩
  · rw [inB_not (by omega)]
    go_enter Try.func47, Try.ntmps47
    go_wp2
    go_ret
    exact ⟨rfl, rfl⟩
set_option maxHeartbeats 400000 in
theorem inRange_any (n lo hi : Int) (w : World) : Calls Try.prog 51 #[.int .i64 n, .int .i64 lo, .int .i64 hi] w fun e w' => e = .returned (.bool (inB n lo hi)) ∧ w = w' := by
  by_cases h : lo ≤ n
  · by_cases k : n ≤ hi
    · rw [inB_mk h k]
      go_enter Try.func51, Try.ntmps51
      go_wp2
      go_ret
      exact ⟨rfl, rfl⟩
    · rw [inB_not (by omega)]
      go_enter Try.func51, Try.ntmps51
      go_wp2
      go_ret
      exact ⟨rfl, rfl⟩
  · rw [inB_not (by omega)]
    go_enter Try.func51, Try.ntmps51
    go_wp2
    go_ret
    exact ⟨rfl, rfl⟩

theorem pow_step (k : Nat) : (2 : Int) * ((2 ^ k : Nat) : Int) = ((2 ^ (k + 1) : Nat) : Int) := by
  rw [Nat.pow_succ]; omega
theorem pow_le62 (k : Nat) (h : k ≤ 61) : ((2 ^ k : Nat) : Int) ≤ 2305843009213693952 := by
  have := Nat.pow_le_pow_right (show 0 < 2 by omega) h
  omega
set_option maxHeartbeats 400000 in
theorem spower_any (n : Nat) (w : World) (h : n ≤ 62) : Calls Try.prog 66 #[.int .i64 n] w fun e w' => e = .returned (.int .i64 ((2 ^ n : Nat) : Int)) ∧ w = w' := by
  go_enter Try.func66, Try.ntmps66
  go_wp2
  go_loop [3, 0] (fun o m => ∃ k : Nat, k ≤ n ∧ o = .int .i64 ((2 ^ k : Nat) : Int) ∧ m = .int .i64 ((n - k : Nat) : Int)) (fun _ m => (intOf m).toNat)
  case atStart => exact ⟨0, by omega, by simp, by simp⟩
  case round =>
    obtain ⟨k, hk, rfl, rfl⟩ := hrel
    by_cases hlt : k < n
    · have h1 := pow_le62 k (by omega)
      have h2 : (0 : Int) ≤ ((2 ^ k : Nat) : Int) := Int.natCast_nonneg _
      have hs := pow_step k
      have HS := Lib.hid hs
      clear hs
      have H2 : Hid (((n - k : Nat) : Int) - 1 = ((n - (k + 1) : Nat) : Int)) := Lib.hid (by omega)
      generalize 2 ^ k = p at *
      go_wp2
      go_round
      case rel => exact ⟨k + 1, by omega, by rw [HS.out], by rw [H2.out]⟩
      case measure => simp [intOf]; omega
    · have : k = n := by omega
      subst this
      go_wp2
      go_ret
      exact ⟨rfl, rfl⟩
set_option maxHeartbeats 400000 in
theorem lpower_any (n : Nat) (w : World) (h : n ≤ 62) : Calls Try.prog 67 #[.int .i64 n] w fun e w' => e = .returned (.int .i64 ((2 ^ n : Nat) : Int)) ∧ w = w' := by
  go_enter Try.func67, Try.ntmps67
  go_wp2
  go_loop [3, 0] (fun o m => ∃ k : Nat, k ≤ n ∧ o = .int .i64 ((2 ^ k : Nat) : Int) ∧ m = .int .i64 ((n - k : Nat) : Int)) (fun _ m => (intOf m).toNat)
  case atStart => exact ⟨0, by omega, by simp, by simp⟩
  case round =>
    obtain ⟨k, hk, rfl, rfl⟩ := hrel
    by_cases hlt : k < n
    · have h1 := pow_le62 k (by omega)
      have h2 : (0 : Int) ≤ ((2 ^ k : Nat) : Int) := Int.natCast_nonneg _
      have hs := pow_step k
      have HS := Lib.hid hs
      clear hs
      have H2 : Hid (((n - k : Nat) : Int) - 1 = ((n - (k + 1) : Nat) : Int)) := Lib.hid (by omega)
      generalize 2 ^ k = p at *
      go_wp2
      go_round
      case rel => exact ⟨k + 1, by omega, by rw [HS.out], by rw [H2.out]⟩
      case measure => simp [intOf]; omega
    · have : k = n := by omega
      subst this
      go_wp2
      go_ret
      exact ⟨rfl, rfl⟩

/-- A bit as a number. -/
def bitI (b : Bool) : Int := if b then 1 else 0
theorem bit_eq (s n : Nat) : (s : Int) / ((2 ^ n : Nat) : Int) % 2 = bitI (s.testBit n) := by
  rw [Nat.testBit_eq_decide_div_mod_eq, ← Int.natCast_ediv]
  generalize s / 2 ^ n = q
  unfold bitI
  by_cases h : q % 2 = 1 <;> simp [h] <;> omega

set_option maxHeartbeats 400000 in
theorem sbit_any (s n : Nat) (w : World) (hs : s < 9223372036854775808) (h : n ≤ 62) : Calls Try.prog 89 #[.int .i64 s, .int .i64 n] w fun e w' => e = .returned (.int .i64 (bitI (s.testBit n))) ∧ w = w' := by
  have hp : (1 : Int) ≤ ((2 ^ n : Nat) : Int) := by have := Nat.two_pow_pos n; omega
  have HB : Hid ((s : Int) / ((2 ^ n : Nat) : Int) % 2 = bitI (s.testBit n)) := Lib.hid (bit_eq s n)
  have hd : (0 : Int) ≤ (s : Int) / ((2 ^ n : Nat) : Int) := Int.ediv_nonneg (by omega) (by omega)
  have hu : (s : Int) / ((2 ^ n : Nat) : Int) ≤ 9223372036854775807 := by have := Int.ediv_le_self (a := (s : Int)) ((2 ^ n : Nat) : Int) (by omega); omega
  go_enter Try.func89, Try.ntmps89
  go_wp2_with fail
  refine (spower_any n _ h).mono ?_
  rintro e w' ⟨rfl, rfl⟩
  generalize ((2 ^ n : Nat) : Int) = p at *
  go_wp2
  go_ret
  exact ⟨ret_int HB.out, rfl⟩


end Go.Proofs.Ytdjilgbcpdlkfaa
