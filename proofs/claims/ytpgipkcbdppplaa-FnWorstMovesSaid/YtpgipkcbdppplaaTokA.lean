/-
  The contracts of the numbers of tokens: powers, codes. Condition: at most five states and machines.
-/
import Derived.Test.YtpgipkcbdppplaaTokSol
import Derived.Test.YtpgipkcbdppplaaOwnSet
import Derived.Test.YtpgipkcbdppplaaPure
namespace Go.Proofs.Ytpgipkcbdppplaa
set_option linter.unusedVariables false
open Go.RowKit

theorem pow5 {k n : Nat} (hk : k ≤ 5) (hn : n ≤ 5) : k ^ n ≤ 3125 := Nat.le_trans (Nat.pow_le_pow_left hk n) (Nat.le_trans (Nat.pow_le_pow_right (by omega) hn) (by decide))
theorem wrapMul (a b : Nat) (h : a * b < 1000000) : wrap64 ((a : Int) * (b : Int)) = ((a * b : Nat) : Int) := by
  rw [← Int.natCast_mul]
  exact IntWalk.wrap64_in _ (by omega)
theorem wrapMul' (a b : Nat) (h : a * b < 1000000) : IntKind.i64.wrap ((a : Int) * (b : Int)) = ((a * b : Nat) : Int) := by
  rw [← Int.natCast_mul, IntKind.wrap_i64]
  omega
set_option maxHeartbeats 1000000 in
theorem times_any (k n : Nat) (w : World) (hk : k ≤ 5) (hn : n ≤ 5) : Calls Try.prog 19 #[.int .i64 k, .int .i64 n] w fun e w' => e = .returned (.int .i64 ((k ^ n : Nat) : Int)) ∧ w = w' := by
  go_enter Try.func19, Try.ntmps19
  go_wp2_with fail
  go_loop [1, 5] (fun c v => ∃ i j : Nat, i + j = n ∧ c = .int .i64 i ∧ v = .int .i64 ((k ^ j : Nat) : Int)) (fun c _ => (intOf c).toNat)
  case atStart => exact ⟨n, 0, by omega, rfl, by simp⟩
  case round =>
    obtain ⟨i, j, hij, rfl, rfl⟩ := hrel
    by_cases hlt : 0 < i
    · obtain ⟨i, rfl⟩ : ∃ i', i = i' + 1 := ⟨i - 1, by omega⟩
      have hp := pow5 (k := k) (n := j) hk (by omega)
      have hp1 := pow5 (k := k) (n := j + 1) hk (by omega)
      have HE := Lib.hid (Nat.pow_succ (n := k) (m := j))
      rw [Nat.pow_succ] at hp1
      have hw := wrapMul (k ^ j) k (by omega)
      have hw' := wrapMul' (k ^ j) k (by omega)
      generalize k ^ j = P at *
      obtain ⟨Q, hQ⟩ : ∃ Q, Q = P * k := ⟨_, rfl⟩
      rw [← hQ] at hw hw' hp1
      have HQ := Lib.hid hQ
      have hi0 : (0 : Int) < ((i + 1 : Nat) : Int) := by omega
      have hij' : i + 1 + j = n := hij
      clear hQ hij
      go_wp2
      go_round
      case rel => exact ⟨i, j + 1, by omega, by simp, by rw [HE.out, ← HQ.out]⟩
      case measure => simp [intOf]
    · obtain rfl : i = 0 := by omega
      obtain rfl : j = n := by omega
      go_wp2
      go_ret
      exact ⟨rfl, rfl⟩
set_option maxHeartbeats 1000000 in
theorem ipower_any (k n : Nat) (w : World) (hk : k ≤ 5) (hn : n ≤ 5) : Calls Try.prog 28 #[.int .i64 k, .int .i64 n] w fun e w' => e = .returned (.int .i64 ((k ^ n : Nat) : Int)) ∧ w = w' := by
  go_enter Try.func28, Try.ntmps28
  go_wp2_with fail
  go_loop [7, 5] (fun c v => ∃ j : Nat, j ≤ n ∧ c = .int .i64 j ∧ v = .int .i64 ((k ^ j : Nat) : Int)) (fun c _ => n - (intOf c).toNat)
  case atStart => exact ⟨0, by omega, rfl, by simp⟩
  case round =>
    obtain ⟨j, hj, rfl, rfl⟩ := hrel
    by_cases hlt : j < n
    · have hp := pow5 (k := k) (n := j) hk (by omega)
      have hp1 := pow5 (k := k) (n := j + 1) hk (by omega)
      have HE := Lib.hid (Nat.pow_succ (n := k) (m := j))
      rw [Nat.pow_succ] at hp1
      have hw := wrapMul (k ^ j) k (by omega)
      have hw' := wrapMul' (k ^ j) k (by omega)
      generalize k ^ j = P at *
      obtain ⟨Q, hQ⟩ : ∃ Q, Q = P * k := ⟨_, rfl⟩
      rw [← hQ] at hw hw' hp1
      have HQ := Lib.hid hQ
      have hji : (j : Int) < n := by omega
      clear hQ
      go_wp2
      go_round
      case rel => exact ⟨j + 1, by omega, by go_num, by rw [HE.out, ← HQ.out]⟩
      case measure => simp [intOf]; omega
    · obtain rfl : j = n := by omega
      go_wp2
      go_ret
      exact ⟨rfl, rfl⟩
end Go.Proofs.Ytpgipkcbdppplaa
