/-
  The contract of log of the laws: how often 1 must be doubled to be at least a number. Condition: a number of at most 2^40.
-/
import Derived.Test.YtdjilgbcpdlkfaaPure
namespace Go.Proofs.Ytdjilgbcpdlkfaa
open Go.RowKit

def LogIs (n r : Nat) : Prop := (∀ j, j < r → 2 ^ j < n) ∧ n ≤ 2 ^ r
theorem log_le {n r k : Nat} (h : LogIs n r) (hk : n ≤ 2 ^ k) : r ≤ k := by
  by_cases e : r ≤ k
  · exact e
  · have := h.1 k (by omega)
    omega
def LogAns (n : Nat) (w : World) (e : Ending) (w' : World) : Prop := ∃ r : Nat, r ≤ n ∧ LogIs n r ∧ e = .returned (.int .i64 r) ∧ w = w'
theorem two_pow_gt (k : Nat) : k < 2 ^ k := Nat.lt_two_pow_self
set_option maxHeartbeats 1000000 in
theorem llog_any (n : Nat) (w : World) (hn : n ≤ 60) :
    Calls Try.prog 36 #[.int .i64 n] w (LogAns n w) := by
  go_enter Try.func36, Try.ntmps36
  go_wp2_with fail
  go_loop [3] (fun i => ∃ k : Nat, k ≤ n ∧ i = .int .i64 k ∧ Hid (∀ j, j < k → 2 ^ j < n)) (fun i => n - (intOf i).toNat)
  case atStart => exact ⟨0, by omega, rfl, Lib.hid (fun j hj => absurd hj (Nat.not_lt_zero _))⟩
  case round =>
    obtain ⟨k, hk, rfl, HJ⟩ := hrel
    have CP := Lib.hid (fun w => lpower_any k w (by omega))
    have HGT := two_pow_gt k
    by_cases hlt : 2 ^ k < n
    · have HJ2 : Hid (∀ j, j < k + 1 → 2 ^ j < n) := Lib.hid (fun j hj => by
        by_cases e : j = k
        · subst e; exact hlt
        · exact HJ.out j (by omega))
      have hkn : k < n := by omega
      generalize 2 ^ k = P at *
      have hP : (P : Int) < n := by omega
      go_wp2_with fail
      refine (CP.out _).mono ?_
      rintro e w1 ⟨rfl, rfl⟩
      go_wp2
      go_round
      case rel => exact ⟨k + 1, by omega, by go_num, HJ2⟩
      case measure => simp [intOf]; omega
    · have HL : Hid (LogIs n k) := Lib.hid ⟨HJ.out, by omega⟩
      generalize 2 ^ k = P at *
      have hP : ¬ (P : Int) < n := by omega
      go_wp2_with fail
      refine (CP.out _).mono ?_
      rintro e w1 ⟨rfl, rfl⟩
      go_wp2
      go_ret
      exact ⟨k, hk, HL.out, rfl, rfl⟩
end Go.Proofs.Ytdjilgbcpdlkfaa
