/-
  The contracts of isIn of the laws and hasMark of the generator: whether a list has a number. Condition: a length below 2^63.
-/
import Derived.Test.YtdjilgbcpdlkfaaSl
namespace Go.Proofs.Ytdjilgbcpdlkfaa
open Go.RowKit

theorem anyB_ext {p : Nat → Bool} {n j : Nat} (h : anyB p (j + 1) = true) (hj : j < n) : anyB p n = true := by
  rw [anyB_iff] at h ⊢
  obtain ⟨k, hk, e⟩ := h
  exact ⟨k, by omega, e⟩
set_option maxHeartbeats 1000000 in
theorem lisIn_any (a : Option Addr) (n c : Nat) (x : Nat → Int) (v : Int) (w : World) (hn : n ≤ 9223372036854775807) (hI : Ints w a n x) :
    Calls Try.prog 24 #[.slice a n c, .int .i64 v] w fun e w' => e = .returned (.bool (anyB (fun i => x i == v) n)) ∧ w = w' := by
  have HI := Lib.hid hI
  clear hI
  go_enter Try.func24, Try.ntmps24
  go_wp2_with fail
  go_loop [5] (fun i => ∃ k : Nat, k ≤ n ∧ i = .int .i64 k ∧ Hid (anyB (fun i => x i == v) k = false)) (fun i => n - (intOf i).toNat)
  case atStart => exact ⟨0, by omega, rfl, Lib.hid rfl⟩
  case round =>
    obtain ⟨k, hk, rfl, HA⟩ := hrel
    by_cases hlt : k < n
    · have hki : (k : Int) < n := by omega
      obtain ⟨d, off, rfl, hc⟩ := HI.out k hlt
      cases e : (x k == v)
      · have HB : Hid (anyB (fun i => x i == v) (k + 1) = false) := Lib.hid (by show (anyB (fun i => x i == v) k || (x k == v)) = false; rw [HA.out, e]; rfl)
        go_wp2
        go_round
        case rel => exact ⟨k + 1, by omega, by go_num, HB⟩
        case measure => simp [intOf]; omega
      · have HB : Hid (anyB (fun i => x i == v) n = true) := Lib.hid (anyB_ext (j := k) (by show (anyB (fun i => x i == v) k || (x k == v)) = true; rw [e]; simp) hlt)
        go_wp2
        go_ret
        exact ⟨ret_bool HB.out.symm, rfl⟩
    · obtain rfl : k = n := by omega
      go_wp2
      go_ret
      exact ⟨ret_bool HA.out.symm, rfl⟩
set_option maxHeartbeats 1000000 in
theorem hasMark_any (a : Option Addr) (n c : Nat) (x : Nat → Int) (v : Int) (w : World) (hn : n ≤ 9223372036854775807) (hI : Ints w a n x) :
    Calls Try.prog 70 #[.slice a n c, .int .i64 v] w fun e w' => e = .returned (.bool (anyB (fun i => x i == v) n)) ∧ w = w' := by
  have HI := Lib.hid hI
  clear hI
  go_enter Try.func70, Try.ntmps70
  go_wp2_with fail
  go_loop [5] (fun i => ∃ k : Nat, k ≤ n ∧ i = .int .i64 k ∧ Hid (anyB (fun i => x i == v) k = false)) (fun i => n - (intOf i).toNat)
  case atStart => exact ⟨0, by omega, rfl, Lib.hid rfl⟩
  case round =>
    obtain ⟨k, hk, rfl, HA⟩ := hrel
    by_cases hlt : k < n
    · have hki : (k : Int) < n := by omega
      obtain ⟨d, off, rfl, hc⟩ := HI.out k hlt
      cases e : (x k == v)
      · have HB : Hid (anyB (fun i => x i == v) (k + 1) = false) := Lib.hid (by show (anyB (fun i => x i == v) k || (x k == v)) = false; rw [HA.out, e]; rfl)
        go_wp2
        go_round
        case rel => exact ⟨k + 1, by omega, by go_num, HB⟩
        case measure => simp [intOf]; omega
      · have HB : Hid (anyB (fun i => x i == v) n = true) := Lib.hid (anyB_ext (j := k) (by show (anyB (fun i => x i == v) k || (x k == v)) = true; rw [e]; simp) hlt)
        go_wp2
        go_ret
        exact ⟨ret_bool HB.out.symm, rfl⟩
    · obtain rfl : k = n := by omega
      go_wp2
      go_ret
      exact ⟨ret_bool HA.out.symm, rfl⟩
end Go.Proofs.Ytdjilgbcpdlkfaa
