/-
  The walk of laws.FnExactDoesMend. No condition.
-/
import Derived.Test.YtpgipkcbdppplaaTokN
import Derived.Test.YtpgipkcbdppplaaTokM
import Derived.Test.YtpgipkcbdppplaaTokSol
namespace Go.Proofs.Ytpgipkcbdppplaa
set_option linter.unusedVariables false
open Go.RowKit

theorem FnExactDoesMend_walk (k n : Int) (w : World) : Calls Try.prog 3 #[.int .i64 k, .int .i64 n] w fun e w' => e = .returned (.bool true) ∧ Keeps w w' := by
  have key : ∃ r : Bool, (∀ w, Calls Try.prog 7 #[.int .i64 k, .int .i64 n] w fun e w' => e = .returned (.bool r) ∧ Keeps w w') ∧ (∀ w, Calls Try.prog 8 #[.int .i64 k, .int .i64 n] w fun e w' => e = .returned (.bool r) ∧ Keeps w w') := by
    cases h : ringB k n
    · exact ⟨false, fun w => sDoesMend_no k n w h, fun w => doesMend_no k n w h⟩
    · obtain ⟨kk, nn, rfl, rfl, h1, h2, h3, h4, h5⟩ := ringB_true h
      obtain ⟨f, hf⟩ := sol_exists kk nn (by omega)
      exact ⟨mendB f (kk ^ nn), fun w => sDoesMend_yes kk nn f w h1 h2 h3 h4 h5 (hf.toD (by omega)), fun w => doesMend_yes kk nn f w hf h1 h2 h3 h4 h⟩
  obtain ⟨r, hS, hM⟩ := key
  have HS := Lib.hid hS
  have HM := Lib.hid hM
  clear hS hM
  go_enter Try.func3, Try.ntmps3
  go_wp2_with fail
  refine (HS.out w).mono ?_
  rintro e w1 ⟨rfl, hk1⟩
  have HK1 := Lib.hid hk1
  clear hk1
  go_wp2_with fail
  refine (HM.out w1).mono ?_
  rintro e w2 ⟨rfl, hk2⟩
  have HK2 := Lib.hid hk2
  clear hk2
  cases r
  · go_wp2_with fail
    go_ret
    exact ⟨rfl, HK1.out.step HK2.out⟩
  · go_wp2_with fail
    go_ret
    exact ⟨rfl, HK1.out.step HK2.out⟩
end Go.Proofs.Ytpgipkcbdppplaa
