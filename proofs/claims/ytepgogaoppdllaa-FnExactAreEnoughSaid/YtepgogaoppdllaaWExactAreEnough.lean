/-
  The walk of FnExactAreEnough: whatever the numbers are, it returns true, and nothing that was there turns. No condition.
-/
import Derived.Test.YtepgogaoppdllaaSAre
namespace Go.Proofs.Ytepgogaoppdllaa
open Go.RowKit

set_option maxRecDepth 100000 in
set_option maxHeartbeats 8000000 in
theorem FnExactAreEnough_walk (n stops rounds : Int) (w : World) :
    Calls Try.prog 5 #[.int .i64 n, .int .i64 stops, .int .i64 rounds] w fun e w' => e = .returned (.bool true) ∧ Keeps w w' := by
  have HSP := Lib.hid (fun w => sare_any n stops rounds w)
  have HIM := Lib.hid (fun w => areEnough_any n stops rounds w)
  generalize enoughB n stops rounds = b at *
  have hbb : (b != b) = false := by simp
  go_enter Try.func5, Try.ntmps5
  go_wp2_with fail
  refine (HSP.out _).mono ?_
  rintro e w1 ⟨rfl, hk1⟩
  go_wp2_with fail
  refine (HIM.out _).mono ?_
  rintro e w2 ⟨rfl, hk2⟩
  go_wp2
  go_ret
  exact ⟨rfl, hk1.step hk2⟩
end Go.Proofs.Ytepgogaoppdllaa
