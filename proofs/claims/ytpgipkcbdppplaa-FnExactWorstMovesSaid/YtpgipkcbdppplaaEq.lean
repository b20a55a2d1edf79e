/-
  Equal lists, and equal views, are found equal. Condition: lengths at most 2^40.
-/
import Derived.Test.YtpgipkcbdppplaaAid
import Derived.Test.YtpgipkcbdppplaaRows
import Derived.Deep.QuietTactic
import Derived.BigQuiet
import Derived.Deep.RegionHeld3
namespace Go.Proofs.Ytpgipkcbdppplaa
open Go.RowKit

set_option maxHeartbeats 1000000 in
theorem xInts_true (a b : Option Addr) (n c d : Nat) (x y : Nat → Int) (w : World) (hn : n ≤ 1099511627776) (hx : Ints w a n x) (hy : Ints w b n y) (he : ∀ i, i < n → x i = y i) :
    Calls Try.prog 12 #[.slice a n c, .slice b n d] w fun e w' => e = .returned (.bool true) ∧ Keeps w w' := by
  have HX := Lib.hid hx
  have HY := Lib.hid hy
  have HE := Lib.hid he
  clear hx hy he
  have hne : ((n : Int) != (n : Int)) = false := by simp
  go_enter Try.func12, Try.ntmps12
  go_wp2_with fail
  go_loopw [5] (fun i wr => ∃ k : Nat, k ≤ n ∧ i = .int .i64 k ∧ Keeps w wr) (fun i _ => n - (intOf i).toNat)
  case atStart => exact ⟨0, by omega, rfl, Keeps.refl _⟩
  case round =>
    obtain ⟨k, hk, rfl, hK⟩ := hrel
    by_cases hlt : k < n
    · have hlt' : (k : Int) < n := by omega
      obtain ⟨d1, o1, e1, h1⟩ := HX.out k hlt
      obtain ⟨d2, o2, e2, h2⟩ := HY.out k hlt
      subst e1
      subst e2
      have h1' := cell_keeps hK h1
      have h2' := cell_keeps hK h2
      have hE := HE.out k hlt
      rw [← hE] at h2'
      have hq : (x k != x k) = false := by simp
      clear h1 h2 hE
      go_wp2_with fail
      go_quiet (fail)
      go_wp2
      go_roundw
      case rel => exact ⟨k + 1, by omega, by go_num, hK.step (Keeps.drewN _ _)⟩
      case measure => first | (simp [intOf]; done) | (simp [intOf]; omega)
    · have : k = n := by omega
      subst this
      go_wp2
      go_ret
      exact ⟨rfl, hK⟩
end Go.Proofs.Ytpgipkcbdppplaa
