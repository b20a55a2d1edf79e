/-
  The contract of equalInts of the laws on lists of one length: whether they are equal. Condition: lengths at most 2^40.
-/
import Derived.Test.YtdjilgbcpdlkfaaIsIn
namespace Go.Proofs.Ytdjilgbcpdlkfaa
open Go.RowKit

set_option maxHeartbeats 1000000 in
theorem leInts_any (a b : Option Addr) (n c d : Nat) (x y : Nat → Int) (w : World) (hn : n ≤ 1099511627776) (hx : Ints w a n x) (hy : Ints w b n y) :
    Calls Try.prog 18 #[.slice a n c, .slice b n d] w fun e w' => e = .returned (.bool (!anyB (fun i => x i != y i) n)) ∧ Keeps w w' := by
  have HX := Lib.hid hx
  have HY := Lib.hid hy
  clear hx hy
  have hne : ((n : Int) != (n : Int)) = false := by simp
  go_enter Try.func18, Try.ntmps18
  go_wp2_with fail
  go_loopw [5] (fun i wr => ∃ k : Nat, k ≤ n ∧ i = .int .i64 k ∧ Hid (anyB (fun i => x i != y i) k = false) ∧ Keeps w wr) (fun i _ => n - (intOf i).toNat)
  case atStart => exact ⟨0, by omega, rfl, Lib.hid rfl, Keeps.refl _⟩
  case round =>
    obtain ⟨k, hk, rfl, HA, hK⟩ := hrel
    by_cases hlt : k < n
    · have hlt' : (k : Int) < n := by omega
      obtain ⟨d1, o1, e1, h1⟩ := HX.out k hlt
      obtain ⟨d2, o2, e2, h2⟩ := HY.out k hlt
      subst e1
      subst e2
      have h1' := cell_keeps hK h1
      have h2' := cell_keeps hK h2
      have HS := Lib.hid (show anyB (fun i => x i != y i) (k + 1) = (anyB (fun i => x i != y i) k || (x k != y k)) from rfl)
      have HF : Hid (∀ h : (x k != y k) = true, (!anyB (fun i => x i != y i) n) = false) := Lib.hid (fun h => by
        rw [anyB_ext (j := k) (by rw [HS.out, h]; simp) hlt]; rfl)
      clear h1 h2
      cases hq : (x k != y k)
      · go_wp2_with fail
        go_quiet (fail)
        go_wp2
        go_roundw
        case rel => exact ⟨k + 1, by omega, by go_num, Lib.hid (by rw [HS.out, HA.out, hq]; rfl), hK.step (Keeps.drewN _ _)⟩
        case measure => first | (simp [intOf]; done) | (simp [intOf]; omega)
      · have HF2 := Lib.hid (HF.out hq)
        clear HF
        go_wp2_with fail
        go_quiet (fail)
        go_wp2
        go_ret
        exact ⟨ret_bool HF2.out.symm, hK.step (Keeps.drewN _ _)⟩
    · have : k = n := by omega
      subst this
      go_wp2
      go_ret
      exact ⟨ret_bool (by rw [HA.out]; rfl), hK⟩
end Go.Proofs.Ytdjilgbcpdlkfaa
