/-
  impl's checks of a ring: ValidTokens, ringOk. Conditions: lengths below 2^63.
-/
import Derived.Test.YtpgipkcbdppplaaTokJ
import Derived.Test.YtpgipkcbdppplaaTokF
import Derived.Test.YtpgipkcbdppplaaFunc
namespace Go.Proofs.Ytpgipkcbdppplaa
set_option linter.unusedVariables false
open Go.RowKit

theorem vt1_any (b : Nat) (x k km : Int) (w : World) (hkm : wrap64 (k - 1) = km) (hc : w.cell? ⟨b, 0, none⟩ = some (.int .i64 k)) :
    Calls Try.prog 46 #[.int .i64 x, .pointer (some ⟨b, 0, none⟩)] w fun e w' => e = .returned (.bool (!inB x 0 km)) ∧ Keeps w w' := by
  have HKM := Lib.hid hkm
  go_enter Try.func46, Try.ntmps46
  go_wp2_with fail
  refine (within_any _ _ _ _).mono ?_
  rintro e w1 ⟨rfl, rfl⟩
  go_wp2_with fail
  go_ret
  exact ⟨rfl, Keeps.refl _⟩
theorem ringOk_any (k n : Int) (w : World) : Calls Try.prog 21 #[.int .i64 k, .int .i64 n] w fun e w' => e = .returned (.bool (ringB k n)) ∧ w = w' := by
  cases h1 : inB n 2 5
  · have HV : Hid (false = ringB k n) := Lib.hid (by unfold ringB; rw [h1]; simp)
    have H1 := Lib.hid h1
    clear h1
    go_enter Try.func21, Try.ntmps21
    go_wp2_with fail
    refine (within_any _ _ _ _).mono ?_
    rintro e w1 ⟨rfl, rfl⟩
    rw [H1.out]
    go_wp2_with fail
    go_ret
    exact ⟨ret_bool HV.out, rfl⟩
  · cases h2 : inB k 2 5
    · have HV : Hid (false = ringB k n) := Lib.hid (by unfold ringB; rw [h1, h2]; simp)
      have H1 := Lib.hid h1
      have H2 := Lib.hid h2
      clear h1 h2
      go_enter Try.func21, Try.ntmps21
      go_wp2_with fail
      refine (within_any _ _ _ _).mono ?_
      rintro e w1 ⟨rfl, rfl⟩
      rw [H1.out]
      go_wp2_with fail
      refine (within_any _ _ _ _).mono ?_
      rintro e w1 ⟨rfl, rfl⟩
      rw [H2.out]
      go_wp2_with fail
      go_ret
      exact ⟨ret_bool HV.out, rfl⟩
    · have b1 := inB_true h1
      have b2 := inB_true h2
      obtain ⟨kk, rfl⟩ := Int.eq_ofNat_of_zero_le (show 0 ≤ k by omega)
      obtain ⟨nn, rfl⟩ := Int.eq_ofNat_of_zero_le (show 0 ≤ n by omega)
      have HV : Hid (decide (((kk ^ nn : Nat) : Int) ≤ 1024) = ringB kk nn) := Lib.hid (by
        unfold ringB
        rw [h1, h2]
        simp only [Int.toNat_natCast, Bool.true_and]
        exact decide_eq_decide.2 (by omega))
      have H1 := Lib.hid h1
      have H2 := Lib.hid h2
      have hk : kk ≤ 5 := by omega
      have hn : nn ≤ 5 := by omega
      clear h1 h2 b1 b2
      go_enter Try.func21, Try.ntmps21
      go_wp2_with fail
      refine (within_any _ _ _ _).mono ?_
      rintro e w1 ⟨rfl, rfl⟩
      rw [H1.out]
      go_wp2_with fail
      refine (within_any _ _ _ _).mono ?_
      rintro e w1 ⟨rfl, rfl⟩
      rw [H2.out]
      go_wp2_with fail
      refine (ipower_any kk nn _ hk hn).mono ?_
      rintro e w1 ⟨rfl, rfl⟩
      go_wp2_with fail
      go_ret
      exact ⟨ret_bool HV.out, rfl⟩
theorem validTokens_any (k : Int) (a : Option Addr) (n c : Nat) (x : Nat → Int) (w : World) (hn : n ≤ 9223372036854775807) (hI : Ints w a n x) :
    Calls Try.prog 27 #[.int .i64 k, .slice a n c] w fun e w' => e = .returned (.bool (tokOkB k n x)) ∧ Keeps w w' := by
  have hmf : ∀ (fn : Fn) (first cap : Array Value) (w : World), (Instr.makeFunc fn first cap).run Try.prog w = .ok (.func fn first cap) w := fun _ _ _ _ => rfl
  have HK : Hid (Keeps w (w.alloc (.cells #[.int .i64 k] 3))) := Lib.hid (Keeps.alloc w _)
  have HI := Lib.hid (hI.keeps HK.out)
  clear hI
  cases h1 : inB k 2 5
  · have HV : Hid (false = tokOkB k n x) := Lib.hid (by unfold tokOkB; rw [h1]; simp)
    have H1 := Lib.hid h1
    clear h1
    go_enter Try.func27, Try.ntmps27
    go_wp2_with fail
    refine (within_any _ _ _ _).mono ?_
    rintro e w1 ⟨rfl, rfl⟩
    rw [H1.out]
    go_wp2_with fail
    go_ret
    exact ⟨ret_bool HV.out, HK.out⟩
  · cases h2 : inB n 2 5
    · have HV : Hid (false = tokOkB k n x) := Lib.hid (by unfold tokOkB; rw [h1, h2]; simp)
      have H1 := Lib.hid h1
      have H2 := Lib.hid h2
      clear h1 h2
      go_enter Try.func27, Try.ntmps27
      go_wp2_with fail
      refine (within_any _ _ _ _).mono ?_
      rintro e w1 ⟨rfl, rfl⟩
      rw [H1.out]
      go_wp2_with fail
      refine (within_any _ _ _ _).mono ?_
      rintro e w1 ⟨rfl, rfl⟩
      rw [H2.out]
      go_wp2_with fail
      go_ret
      exact ⟨ret_bool HV.out, HK.out⟩
    · have HV : Hid ((!anyB (fun j => !inB (x j) 0 (k - 1)) n) = tokOkB k n x) := Lib.hid (by unfold tokOkB; rw [h1, h2]; simp)
      have HKM : Hid (wrap64 (k - 1) = k - 1) := Lib.hid (by have := inB_true h1; unfold wrap64; omega)
      have HN5 : Hid (n ≤ 5) := Lib.hid (by have := inB_true h2; omega)
      have H1 := Lib.hid h1
      have H2 := Lib.hid h2
      clear h1 h2
      go_enter Try.func27, Try.ntmps27
      go_wp2_with fail
      refine (within_any _ _ _ _).mono ?_
      rintro e w1 ⟨rfl, rfl⟩
      rw [H1.out]
      go_wp2_with fail
      refine (within_any _ _ _ _).mono ?_
      rintro e w1 ⟨rfl, rfl⟩
      rw [H2.out]
      go_wp2_with fail
      refine (intcontains_any 46 #[.pointer (some ⟨w.heap.size, 0, none⟩)] a n c x (fun j => !inB (x j) 0 (k - 1)) _ (by have := HN5.out; omega) HI.out (fun _ _ => rfl) (fun j w' _ hk => vt1_any w.heap.size (x j) k (k - 1) w' HKM.out (cell_keeps hk (by simp)))).mono ?_
      rintro e w1 ⟨rfl, hk1⟩
      have HK1 := Lib.hid (HK.out.step hk1)
      clear hk1
      go_wp2_with fail
      go_ret
      exact ⟨ret_bool HV.out, HK1.out⟩
end Go.Proofs.Ytpgipkcbdppplaa
