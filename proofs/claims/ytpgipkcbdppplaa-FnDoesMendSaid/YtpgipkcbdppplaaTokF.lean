/-
  The contracts of validTokens, WorstMoves and DoesMend of the reference. No condition but lengths at most 2^40.
-/
import Derived.Test.YtpgipkcbdppplaaTokE
namespace Go.Proofs.Ytpgipkcbdppplaa
set_option linter.unusedVariables false
open Go.RowKit

def tokOkB (k : Int) (n : Nat) (x : Nat → Int) : Bool := (inB k 2 5 && inB n 2 5) && !anyB (fun j => !inB (x j) 0 (k - 1)) n
theorem tokOk_true {k : Int} {n : Nat} {x : Nat → Int} (h : tokOkB k n x = true) : ∃ kk : Nat, k = kk ∧ TokS kk n (fun j => (x j).toNat) ∧ ∀ j, j < n → x j = nf (fun j => (x j).toNat) j := by
  unfold tokOkB at h
  simp only [Bool.and_eq_true, Bool.not_eq_true'] at h
  obtain ⟨⟨h1, h2⟩, h3⟩ := h
  have h1 := inB_true h1
  have h2 := inB_true h2
  rw [anyB_false] at h3
  have hx : ∀ j, j < n → 0 ≤ x j ∧ x j ≤ k - 1 := fun j hj => by
    have := h3 j hj
    exact inB_true (by simpa using this)
  obtain ⟨kk, rfl⟩ := Int.eq_ofNat_of_zero_le (show 0 ≤ k by omega)
  exact ⟨kk, rfl, ⟨by omega, by omega, by omega, by omega, fun j hj => by have := hx j hj; omega⟩, fun j hj => by have := hx j hj; dsimp only [nf]; omega⟩
theorem anyB_hit {p : Nat → Bool} {n j : Nat} (h : p j = true) (hj : j < n) : anyB p n = true := (anyB_iff _ _).2 ⟨j, hj, h⟩
set_option maxHeartbeats 1000000 in
theorem svalidTokens_any (k : Int) (a : Option Addr) (n c : Nat) (x : Nat → Int) (w : World) (hn : n ≤ 9223372036854775807) (hI : Ints w a n x) :
    Calls Try.prog 25 #[.int .i64 k, .slice a n c] w fun e w' => e = .returned (.bool (tokOkB k n x)) ∧ w = w' := by
  have HI := Lib.hid hI
  clear hI
  obtain ⟨km, hkm⟩ : ∃ km, km = IntKind.i64.wrap (k - 1) := ⟨_, rfl⟩
  have hkm' : wrap64 (k - 1) = km := by rw [hkm, IntKind.wrap_i64]; unfold wrap64; omega
  have HKM : Hid (inB k 2 5 = true → km = k - 1) := Lib.hid (fun h => by have := inB_true h; rw [hkm, IntKind.wrap_i64]; omega)
  have hkm2 := hkm.symm
  clear hkm
  go_enter Try.func25, Try.ntmps25
  go_wp2_with fail
  go_loop [5] (fun i => ∃ j : Nat, j ≤ n ∧ i = .int .i64 j ∧ Hid (anyB (fun j => !inB (x j) 0 km) j = false)) (fun i => n - (intOf i).toNat)
  case atStart => exact ⟨0, by omega, rfl, Lib.hid rfl⟩
  case round =>
    obtain ⟨j, hj, rfl, HA⟩ := hrel
    by_cases hlt : j < n
    · have hji : (j : Int) < n := by omega
      obtain ⟨d, off, rfl, hc⟩ := HI.out j hlt
      have HB : Hid (inB (x j) 0 km = false → tokOkB k n x = false) := Lib.hid (fun h => by
        unfold tokOkB
        cases hk : inB k 2 5
        · simp
        · rw [anyB_hit (j := j) (by rw [← HKM.out hk, h]; rfl) hlt]
          simp)
      have HN : Hid (inB (x j) 0 km = true → anyB (fun j => !inB (x j) 0 km) (j + 1) = false) := Lib.hid (fun h => by
        show (anyB (fun j => !inB (x j) 0 km) j || !inB (x j) 0 km) = false
        rw [HA.out, h]; rfl)
      generalize x j = z at *
      have CR := Lib.hid (fun w => inRange_any z 0 km w)
      cases hz : inB z 0 km
      · have HB2 := Lib.hid (HB.out hz)
        rw [hz] at CR
        clear hz
        go_wp2_with fail
        refine (CR.out _).mono ?_
        rintro e w1 ⟨rfl, rfl⟩
        go_wp2
        go_ret
        exact ⟨ret_bool HB2.out.symm, rfl⟩
      · have HN2 := Lib.hid (HN.out hz)
        rw [hz] at CR
        clear hz
        go_wp2_with fail
        refine (CR.out _).mono ?_
        rintro e w1 ⟨rfl, rfl⟩
        go_wp2
        go_round
        case rel => exact ⟨j + 1, by omega, by go_num, HN2⟩
        case measure => simp [intOf]; omega
    · obtain rfl : n = j := by omega
      have HT : Hid (tokOkB k n x = (inB k 2 5 && inB n 2 5)) := Lib.hid (by
        unfold tokOkB
        cases hk : inB k 2 5
        · simp
        · rw [← HKM.out hk, HA.out]; simp)
      have CK := Lib.hid (fun w => inRange_any k 2 5 w)
      have CN := Lib.hid (fun w => inRange_any n 2 5 w)
      cases hk : inB k 2 5
      · rw [hk] at CK HT
        clear hk
        go_wp2_with fail
        refine (CK.out _).mono ?_
        rintro e w1 ⟨rfl, rfl⟩
        go_wp2
        go_ret
        exact ⟨ret_bool (by rw [HT.out]; rfl), rfl⟩
      · rw [hk] at CK HT
        clear hk
        go_wp2_with fail
        refine (CK.out _).mono ?_
        rintro e w1 ⟨rfl, rfl⟩
        go_wp2_with fail
        refine (CN.out _).mono ?_
        rintro e w1 ⟨rfl, rfl⟩
        go_wp2
        go_ret
        exact ⟨ret_bool (by rw [HT.out, Bool.true_and]), rfl⟩
/-- Whether numbers are those of a ring that may be looked at. -/
def ringB (k n : Int) : Bool := (inB n 2 5 && inB k 2 5) && decide (k.toNat ^ n.toNat ≤ 1024)
theorem ringB_true {k n : Int} (h : ringB k n = true) : ∃ kk nn : Nat, k = kk ∧ n = nn ∧ 2 ≤ kk ∧ kk ≤ 5 ∧ 2 ≤ nn ∧ nn ≤ 5 ∧ kk ^ nn ≤ 1024 := by
  unfold ringB at h
  simp only [Bool.and_eq_true, decide_eq_true_eq] at h
  obtain ⟨⟨h1, h2⟩, h3⟩ := h
  have h1 := inB_true h1
  have h2 := inB_true h2
  exact ⟨k.toNat, n.toNat, by omega, by omega, by omega, by omega, by omega, by omega, h3⟩
/-- Whether there is an end from all states. -/
def mendB (f : Nat → Int) (N : Nat) : Bool := !anyB (fun x => decide (f x < 0)) N
theorem sDoesMend_no (k n : Int) (w : World) (h : ringB k n = false) :
    Calls Try.prog 7 #[.int .i64 k, .int .i64 n] w fun e w' => e = .returned (.bool false) ∧ Keeps w w' := by
  have CK := Lib.hid (fun w => inRange_any k 2 5 w)
  have CN := Lib.hid (fun w => inRange_any n 2 5 w)
  cases hk : inB k 2 5
  · rw [hk] at CK
    clear hk h
    go_enter Try.func7, Try.ntmps7
    go_wp2_with fail
    refine (CK.out _).mono ?_
    rintro e w1 ⟨rfl, rfl⟩
    go_wp2
    go_ret
    exact ⟨rfl, Keeps.refl _⟩
  · cases hn : inB n 2 5
    · rw [hk] at CK
      rw [hn] at CN
      clear hk hn h
      go_enter Try.func7, Try.ntmps7
      go_wp2_with fail
      refine (CK.out _).mono ?_
      rintro e w1 ⟨rfl, rfl⟩
      go_wp2_with fail
      refine (CN.out _).mono ?_
      rintro e w1 ⟨rfl, rfl⟩
      go_wp2
      go_ret
      exact ⟨rfl, Keeps.refl _⟩
    · have h1 := inB_true hk
      have h2 := inB_true hn
      obtain ⟨k, rfl⟩ := Int.eq_ofNat_of_zero_le (show 0 ≤ k by omega)
      obtain ⟨n, rfl⟩ := Int.eq_ofNat_of_zero_le (show 0 ≤ n by omega)
      have hb : 1024 < k ^ n := by
        unfold ringB at h
        rw [hk, hn] at h
        simp only [Bool.and_self, Bool.true_and, decide_eq_false_iff_not, Int.toNat_natCast] at h
        omega
      have CT := Lib.hid (fun w => times_any k n w (by omega) (by omega))
      rw [hk] at CK
      rw [hn] at CN
      clear hk hn h h1 h2
      generalize k ^ n = N at *
      have hbi : (1024 : Int) < (N : Int) := by omega
      go_enter Try.func7, Try.ntmps7
      go_wp2_with fail
      refine (CK.out _).mono ?_
      rintro e w1 ⟨rfl, rfl⟩
      go_wp2_with fail
      refine (CN.out _).mono ?_
      rintro e w1 ⟨rfl, rfl⟩
      go_wp2_with fail
      refine (CT.out _).mono ?_
      rintro e w1 ⟨rfl, rfl⟩
      go_wp2
      go_ret
      exact ⟨rfl, Keeps.refl _⟩
theorem sDoesMend_yes (k n : Nat) (f : Nat → Int) (w : World) (hk2 : 2 ≤ k) (hk5 : k ≤ 5) (hn2 : 2 ≤ n) (hn5 : n ≤ 5) (hN : k ^ n ≤ 1024) (hf : SolD k n f) :
    Calls Try.prog 7 #[.int .i64 k, .int .i64 n] w fun e w' => e = .returned (.bool (mendB f (k ^ n))) ∧ Keeps w w' := by
  have CK := Lib.hid (fun w => inRange_any k 2 5 w)
  have CN := Lib.hid (fun w => inRange_any n 2 5 w)
  rw [inB_mk (show (2 : Int) ≤ (k : Int) by omega) (by omega)] at CK
  rw [inB_mk (show (2 : Int) ≤ (n : Int) by omega) (by omega)] at CN
  have CT := Lib.hid (fun w => times_any k n w (by omega) (by omega))
  have CW := Lib.hid (fun w => worst_any k n f w hk2 hk5 hn2 hn5 hf)
  clear hf
  generalize k ^ n = N at *
  have hbi : ¬ (1024 : Int) < (N : Int) := by omega
  go_enter Try.func7, Try.ntmps7
  go_wp2_with fail
  refine (CK.out _).mono ?_
  rintro e w1 ⟨rfl, rfl⟩
  go_wp2_with fail
  refine (CN.out _).mono ?_
  rintro e w1 ⟨rfl, rfl⟩
  go_wp2_with fail
  refine (CT.out _).mono ?_
  rintro e w1 ⟨rfl, rfl⟩
  go_wp2_with fail
  refine (CW.out _).mono ?_
  rintro e w1 ⟨g, c, rfl, hO, hK⟩
  have HO := Lib.hid hO
  clear hO CK CN CT CW
  go_wp2_with fail
  go_loop [6] (fun i => ∃ x : Nat, x ≤ N ∧ i = .int .i64 x ∧ Hid (anyB (fun x => decide (f x < 0)) x = false)) (fun i => N - (intOf i).toNat)
  case atStart => exact ⟨0, by omega, rfl, Lib.hid rfl⟩
  case round =>
    obtain ⟨x, hx, rfl, HA⟩ := hrel
    by_cases hlt : x < N
    · have hxi : (x : Int) < N := by omega
      have hc := HO.out.cell x hlt
      rw [il_getD N f x hlt] at hc
      have HS := Lib.hid (show anyB (fun x => decide (f x < 0)) (x + 1) = (anyB (fun x => decide (f x < 0)) x || decide (f x < 0)) from rfl)
      have HF : Hid (f x < 0 → mendB f N = false) := Lib.hid (fun h => by unfold mendB; rw [anyB_hit (j := x) (by simpa using h) hlt]; rfl)
      generalize f x = y at *
      by_cases hy : y < 0
      · have HF2 := Lib.hid (HF.out hy)
        clear HF
        go_wp2
        go_ret
        exact ⟨ret_bool HF2.out.symm, hK⟩
      · have HS2 : Hid (anyB (fun x => decide (f x < 0)) (x + 1) = false) := Lib.hid (by rw [HS.out, HA.out]; simpa using hy)
        go_wp2
        go_round
        case rel => exact ⟨x + 1, by omega, by go_num, HS2⟩
        case measure => simp [intOf]; omega
    · obtain rfl : N = x := by omega
      go_wp2
      go_ret
      exact ⟨ret_bool (by unfold mendB; rw [HA.out]; rfl), hK⟩
end Go.Proofs.Ytpgipkcbdppplaa
