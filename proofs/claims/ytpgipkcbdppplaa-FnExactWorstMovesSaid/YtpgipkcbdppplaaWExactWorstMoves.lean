/-
  The walk of laws.FnExactWorstMoves. Conditions: lengths below 2^63.
-/
import Derived.Test.YtpgipkcbdppplaaTokN
import Derived.Test.YtpgipkcbdppplaaTokM
import Derived.Test.YtpgipkcbdppplaaTokSol
import Derived.Test.YtpgipkcbdppplaaExact
namespace Go.Proofs.Ytpgipkcbdppplaa
set_option linter.unusedVariables false
open Go.RowKit

theorem Ints.congr {w : World} {a : Option Addr} {n : Nat} {x y : Nat → Int} (h : Ints w a n x) (e : ∀ i, i < n → x i = y i) : Ints w a n y := fun i hi => by
  rw [← e i hi]; exact h i hi
theorem anyB_congrT {p q : Nat → Bool} : ∀ n, (∀ i, i < n → p i = q i) → anyB p n = anyB q n
  | 0, _ => rfl
  | n + 1, h => by
    have ih := anyB_congrT n (fun i hi => h i (by omega))
    simp only [anyB, ih, h n (by omega)]
theorem tokOkB_congr {k : Int} {n : Nat} {x y : Nat → Int} (e : ∀ i, i < n → x i = y i) : tokOkB k n x = tokOkB k n y := by
  unfold tokOkB
  rw [anyB_congrT (p := fun i => !inB (x i) 0 (k - 1)) (q := fun i => !inB (y i) 0 (k - 1)) n (fun i hi => by rw [e i hi])]
theorem worst_key (k : Int) (n : Nat) (x : Nat → Int) (hn : n ≤ 9223372036854775807) : ∃ (v : Int) (r : Bool),
    (∀ a c w, Ints w a n x → Calls Try.prog 9 #[.int .i64 k, .slice a n c] w fun e w' => e = .returned (.tuple #[.int .i64 v, .bool r]) ∧ Keeps w w') ∧
    (∀ a c w, Ints w a n x → Calls Try.prog 11 #[.int .i64 k, .slice a n c] w fun e w' => e = .returned (.tuple #[.int .i64 v, .bool r]) ∧ Keeps w w') := by
  cases h : (tokOkB k n x && decide (k.toNat ^ n ≤ 1024))
  · exact ⟨0, false, fun a c w hI => sWorstMoves_no k a n c x w hn hI h, fun a c w hI => worstMoves_no k a n c x w hn hI h⟩
  · simp only [Bool.and_eq_true, decide_eq_true_eq] at h
    obtain ⟨hok, hN⟩ := h
    obtain ⟨kk, rfl, hT, hx⟩ := tokOk_true hok
    rw [Int.toNat_natCast] at hN
    rw [tokOkB_congr hx] at hok
    generalize hs : (fun j => (x j).toNat) = s at *
    obtain ⟨f, hf⟩ := sol_exists kk n (by have := hT.k2; omega)
    have hD := hf.toD (by have := hT.k2; omega)
    by_cases h0 : 0 ≤ f (codeN kk s n)
    · refine ⟨f (codeN kk s n), true, fun a c w hI => ?_, fun a c w hI => ?_⟩
      · refine (sWorstMoves_yes kk n c a s f w hD hT hN (hI.congr hx) hok).mono ?_
        rintro e w1 ⟨⟨_, he⟩ | ⟨h1, _⟩, hk⟩
        · exact ⟨he, hk⟩
        · omega
      · refine (worstMoves_yes kk n c a s f w hf hT hN (hI.congr hx) hok).mono ?_
        rintro e w1 ⟨⟨_, he⟩ | ⟨h1, _⟩, hk⟩
        · exact ⟨he, hk⟩
        · omega
    · refine ⟨0, false, fun a c w hI => ?_, fun a c w hI => ?_⟩
      · refine (sWorstMoves_yes kk n c a s f w hD hT hN (hI.congr hx) hok).mono ?_
        rintro e w1 ⟨⟨h1, _⟩ | ⟨_, he⟩, hk⟩
        · omega
        · exact ⟨he, hk⟩
      · refine (worstMoves_yes kk n c a s f w hf hT hN (hI.congr hx) hok).mono ?_
        rintro e w1 ⟨⟨h1, _⟩ | ⟨_, he⟩, hk⟩
        · omega
        · exact ⟨he, hk⟩
set_option maxHeartbeats 1000000 in
theorem FnExactWorstMoves_walk (k : Int) (A : Option Addr) (n c : Nat) (x : Nat → Int) (w : World) (hI : Ints w A n x) (hn : n ≤ 9223372036854775807) : Calls Try.prog 4 #[.int .i64 k, .slice A n c] w fun e w' => e = .returned (.bool true) ∧ Keeps w w' := by
  by_cases hb : n ≤ 1048576
  · obtain ⟨v, r, hS, hM⟩ := worst_key k n x hn
    have HS := Lib.hid hS
    have HM := Lib.hid hM
    have HI := Lib.hid hI
    clear hS hM hI
    have hrr : (r != r) = false := by simp
    have hvv : (v != v) = false := by simp
    go_enter Try.func4, Try.ntmps4
    go_wp2_with fail
    refine (toInts_any A n c x w (by omega) HI.out).mono ?_
    rintro e w1 ⟨g1, rfl, hO1, hk1⟩
    have HO1 := Lib.hid hO1
    have HK1 := Lib.hid hk1
    clear hO1 hk1
    go_wp2_with fail
    refine (HS.out _ _ w1 (il_ints' HO1.out)).mono ?_
    rintro e w2 ⟨rfl, hk2⟩
    have HK2 := Lib.hid (HK1.out.step hk2)
    clear hk2 HO1
    go_wp2_with fail
    refine (toInts_any A n c x w2 (by omega) (HI.out.keeps HK2.out)).mono ?_
    rintro e w3 ⟨g3, rfl, hO3, hk3⟩
    have HO3 := Lib.hid hO3
    have HK3 := Lib.hid (HK2.out.step hk3)
    clear hO3 hk3
    go_wp2_with fail
    refine (HM.out _ _ w3 (il_ints' HO3.out)).mono ?_
    rintro e w4 ⟨rfl, hk4⟩
    have HK4 := Lib.hid (HK3.out.step hk4)
    have HI4 := Lib.hid (il_ints' (HO3.out.keeps hk4))
    clear hk4 HO3
    go_wp2_with fail
    refine (toInts_any A n c x w4 (by omega) (HI.out.keeps HK4.out)).mono ?_
    rintro e w5 ⟨g5, rfl, hO5, hk5⟩
    have HO5 := Lib.hid hO5
    have HK5 := Lib.hid (HK4.out.step hk5)
    have HI5 := Lib.hid (HI4.out.keeps hk5)
    clear hO5 hk5
    go_wp2_with fail
    refine (xInts_true _ _ n n n x x w5 (by omega) HI5.out (il_ints' HO5.out) (fun _ _ => rfl)).mono ?_
    rintro e w6 ⟨rfl, hk6⟩
    have HK6 := Lib.hid (HK5.out.step hk6)
    clear hk6
    go_wp2_with fail
    go_ret
    exact ⟨rfl, HK6.out⟩
  · have hbi : (1048576 : Int) < (n : Int) := by omega
    go_enter Try.func4, Try.ntmps4
    go_wp2_with fail
    go_ret
    exact ⟨rfl, Keeps.refl _⟩
end Go.Proofs.Ytpgipkcbdppplaa
