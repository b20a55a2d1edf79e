/-
  spec.WorstMoves. Conditions: lengths below 2^63.
-/
import Derived.Test.YtpgipkcbdppplaaTokF
namespace Go.Proofs.Ytpgipkcbdppplaa
set_option linter.unusedVariables false
open Go.RowKit

theorem sWorstMoves_yes (k n c : Nat) (a : Option Addr) (s : Nat → Nat) (f : Nat → Int) (w : World) (hf : SolD k n f) (hT : TokS k n s) (hN : k ^ n ≤ 1024) (hI : Ints w a n (nf s)) (hok : tokOkB k n (nf s) = true) :
    Calls Try.prog 9 #[.int .i64 k, .slice a n c] w fun e w' => ((0 ≤ f (codeN k s n) ∧ e = .returned (.tuple #[.int .i64 (f (codeN k s n)), .bool true])) ∨ (f (codeN k s n) < 0 ∧ e = .returned (.tuple #[.int .i64 0, .bool false]))) ∧ Keeps w w' := by
  have CV := Lib.hid (svalidTokens_any k a n c (nf s) w (by have := hT.n5; omega) hI)
  rw [hok] at CV
  have CT := Lib.hid (fun w => times_any k n w (by have := hT.k5; omega) (by have := hT.n5; omega))
  have CW := Lib.hid (fun w => worst_any k n f w hT.k2 hT.k5 hT.n2 hT.n5 hf)
  have HI := Lib.hid hI
  have HT := Lib.hid hT
  have hcode := code_lt (k := k) n hT.lt
  obtain ⟨X, hX⟩ : ∃ X, X = codeN k s n := ⟨_, rfl⟩
  have CC := Lib.hid (fun (w1 : World) (h : Keeps w w1) => codeOf_any a k n c s w1 hT (hI.keeps h))
  rw [← hX] at CC hcode ⊢
  clear hf hT hI hok hX
  generalize k ^ n = N at *
  have hbi : ¬ (1024 : Int) < (N : Int) := by omega
  go_enter Try.func9, Try.ntmps9
  go_wp2_with fail
  refine CV.out.mono ?_
  rintro e w1 ⟨rfl, rfl⟩
  go_wp2_with fail
  refine (CT.out _).mono ?_
  rintro e w1 ⟨rfl, rfl⟩
  go_wp2_with fail
  refine (CW.out _).mono ?_
  rintro e w1 ⟨g, c1, rfl, hO, hK⟩
  have HO := Lib.hid hO
  have HK := Lib.hid hK
  clear hO hK CV CT CW
  go_wp2_with fail
  refine (CC.out _ HK.out).mono ?_
  rintro e w2 ⟨rfl, rfl⟩
  have hc := HO.out.cell X hcode
  rw [il_getD N f X hcode] at hc
  obtain ⟨y, hyX⟩ : ∃ y, y = f X := ⟨_, rfl⟩
  rw [← hyX] at hc
  have HYX := Lib.hid hyX
  clear hyX
  by_cases hy : 0 ≤ y
  · go_wp2_with fail
    go_ret2
    rw [← HYX.out]
    exact ⟨.inl ⟨hy, rfl⟩, HK.out⟩
  · have hd : decide (0 ≤ y) = false := decide_eq_false hy
    go_wp2_with fail
    go_ret2
    rw [← HYX.out]
    refine ⟨.inr ⟨by omega, ?_⟩, HK.out⟩
    simp
theorem sWorstMoves_no (k : Int) (a : Option Addr) (n c : Nat) (x : Nat → Int) (w : World) (hn : n ≤ 9223372036854775807) (hI : Ints w a n x) (h : (tokOkB k n x && decide (k.toNat ^ n ≤ 1024)) = false) :
    Calls Try.prog 9 #[.int .i64 k, .slice a n c] w fun e w' => e = .returned (.tuple #[.int .i64 0, .bool false]) ∧ Keeps w w' := by
  have CV := Lib.hid (svalidTokens_any k a n c x w hn hI)
  clear hI
  cases hok : tokOkB k n x
  · rw [hok] at CV
    clear hok h
    go_enter Try.func9, Try.ntmps9
    go_wp2_with fail
    refine CV.out.mono ?_
    rintro e w1 ⟨rfl, rfl⟩
    go_wp2_with fail
    go_ret2
    exact ⟨rfl, Keeps.refl _⟩
  · rw [hok] at CV h
    obtain ⟨kk, rfl, hT, _⟩ := tokOk_true hok
    have CT := Lib.hid (fun w => times_any kk n w (by have := hT.k5; omega) (by have := hT.n5; omega))
    simp only [Int.toNat_natCast, Bool.true_and, decide_eq_false_iff_not] at h
    clear hok hT
    generalize kk ^ n = N at *
    have hbi : (1024 : Int) < (N : Int) := by omega
    go_enter Try.func9, Try.ntmps9
    go_wp2_with fail
    refine CV.out.mono ?_
    rintro e w1 ⟨rfl, rfl⟩
    go_wp2_with fail
    refine (CT.out _).mono ?_
    rintro e w1 ⟨rfl, rfl⟩
    go_wp2_with fail
    go_ret2
    exact ⟨rfl, Keeps.refl _⟩
end Go.Proofs.Ytpgipkcbdppplaa
