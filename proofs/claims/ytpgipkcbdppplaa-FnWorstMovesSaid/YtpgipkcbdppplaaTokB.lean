/-
  The contracts of codes, tokens, states and moves. Condition: two to five states and machines.
-/
import Derived.Test.YtpgipkcbdppplaaTokA
import Derived.Test.YtpgipkcbdppplaaClone
import Derived.Test.YtpgipkcbdppplaaSl
namespace Go.Proofs.Ytpgipkcbdppplaa
set_option linter.unusedVariables false
open Go.RowKit

/-- States of a ring. -/
structure TokS (k n : Nat) (s : Nat → Nat) : Prop where
  k2 : 2 ≤ k
  k5 : k ≤ 5
  n2 : 2 ≤ n
  n5 : n ≤ 5
  lt : ∀ j, j < n → s j < k
theorem code_bd {k n : Nat} {s : Nat → Nat} (h : TokS k n s) (j : Nat) (hj : j ≤ n) : codeN k s j < 3125 :=
  Nat.lt_of_lt_of_le (code_lt j (fun i hi => h.lt i (by omega))) (pow5 h.k5 (by have := h.n5; omega))
abbrev nf (s : Nat → Nat) : Nat → Int := fun j => ((s j : Nat) : Int)
set_option maxHeartbeats 1000000 in
theorem codeOf_any (a : Option Addr) (k n c : Nat) (s : Nat → Nat) (w : World) (hT : TokS k n s) (hI : Ints w a n (nf s)) :
    Calls Try.prog 26 #[.int .i64 k, .slice a n c] w fun e w' => e = .returned (.int .i64 ((codeN k s n : Nat) : Int)) ∧ w = w' := by
  have HI := Lib.hid hI
  have HT := Lib.hid hT
  have hn5 := hT.n5
  have hk5 := hT.k5
  clear hI hT
  go_enter Try.func26, Try.ntmps26
  go_wp2_with fail
  go_loop [6, 5] (fun i v => ∃ j : Nat, j ≤ n ∧ i = .int .i64 j ∧ v = .int .i64 ((codeN k s j : Nat) : Int)) (fun i _ => n - (intOf i).toNat)
  case atStart => exact ⟨0, by omega, rfl, rfl⟩
  case round =>
    obtain ⟨j, hj, rfl, rfl⟩ := hrel
    by_cases hlt : j < n
    · have hji : (j : Int) < n := by omega
      obtain ⟨d, off, rfl, hc⟩ := HI.out j hlt
      (try dsimp only [nf] at hc)
      have hs := HT.out.lt j hlt
      have h1 := code_bd HT.out (j + 1) (by omega)
      have HS := Lib.hid (show codeN k s (j + 1) = codeN k s j * k + s j from rfl)
      rw [show codeN k s (j + 1) = codeN k s j * k + s j from rfl] at h1
      have hw := wrapMul (codeN k s j) k (by omega)
      have hw' := wrapMul' (codeN k s j) k (by omega)
      generalize codeN k s j = C at *
      generalize s j = z at *
      obtain ⟨Q, hQ⟩ : ∃ Q, Q = C * k := ⟨_, rfl⟩
      rw [← hQ] at hw hw' h1
      have HQ := Lib.hid hQ
      clear hQ
      go_wp2
      go_round
      case rel => exact ⟨j + 1, by omega, by go_num, by rw [HS.out, ← HQ.out]; go_num⟩
      case measure => simp [intOf]; omega
    · obtain rfl : j = n := by omega
      go_wp2
      go_ret
      exact ⟨rfl, rfl⟩
set_option maxHeartbeats 1000000 in
theorem number_any (a : Option Addr) (k n c : Nat) (s : Nat → Nat) (w : World) (hT : TokS k n s) (hI : Ints w a n (nf s)) :
    Calls Try.prog 43 #[.int .i64 k, .slice a n c] w fun e w' => e = .returned (.int .i64 ((codeN k s n : Nat) : Int)) ∧ w = w' := by
  have HI := Lib.hid hI
  have HT := Lib.hid hT
  have hn5 := hT.n5
  have hk5 := hT.k5
  clear hI hT
  go_enter Try.func43, Try.ntmps43
  go_wp2_with fail
  go_loop [10, 5] (fun i v => ∃ j : Nat, j ≤ n ∧ i = .int .i64 j ∧ v = .int .i64 ((codeN k s j : Nat) : Int)) (fun i _ => n - (intOf i).toNat)
  case atStart => exact ⟨0, by omega, rfl, rfl⟩
  case round =>
    obtain ⟨j, hj, rfl, rfl⟩ := hrel
    by_cases hlt : j < n
    · have hji : (j : Int) < n := by omega
      obtain ⟨d, off, rfl, hc⟩ := HI.out j hlt
      (try dsimp only [nf] at hc)
      have hs := HT.out.lt j hlt
      have h1 := code_bd HT.out (j + 1) (by omega)
      have HS := Lib.hid (show codeN k s (j + 1) = codeN k s j * k + s j from rfl)
      rw [show codeN k s (j + 1) = codeN k s j * k + s j from rfl] at h1
      have hw := wrapMul (codeN k s j) k (by omega)
      have hw' := wrapMul' (codeN k s j) k (by omega)
      generalize codeN k s j = C at *
      generalize s j = z at *
      obtain ⟨Q, hQ⟩ : ∃ Q, Q = C * k := ⟨_, rfl⟩
      rw [← hQ] at hw hw' h1
      have HQ := Lib.hid hQ
      clear hQ
      go_wp2
      go_round
      case rel => exact ⟨j + 1, by omega, by go_num, by rw [HS.out, ← HQ.out]; go_num⟩
      case measure => simp [intOf]; omega
    · obtain rfl : j = n := by omega
      go_wp2
      go_ret
      exact ⟨rfl, rfl⟩
set_option maxHeartbeats 1000000 in
theorem hasToken_any (a : Option Addr) (n c i : Nat) (s : Nat → Nat) (w : World) (hn2 : 2 ≤ n) (hn5 : n ≤ 5) (hi : i < n) (hI : Ints w a n (nf s)) :
    Calls Try.prog 49 #[.slice a n c, .int .i64 i] w fun e w' => e = .returned (.bool (tokB n s i)) ∧ ∃ q, w' = w.drewN q := by
  obtain ⟨d, off, rfl, h0⟩ := hI 0 (by omega)
  obtain ⟨_, _, e, hi'⟩ := hI i hi
  cases e
  dsimp only [nf] at h0 hi'
  by_cases hi0 : i = 0
  · subst hi0
    obtain ⟨_, _, e, hl⟩ := hI (n - 1) (by omega)
    cases e
    dsimp only [nf] at hl
    have HV : Hid (tokB n s 0 = (((s 0 : Nat) : Int) == ((s (n - 1) : Nat) : Int))) := Lib.hid (by
      unfold tokB
      rw [if_pos rfl, Bool.eq_iff_iff]
      simp
      omega)
    clear hI hi'
    rw [Nat.add_zero] at h0
    generalize ((s 0 : Nat) : Int) = x at *
    generalize ((s (n - 1) : Nat) : Int) = y at *
    have hl1 : (n : Int) - 1 < n := by omega
    have hl0 : (0 : Int) ≤ (n : Int) - 1 := by omega
    have hwr : IntKind.i64.wrap ((n : Int) - 1) = (n : Int) - 1 := by rw [IntKind.wrap_i64]; omega
    have htn : ((n : Int) - 1).toNat = n - 1 := by omega
    have hn0 : (0 : Int) < n := by omega
    have hn0n : 0 < n := by omega
    go_enter Try.func49, Try.ntmps49
    go_wp2_with fail
    go_quiet (fail)
    go_wp2
    go_ret
    exact ⟨ret_bool HV.out.symm, _, rfl⟩
  · obtain ⟨i, rfl⟩ : ∃ i', i = i' + 1 := ⟨i - 1, by omega⟩
    obtain ⟨_, _, e, hl⟩ := hI i (by omega)
    cases e
    dsimp only [nf] at hl
    have HV : Hid (tokB n s (i + 1) = (((s (i + 1) : Nat) : Int) != ((s i : Nat) : Int))) := Lib.hid (by
      unfold tokB
      rw [if_neg (by omega), Nat.add_sub_cancel, Bool.eq_iff_iff]
      simp
      omega)
    clear hI h0
    generalize ((s (i + 1) : Nat) : Int) = x at *
    generalize ((s i : Nat) : Int) = y at *
    have hb : (((i + 1 : Nat) : Int) == 0) = false := by simp; omega
    have hwr : IntKind.i64.wrap (((i + 1 : Nat) : Int) - 1) = (i : Int) := by rw [IntKind.wrap_i64]; omega
    have hwr2 : IntKind.i64.wrap ((i : Int) + 1 - 1) = (i : Int) := by rw [IntKind.wrap_i64]; omega
    have hii : (i : Int) + 1 < n := by omega
    have hii0 : (i : Int) < n := by omega
    clear hi0
    go_enter Try.func49, Try.ntmps49
    go_wp2_with fail
    go_quiet (fail)
    go_wp2
    go_ret
    exact ⟨ret_bool HV.out.symm, _, rfl⟩
end Go.Proofs.Ytpgipkcbdppplaa
