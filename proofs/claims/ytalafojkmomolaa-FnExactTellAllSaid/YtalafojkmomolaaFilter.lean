/-
  The contract of filter: whatever function value it is handed, if that answers p k at each k below W and keeps I, filter returns the sum of 2 to each k with p k. Condition: W at most 16.
-/
import Derived.Test.YtalafojkmomolaaPure
namespace Go.Proofs.Ytalafojkmomolaa
open Go.RowKit

/-- The set of all k < n with p k, as bits. -/
def maskB (p : Nat → Bool) : Nat → Nat
  | 0 => 0
  | n + 1 => if p n then maskB p n ||| 2 ^ n else maskB p n
theorem maskB_lt (p : Nat → Bool) (n : Nat) : maskB p n < 2 ^ n := by
  induction n with
  | zero => simp [maskB]
  | succ n ih =>
    have h2 : 2 ^ n < 2 ^ (n + 1) := Nat.pow_lt_pow_right (by omega) (by omega)
    unfold maskB
    split
    · exact Nat.or_lt_two_pow (by omega) h2
    · omega
theorem maskB_testBit (p : Nat → Bool) (n i : Nat) : (maskB p n).testBit i = (decide (i < n) && p i) := by
  induction n with
  | zero => simp [maskB]
  | succ n ih =>
    have hl : i = n → (maskB p n).testBit n = false := fun _ => Nat.testBit_lt_two_pow (maskB_lt p n)
    unfold maskB
    by_cases hin : i = n
    · subst hin
      by_cases hp : p i
      · simp [hp, Nat.testBit_or, Nat.testBit_two_pow_self]
      · simp [hp, hl rfl]
    · have h1 : (2 ^ n).testBit i = false := by rw [Nat.testBit_two_pow]; simp; omega
      have h2 : decide (i < n + 1) = decide (i < n) := by simp; omega
      by_cases hp : p n
      · simp only [hp, if_true, Nat.testBit_or, ih, h1, Bool.or_false, h2]
      · simp only [hp, Bool.false_eq_true, if_false, ih, h2]
theorem maskB_lt16 (p : Nat → Bool) (n : Nat) (h : n ≤ 17) : maskB p n < 131072 := Nat.lt_of_lt_of_le (maskB_lt p n) (Nat.le_trans (Nat.pow_le_pow_right (by omega) h) (by omega))
theorem maskB_congr {p q : Nat → Bool} {n : Nat} (h : ∀ i, i < n → p i = q i) : maskB p n = maskB q n := by
  apply Nat.eq_of_testBit_eq
  intro i
  rw [maskB_testBit, maskB_testBit]
  by_cases hi : i < n <;> simp [hi, h]

set_option maxHeartbeats 400000 in
theorem filter_any (f : Nat) (cap : Array Value) (W : Nat) (p : Nat → Bool) (I : World → Prop) (hW : W ≤ 16)
  (hf : ∀ (args : Array Value) (w : World), (callFunc f args).run Try.prog w = .ok (.enter f args) w)
  (hcl : ∀ (k : Nat) (w : World), k < W → I w → Calls Try.prog f (#[.int .i64 k] ++ cap) w fun e w' => e = .returned (.bool (p k)) ∧ I w') (w : World) (hI : I w) :
    Calls Try.prog 61 #[.int .i64 W, .func (.func f) #[] cap] w fun e w' => e = .returned (.int .i64 (maskB p W : Nat)) ∧ I w' := by
  have HC := Lib.hid hcl
  clear hcl
  go_enter Try.func61, Try.ntmps61
  go_wp2
  go_loopw [5, 8] (fun o i wr => ∃ k : Nat, k ≤ W ∧ o = .int .i64 (maskB p k : Nat) ∧ i = .int .i64 k ∧ I wr) (fun _ i _ => W - (intOf i).toNat)
  case atStart => exact ⟨0, by omega, rfl, rfl, hI⟩
  case round =>
    obtain ⟨k, hk, rfl, rfl, hIr⟩ := hrel
    by_cases hlt : k < W
    · have hm := maskB_lt16 p k (by omega)
      have HT : Hid (maskB p (k + 1) = if p k then maskB p k ||| 2 ^ k else maskB p k) := Lib.hid rfl
      go_wp2_with fail
      refine (HC.out k _ hlt hIr).mono ?_
      rintro e w1 ⟨rfl, hI1⟩
      cases hpk : p k
      · have HP := Lib.hid hpk
        clear hpk
        go_wp2
        go_roundw
        case rel => exact ⟨k + 1, by omega, by rw [HT.out, HP.out]; simp, by go_num, hI1⟩
        case measure => simp [intOf]; omega
      · have HP := Lib.hid hpk
        clear hpk
        go_wp2_with fail
        refine (with_any _ k _ (by omega) (by omega)).mono ?_
        rintro e w2 ⟨rfl, rfl⟩
        go_wp2
        go_roundw
        case rel => exact ⟨k + 1, by omega, by rw [HT.out, HP.out]; simp, by go_num, hI1⟩
        case measure => simp [intOf]; omega
    · have : k = W := by omega
      subst this
      go_wp2
      go_ret
      exact ⟨rfl, hIr⟩
end Go.Proofs.Ytalafojkmomolaa
