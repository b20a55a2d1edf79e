/-
  What is seen stays seen, and without stops all is seen after a round. Plain Lean. Condition: a valid run.
-/
import Derived.Test.YtepgogaoppdllaaSeenAfter
import Derived.Test.YtepgogaoppdllaaEq
namespace Go.Proofs.Ytepgogaoppdllaa
open Go.RowKit

theorem orN_mem (f : Nat → Bool) (g : Nat → Nat) (acc i : Nat) : ∀ N k, k < N → f k = true → (g k).testBit i = true → (orN f g acc N).testBit i = true
  | 0, k, h, _, _ => absurd h (Nat.not_lt_zero _)
  | N + 1, k, h, hf, hg => by
    simp only [orN]
    by_cases e : k = N
    · subst e
      rw [if_pos hf, Nat.testBit_or, hg, Bool.or_true]
    · have ih := orN_mem f g acc i N k (by omega) hf hg
      split
      · rw [Nat.testBit_or, ih, Bool.true_or]
      · exact ih
theorem aft_mono (n : Nat) (st : Nat → Int × Int × Int) (m k p : Nat) : aft n st m (k + 1) p &&& aft n st m k p = aft n st m k p := by
  have h : aft n st m (k + 1) p ||| aft n st m k p = aft n st m (k + 1) p := by
    simp only [aft]
    split
    · exact Nat.or_self _
    · exact orN_acc _ _ _ _
  apply Nat.eq_of_testBit_eq
  intro i
  have hi : (aft n st m (k + 1) p ||| aft n st m k p).testBit i = (aft n st m (k + 1) p).testBit i := by rw [h]
  rw [Nat.testBit_or] at hi
  rw [Nat.testBit_and]
  cases h1 : (aft n st m (k + 1) p).testBit i <;> cases h2 : (aft n st m k p).testBit i <;> simp_all
/-- One round less. -/
theorem aft_less (n : Nat) (st : Nat → Int × Int × Int) (m R p : Nat) : aft n st m R p &&& aft n st m (R - 1) p = aft n st m (R - 1) p := by
  cases R with
  | zero => exact Nat.and_self _
  | succ k => exact aft_mono n st m k p
theorem aft_self_bit (n : Nat) (st : Nat → Int × Int × Int) (m : Nat) : ∀ k p, (aft n st m k p).testBit p = true
  | 0, p => by simp [aft]
  | k + 1, p => by
    have h := congrArg (fun z => z.testBit p) (aft_mono n st m k p)
    simp only [Nat.testBit_and, aft_self_bit n st m k p] at h
    simpa using h
/-- Without stops. -/
theorem aft_all (n : Nat) (st : Nat → Int × Int × Int) (k p : Nat) (hk : k + 1 ≤ 4) (hp : p < n) : aft n st 0 (k + 1) p = 2 ^ n - 1 := by
  apply Nat.eq_of_testBit_eq
  intro i
  rw [Nat.testBit_two_pow_sub_one]
  by_cases hi : i < n
  · have hs : ∀ q : Int, stopF st 0 q = (q, 5, 0) := fun q => rfl
    simp only [aft, hs, hi, decide_true]
    rw [if_neg (by omega)]
    refine orN_mem _ _ _ i n i hi ?_ (aft_self_bit n st 0 k i)
    unfold heard
    rw [hs]
    have : decide (((k + 1 : Nat) : Int) < 5) = true := by simp; omega
    rw [this]; rfl
  · have hl := aft_lt n st 0 (k + 1) p hp
    have : decide (i < n) = false := by simpa using hi
    rw [this]
    exact Nat.testBit_lt_two_pow (Nat.lt_of_lt_of_le hl (Nat.pow_le_pow_right (by omega) (by omega)))
theorem eOwn_true {lo lo' : Nat} (A B : Option Addr) (n c d : Nat) (L : List Int) (w : World) (hn : n ≤ 1099511627776) (hA : OwnInts w lo A n c L) (hB : OwnInts w lo' B n d L) :
    Calls Try.prog 15 #[.slice A n c, .slice B n d] w fun e w' => e = .returned (.bool true) ∧ Keeps w w' :=
  eInts_true A B n c d _ _ w hn hA.ints hB.ints (fun _ _ => rfl)
end Go.Proofs.Ytepgogaoppdllaa
