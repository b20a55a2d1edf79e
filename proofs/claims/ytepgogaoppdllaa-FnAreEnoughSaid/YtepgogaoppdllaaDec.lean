/-
  What each process decides: plain functions of the program's and of the reference's loop, and that they agree. Plain Lean. Condition: a valid run.
-/
import Derived.Test.YtepgogaoppdllaaSeenAfter
namespace Go.Proofs.Ytepgogaoppdllaa
open Go.RowKit

/-- The program's loop: the least input so far, -1 for none. -/
def decI (x : Nat → Int) (s : Nat) : Nat → Int
  | 0 => -1
  | k + 1 => if s.testBit k && (decide (decI x s k < 0) || decide (x k < decI x s k)) then x k else decI x s k
/-- The reference's loop, from a process's own input on. -/
def decS (x : Nat → Int) (s : Nat) (b : Int) : Nat → Int
  | 0 => b
  | k + 1 => if s.testBit k then min (decS x s b k) (x k) else decS x s b k
/-- What p decides after R rounds. -/
def dec (n : Nat) (x : Nat → Int) (m : Nat) (st : Nat → Int × Int × Int) (R p : Nat) : Int := if (stopF st m p).2.1 ≤ (R : Int) then -1 else decI x (aft n st m R p) n
theorem dec_same (x : Nat → Int) (s n p : Nat) (hx : ∀ i, i < n → 0 ≤ x i) : ∀ k, k ≤ n → (decI x s k = -1 ∧ decS x s (x p) k = x p ∧ ∀ i, i < k → s.testBit i = false) ∨ (0 ≤ decI x s k ∧ decS x s (x p) k = min (x p) (decI x s k) ∧ ∀ i, i < k → s.testBit i = true → decI x s k ≤ x i)
  | 0, _ => .inl ⟨rfl, rfl, fun i hi => absurd hi (Nat.not_lt_zero _)⟩
  | k + 1, hk => by
    have hxk := hx k (by omega)
    rcases dec_same x s n p hx k (by omega) with ⟨h1, h2, h3⟩ | ⟨h1, h2, h3⟩
    · simp only [decI, decS, h1, h2]
      cases e : s.testBit k
      · refine .inl ⟨by simp, by simp, fun i hi => ?_⟩
        by_cases hik : i = k
        · subst hik; exact e
        · exact h3 i (by omega)
      · refine .inr ⟨by simp; exact hxk, by simp, fun i hi hb => ?_⟩
        by_cases hik : i = k
        · subst hik; simp
        · rw [h3 i (by omega)] at hb; cases hb
    · simp only [decI, decS, h2]
      cases e : s.testBit k
      · refine .inr ⟨by simpa using h1, by simp, fun i hi hb => ?_⟩
        by_cases hik : i = k
        · subst hik; rw [e] at hb; cases hb
        · simpa using h3 i (by omega) hb
      · by_cases hl : x k < decI x s k
        · have hd : decide (x k < decI x s k) = true := by simpa using hl
          refine .inr ⟨by simp [hd]; exact hxk, by simp [hd]; omega, fun i hi hb => ?_⟩
          by_cases hik : i = k
          · subst hik; simp [hd]
          · have := h3 i (by omega) hb; simp [hd]; omega
        · have hd : decide (x k < decI x s k) = false := by simpa using hl
          have hd0 : decide (decI x s k < 0) = false := by simpa using h1
          refine .inr ⟨by simp [hd, hd0]; exact h1, by simp [hd, hd0]; omega, fun i hi hb => ?_⟩
          by_cases hik : i = k
          · subst hik; simp [hd, hd0]; omega
          · have := h3 i (by omega) hb; simp [hd, hd0]; omega
theorem dec_eq (x : Nat → Int) (s n p : Nat) (hx : ∀ i, i < n → 0 ≤ x i) (hp : p < n) (hb : s.testBit p = true) : decI x s n = decS x s (x p) n := by
  rcases dec_same x s n p hx n (Nat.le_refl _) with ⟨h1, h2, h3⟩ | ⟨h1, h2, h3⟩
  · rw [h3 p hp] at hb; cases hb
  · have := h3 p hp hb
    rw [h2]; omega
theorem orN_self_bit (f : Nat → Bool) (g : Nat → Nat) (acc p : Nat) (h : acc.testBit p = true) : ∀ k, (orN f g acc k).testBit p = true
  | 0 => h
  | k + 1 => by
    simp only [orN]
    split
    · rw [Nat.testBit_or, orN_self_bit f g acc p h k]; rfl
    · exact orN_self_bit f g acc p h k
theorem aft_self (n : Nat) (st : Nat → Int × Int × Int) (m : Nat) : ∀ k p, (aft n st m k p).testBit p = true
  | 0, p => by simp [aft]
  | k + 1, p => by
    simp only [aft]
    split
    · exact aft_self n st m k p
    · exact orN_self_bit _ _ _ _ (aft_self n st m k p) n
theorem run_in {n m : Nat} {x : Nat → Int} {st : Nat → Int × Int × Int} (h : runB n x m st = true) : ∀ i, i < n → 0 ≤ x i ∧ x i ≤ 3 := by
  intro i hi
  unfold runB at h
  rw [Bool.and_eq_true, Bool.and_eq_true] at h
  have h3 := (anyB_false _ _).1 (by simpa using h.1.2) i hi
  exact inB_true (by simpa using h3)
/-- What DecisionsAfter answers. -/
def decL (n : Nat) (x : Nat → Int) (m : Nat) (st : Nat → Int × Int × Int) (r : Int) : List Int := if okB n x m st r then il n (dec n x m st r.toNat) else []
theorem dec_bound (x : Nat → Int) (s n : Nat) (hx : ∀ i, i < n → 0 ≤ x i ∧ x i ≤ 3) : ∀ k, k ≤ n → -1 ≤ decI x s k ∧ decI x s k ≤ 3
  | 0, _ => by simp [decI]
  | k + 1, hk => by
    have := hx k (by omega)
    have ih := dec_bound x s n hx k (by omega)
    simp only [decI]
    split <;> omega
end Go.Proofs.Ytepgogaoppdllaa
