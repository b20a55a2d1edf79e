/-
  Plain laws of the ring's election: how far a mark goes, and where the greatest one stands. No condition.
-/
import Derived.Lib.Hide
namespace Go.Proofs.YtlniogfinofakaaGreatDoor
set_option maxRecDepth 100000
set_option linter.unusedVariables false

/-- The first k from k0 on at which the mark of v is not less, at most f on. -/
def runE (x : Nat → Int) (m v : Nat) : Nat → Nat → Nat
  | 0, k => k
  | f + 1, k => if x ((v + k) % m) < x v then runE x m v f (k + 1) else k
def cntE (x : Nat → Int) (m v : Nat) : Nat := runE x m v m 1
theorem runE_le (x : Nat → Int) (m v : Nat) : ∀ f k, runE x m v f k ≤ k + f
  | 0, k => by simp [runE]
  | f + 1, k => by
    unfold runE
    split
    · have := runE_le x m v f (k + 1)
      omega
    · omega
theorem cntE_at {x : Nat → Int} {m v : Nat} : ∀ (j : Nat), j ≤ m → (∀ t, 1 ≤ t → t ≤ j → x ((v + t) % m) < x v) → cntE x m v = runE x m v (m - j) (j + 1)
  | 0, _, _ => rfl
  | j + 1, hj, h => by
    rw [cntE_at j (by omega) (fun t h1 h2 => h t h1 (by omega))]
    have e : m - j = (m - (j + 1)) + 1 := by omega
    rw [e, runE, if_pos (h (j + 1) (by omega) (by omega))]
theorem cntE_end {x : Nat → Int} {m v j : Nat} (hv : v < m) (hj : j < m) (h : ∀ t, 1 ≤ t → t ≤ j → x ((v + t) % m) < x v) (he : ¬ x ((v + (j + 1)) % m) < x v) : cntE x m v = j + 1 := by
  rw [cntE_at j (by omega) h]
  have e : m - j = (m - (j + 1)) + 1 := by omega
  rw [e, runE, if_neg he]
/-- A mark goes on as long as there is one that is less: at most once around. -/
theorem less_far {x : Nat → Int} {m v j : Nat} (hv : v < m) (h : ∀ t, 1 ≤ t → t ≤ j → x ((v + t) % m) < x v) : j < m := by
  rcases Nat.lt_or_ge j m with h1 | h1
  · exact h1
  · have h2 := h m (by omega) h1
    rw [Nat.add_mod_right, Nat.mod_eq_of_lt hv] at h2
    omega
def sumE (x : Nat → Int) (m : Nat) : Nat → Nat
  | 0 => 0
  | v + 1 => sumE x m v + cntE x m v
theorem sumE_le (x : Nat → Int) (m : Nat) : ∀ v, sumE x m v ≤ (m + 1) * v
  | 0 => by simp [sumE]
  | v + 1 => by
    have h1 := sumE_le x m v
    have h2 := runE_le x m v m 1
    rw [sumE, Nat.mul_succ]
    unfold cntE
    omega
/-- Where the greatest one of the first k + 1 stands, the first such. -/
def atE (x : Nat → Int) : Nat → Nat
  | 0 => 0
  | k + 1 => if x (k + 1) > x (atE x k) then k + 1 else atE x k
theorem atE_le (x : Nat → Int) : ∀ k, atE x k ≤ k
  | 0 => Nat.le_refl _
  | k + 1 => by
    have := atE_le x k
    unfold atE
    split <;> omega
theorem atE_max (x : Nat → Int) : ∀ k i, i ≤ k → x i ≤ x (atE x k)
  | 0, i, h => by rw [show i = 0 by omega]; exact Int.le_refl _
  | k + 1, i, h => by
    have h1 := atE_max x k
    unfold atE
    split
    · rcases Nat.lt_or_ge i (k + 1) with h2 | h2
      · have := h1 i (by omega)
        omega
      · rw [show i = k + 1 by omega]; exact Int.le_refl _
    · rcases Nat.lt_or_ge i (k + 1) with h2 | h2
      · exact h1 i (by omega)
      · rw [show i = k + 1 by omega]; omega
theorem atE_first (x : Nat → Int) : ∀ k i, i < atE x k → x i < x (atE x k)
  | 0, i, h => by simp [atE] at h
  | k + 1, i, h => by
    unfold atE at h ⊢
    split
    · rename_i h2
      rw [if_pos h2] at h
      have := atE_max x k i (by omega)
      omega
    · rename_i h2
      rw [if_neg h2] at h
      exact atE_first x k i h
end Go.Proofs.YtlniogfinofakaaGreatDoor
