/-
  Plain laws on tokens: states of a ring as numbers, what may move, and that there is one solution for the most moves. Condition: at least one state, numbers below it.
-/
import Derived.Test.YtpgipkcbdppplaaClass
namespace Go.Proofs.Ytpgipkcbdppplaa
set_option linter.unusedVariables false
open Go.RowKit

/-- States as one number. -/
def codeN (k : Nat) (s : Nat → Nat) : Nat → Nat
  | 0 => 0
  | n + 1 => codeN k s n * k + s n
/-- The j-th of the n states of a number. -/
def digN (k n x j : Nat) : Nat := x / k ^ (n - 1 - j) % k
theorem code_lt {k : Nat} {s : Nat → Nat} : ∀ n, (∀ j, j < n → s j < k) → codeN k s n < k ^ n
  | 0, _ => by simp [codeN]
  | n + 1, h => by
    have h1 := code_lt n (fun j hj => h j (by omega))
    have h2 := h n (by omega)
    unfold codeN
    rw [Nat.pow_succ]
    calc codeN k s n * k + s n < codeN k s n * k + k := by omega
      _ = (codeN k s n + 1) * k := by rw [Nat.succ_mul]
      _ ≤ k ^ n * k := Nat.mul_le_mul_right k h1
theorem code_inj {k : Nat} {s t : Nat → Nat} : ∀ n, (∀ j, j < n → s j < k) → (∀ j, j < n → t j < k) → codeN k s n = codeN k t n → ∀ j, j < n → s j = t j
  | 0, _, _, _, j, hj => absurd hj (Nat.not_lt_zero _)
  | n + 1, hs, ht, e, j, hj => by
    have a := hs n (by omega)
    have b := ht n (by omega)
    unfold codeN at e
    have hk : 0 < k := by omega
    have e1 : codeN k s n = codeN k t n := by
      have h1 : (codeN k s n * k + s n) / k = codeN k s n := by rw [Nat.mul_comm, Nat.mul_add_div hk, Nat.div_eq_of_lt a]; rfl
      have h2 : (codeN k t n * k + t n) / k = codeN k t n := by rw [Nat.mul_comm, Nat.mul_add_div hk, Nat.div_eq_of_lt b]; rfl
      rw [← h1, e, h2]
    by_cases ej : j = n
    · subst ej; rw [e1] at e; omega
    · exact code_inj n (fun j hj => hs j (by omega)) (fun j hj => ht j (by omega)) e1 j (by omega)
theorem code_congr {k : Nat} {s t : Nat → Nat} : ∀ n, (∀ j, j < n → s j = t j) → codeN k s n = codeN k t n
  | 0, _ => rfl
  | n + 1, h => by unfold codeN; rw [code_congr n (fun j hj => h j (by omega)), h n (by omega)]
theorem code_div {k : Nat} (hk : 0 < k) (x : Nat) : ∀ n, codeN k (fun j => x / k ^ (n - 1 - j) % k) n = x % k ^ n
  | 0 => by simp [codeN, Nat.mod_one]
  | n + 1 => by
    have h := code_div hk (x / k) n
    unfold codeN
    have e : codeN k (fun j => x / k ^ (n + 1 - 1 - j) % k) n = codeN k (fun j => x / k / k ^ (n - 1 - j) % k) n := code_congr n fun j hj => by
      rw [Nat.div_div_eq_div_mul, show n + 1 - 1 - j = (n - 1 - j) + 1 by omega, Nat.pow_succ, Nat.mul_comm k]
    rw [e, h, show n + 1 - 1 - n = 0 by omega, Nat.pow_zero, Nat.div_one, Nat.pow_succ, Nat.mul_comm (k ^ n) k, Nat.mod_mul, Nat.mul_comm k]
    omega
theorem code_dig {k n x : Nat} (hk : 0 < k) (hx : x < k ^ n) : codeN k (digN k n x) n = x := by
  have := code_div hk x n
  rw [Nat.mod_eq_of_lt hx] at this
  exact this
theorem dig_lt {k : Nat} (hk : 0 < k) (n x j : Nat) : digN k n x j < k := Nat.mod_lt _ hk
theorem dig_code {k n : Nat} {s : Nat → Nat} (hk : 0 < k) (hs : ∀ j, j < n → s j < k) (j : Nat) (hj : j < n) : digN k n (codeN k s n) j = s j :=
  code_inj n (fun j _ => dig_lt hk n _ j) hs (code_dig hk (code_lt n hs)) j hj

/-! ### tokens and moves -/
def tokB (n : Nat) (s : Nat → Nat) (i : Nat) : Bool := if i = 0 then s 0 == s (n - 1) else s i != s (i - 1)
def movF (k : Nat) (s : Nat → Nat) (i : Nat) : Nat → Nat := fun j => if j = i then (if i = 0 then (s 0 + 1) % k else s (i - 1)) else s j
theorem mov_lt {k n : Nat} {s : Nat → Nat} (hk : 0 < k) (hs : ∀ j, j < n → s j < k) (i : Nat) (hi : i < n) (j : Nat) (hj : j < n) : movF k s i j < k := by
  unfold movF
  split
  · split
    · exact Nat.mod_lt _ hk
    · exact hs (i - 1) (by omega)
  · exact hs j hj
theorem tok_congr {n : Nat} {s t : Nat → Nat} (h : ∀ j, j < n → s j = t j) (i : Nat) (hi : i < n) : tokB n s i = tokB n t i := by
  unfold tokB
  split
  · rw [h 0 (by omega), h (n - 1) (by omega)]
  · rw [h i hi, h (i - 1) (by omega)]
theorem mov_congr {k n : Nat} {s t : Nat → Nat} (h : ∀ j, j < n → s j = t j) (i : Nat) (hi : i < n) (j : Nat) (hj : j < n) : movF k s i j = movF k t i j := by
  unfold movF
  rw [h 0 (by omega), h (i - 1) (by omega), h j hj]
/-- f is the most moves, -1 where there is no end. -/
structure Sol (k n : Nat) (f : Nat → Int) : Prop where
  shut : ∀ s : Nat → Nat, (∀ j, j < n → s j < k) → cntB (tokB n s) n ≤ 1 → f (codeN k s n) = 0
  opened : ∀ s : Nat → Nat, (∀ j, j < n → s j < k) → 1 < cntB (tokB n s) n →
    (f (codeN k s n) = -1 ∧ ∃ i, i < n ∧ tokB n s i = true ∧ f (codeN k (movF k s i) n) = -1) ∨
    (0 < f (codeN k s n) ∧ (∀ i, i < n → tokB n s i = true → 0 ≤ f (codeN k (movF k s i) n) ∧ f (codeN k (movF k s i) n) < f (codeN k s n)) ∧ ∃ i, i < n ∧ tokB n s i = true ∧ f (codeN k (movF k s i) n) = f (codeN k s n) - 1)
theorem Sol.low {k n : Nat} {f : Nat → Int} (h : Sol k n f) (s : Nat → Nat) (hs : ∀ j, j < n → s j < k) : -1 ≤ f (codeN k s n) := by
  by_cases e : cntB (tokB n s) n ≤ 1
  · rw [h.shut s hs e]; omega
  · rcases h.opened s hs (by omega) with h1 | h1 <;> omega
/-- There is one. -/
theorem sol_le {k n : Nat} {f g : Nat → Int} (hk : 0 < k) (hf : Sol k n f) (hg : Sol k n g) : ∀ (d : Nat) (s : Nat → Nat), (∀ j, j < n → s j < k) → 0 ≤ f (codeN k s n) → f (codeN k s n) ≤ (d : Int) → f (codeN k s n) = g (codeN k s n) := by
  intro d
  induction d with
  | zero =>
    intro s hs h0 h1
    by_cases e : cntB (tokB n s) n ≤ 1
    · rw [hf.shut s hs e, hg.shut s hs e]
    · rcases hf.opened s hs (by omega) with h | h <;> omega
  | succ d ih =>
    intro s hs h0 h1
    by_cases e : cntB (tokB n s) n ≤ 1
    · rw [hf.shut s hs e, hg.shut s hs e]
    · rcases hf.opened s hs (by omega) with h | ⟨h2, h3, i, hi, ti, h4⟩
      · omega
      · have sub : ∀ i, i < n → tokB n s i = true → f (codeN k (movF k s i) n) = g (codeN k (movF k s i) n) := fun i hi ti => by
          have := h3 i hi ti
          exact ih _ (mov_lt hk hs i hi) this.1 (by omega)
        rcases hg.opened s hs (by omega) with ⟨_, i', hi', ti', h5⟩ | ⟨g2, g3, i', hi', ti', h5⟩
        · have := (h3 i' hi' ti').1
          rw [sub i' hi' ti'] at this
          omega
        · have a1 := (g3 i hi ti).2
          have a2 := (h3 i' hi' ti').2
          rw [← sub i hi ti] at a1
          rw [sub i' hi' ti'] at a2
          omega
theorem sol_eq {k n : Nat} {f g : Nat → Int} (hk : 0 < k) (hf : Sol k n f) (hg : Sol k n g) (s : Nat → Nat) (hs : ∀ j, j < n → s j < k) : f (codeN k s n) = g (codeN k s n) := by
  have l1 := hf.low s hs
  have l2 := hg.low s hs
  by_cases h : 0 ≤ f (codeN k s n)
  · exact sol_le hk hf hg (f (codeN k s n)).toNat s hs h (by omega)
  · by_cases h' : 0 ≤ g (codeN k s n)
    · exact (sol_le hk hg hf (g (codeN k s n)).toNat s hs h' (by omega)).symm
    · omega
/-- A number that gets less with each move: then there is an end from all. -/
theorem sol_ends {k n : Nat} {f : Nat → Int} (hk : 0 < k) (hf : Sol k n f) (g : Nat → Nat) (hg : ∀ s : Nat → Nat, (∀ j, j < n → s j < k) → 1 < cntB (tokB n s) n → ∀ i, i < n → tokB n s i = true → g (codeN k (movF k s i) n) < g (codeN k s n)) : ∀ (d : Nat) (s : Nat → Nat), (∀ j, j < n → s j < k) → g (codeN k s n) ≤ d → 0 ≤ f (codeN k s n) := by
  intro d
  induction d with
  | zero =>
    intro s hs h
    by_cases e : cntB (tokB n s) n ≤ 1
    · rw [hf.shut s hs e]; omega
    · rcases hf.opened s hs (by omega) with ⟨_, i, hi, ti, _⟩ | h1
      · have := hg s hs (by omega) i hi ti; omega
      · omega
  | succ d ih =>
    intro s hs h
    by_cases e : cntB (tokB n s) n ≤ 1
    · rw [hf.shut s hs e]; omega
    · rcases hf.opened s hs (by omega) with ⟨_, i, hi, ti, h2⟩ | h1
      · have := hg s hs (by omega) i hi ti
        have := ih _ (mov_lt hk hs i hi) (by omega)
        omega
      · omega
end Go.Proofs.Ytpgipkcbdppplaa
