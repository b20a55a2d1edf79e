/-
  Plain law on tokens: where there are at least as many states as machines, all ways end. Condition: the numbers of a ring that may be looked at.
-/
import Derived.Test.YtpgipkcbdppplaaTokSol
import Derived.Test.YtpgipkcbdppplaaTokF
namespace Go.Proofs.Ytpgipkcbdppplaa
set_option linter.unusedVariables false
open Go.RowKit

/-- From the x-th states all moves lead into the set m, or there is one machine that may move. -/
def okX (k n m x : Nat) : Bool := decide (cntB (tokB n (digN k n x)) n ≤ 1) || !anyB (fun i => tokB n (digN k n x) i && !m.testBit (codeN k (movF k (digN k n x) i) n)) n
/-- One pass over all states. -/
def passX (k n : Nat) : Nat → Nat → Nat → Nat
  | 0, _, m => m
  | f + 1, x, m => match (if m.testBit x then m else if okX k n m x then m ||| 2 ^ x else m) with
    | 0 => passX k n f (x + 1) 0
    | v + 1 => passX k n f (x + 1) (v + 1)
def passesX (k n N : Nat) : Nat → Nat → Nat
  | 0, m => m
  | r + 1, m => match passX k n N 0 m with
    | 0 => passesX k n N r 0
    | v + 1 => passesX k n N r (v + 1)
def EndsAll (k n m : Nat) : Prop := ∀ x, m.testBit x = true → x < k ^ n → ∃ d, Ends k n d (digN k n x)
theorem pow_bit (x y : Nat) : (2 ^ x).testBit y = decide (x = y) := by
  by_cases e : x = y
  · subst e; simp [Nat.testBit_two_pow_self]
  · rw [Nat.testBit_two_pow_of_ne e]; simp [e]
theorem okX_ends {k n m x : Nat} (hk : 0 < k) (h : EndsAll k n m) (ho : okX k n m x = true) : ∃ d, Ends k n d (digN k n x) := by
  unfold okX at ho
  rw [Bool.or_eq_true] at ho
  rcases ho with ho | ho
  · exact ⟨0, (of_decide_eq_true ho : cntB (tokB n (digN k n x)) n ≤ 1)⟩
  · have ho : anyB (fun i => tokB n (digN k n x) i && !m.testBit (codeN k (movF k (digN k n x) i) n)) n = false := by simpa using ho
    rw [anyB_false] at ho
    have hd : ∀ j, j < n → digN k n x j < k := fun j _ => dig_lt hk n x j
    obtain ⟨d, hd'⟩ := max_of n (fun i d => tokB n (digN k n x) i = true → Ends k n d (movF k (digN k n x) i)) (fun i d hp ht => ends_mono d (hp ht)) (fun i hi => by
      by_cases ht : tokB n (digN k n x) i = true
      · have := ho i hi
        rw [ht] at this
        have hb : m.testBit (codeN k (movF k (digN k n x) i) n) = true := by simpa using this
        have hm : ∀ j, j < n → movF k (digN k n x) i j < k := fun j hj => mov_lt hk hd i hi j hj
        obtain ⟨d, hd2⟩ := h _ hb (code_lt n hm)
        exact ⟨d, fun _ => ends_congr d (fun j hj => dig_code hk hm j hj) hd2⟩
      · exact ⟨0, fun e => absurd e ht⟩)
    exact ⟨d + 1, .inr fun i hi ht => hd' i hi ht⟩
theorem step_ends {k n m x : Nat} (hk : 0 < k) (h : EndsAll k n m) : EndsAll k n (if m.testBit x then m else if okX k n m x then m ||| 2 ^ x else m) := by
  split
  · exact h
  · split
    · intro y hy hlt
      rw [Nat.testBit_or, pow_bit, Bool.or_eq_true] at hy
      rcases hy with hy | hy
      · exact h y hy hlt
      · have e : x = y := of_decide_eq_true hy
        subst e
        exact okX_ends hk h (by assumption)
    · exact h
theorem pass_ends {k n : Nat} (hk : 0 < k) : ∀ (f x m : Nat), EndsAll k n m → EndsAll k n (passX k n f x m)
  | 0, _, _, h => h
  | f + 1, x, m, h => by
    have hs := step_ends (x := x) hk h
    unfold passX
    generalize (if m.testBit x then m else if okX k n m x then m ||| 2 ^ x else m) = v at hs ⊢
    cases v with
    | zero => exact pass_ends hk f (x + 1) 0 hs
    | succ v => exact pass_ends hk f (x + 1) (v + 1) hs
theorem passes_ends {k n N : Nat} (hk : 0 < k) : ∀ (r m : Nat), EndsAll k n m → EndsAll k n (passesX k n N r m)
  | 0, _, h => h
  | r + 1, m, h => by
    have hs := pass_ends (k := k) (n := n) hk N 0 m h
    unfold passesX
    generalize passX k n N 0 m = v at hs ⊢
    cases v with
    | zero => exact passes_ends hk r 0 hs
    | succ v => exact passes_ends hk r (v + 1) hs
theorem full_ends {k n r : Nat} (hk : 0 < k) (h : passesX k n (k ^ n) r 0 = 2 ^ (k ^ n) - 1) : ∀ x, x < k ^ n → ∃ d, Ends k n d (digN k n x) := fun x hx => by
  refine passes_ends (k := k) (n := n) (N := k ^ n) hk r 0 (fun y hy => by simp at hy) x ?_ hx
  rw [h, Nat.testBit_two_pow_sub_one]
  exact decide_eq_true hx
theorem p22 : passesX 2 2 (2 ^ 2) 40 0 = 2 ^ (2 ^ 2) - 1 := by decide +kernel
theorem p32 : passesX 3 2 (3 ^ 2) 40 0 = 2 ^ (3 ^ 2) - 1 := by decide +kernel
theorem p33 : passesX 3 3 (3 ^ 3) 40 0 = 2 ^ (3 ^ 3) - 1 := by decide +kernel
theorem p42 : passesX 4 2 (4 ^ 2) 40 0 = 2 ^ (4 ^ 2) - 1 := by decide +kernel
theorem p43 : passesX 4 3 (4 ^ 3) 40 0 = 2 ^ (4 ^ 3) - 1 := by decide +kernel
theorem p44 : passesX 4 4 (4 ^ 4) 40 0 = 2 ^ (4 ^ 4) - 1 := by decide +kernel
theorem p52 : passesX 5 2 (5 ^ 2) 40 0 = 2 ^ (5 ^ 2) - 1 := by decide +kernel
theorem p53 : passesX 5 3 (5 ^ 3) 40 0 = 2 ^ (5 ^ 3) - 1 := by decide +kernel
theorem p54 : passesX 5 4 (5 ^ 4) 40 0 = 2 ^ (5 ^ 4) - 1 := by decide +kernel
theorem all_end {k n : Nat} (h2 : 2 ≤ n) (hk : n ≤ k) (hk5 : k ≤ 5) (hN : k ^ n ≤ 1024) : ∀ x, x < k ^ n → ∃ d, Ends k n d (digN k n x) := by
  match k, n, h2, hk, hk5, hN with
  | 2, 2, _, _, _, _ => exact full_ends (by omega) p22
  | 3, 2, _, _, _, _ => exact full_ends (by omega) p32
  | 3, 3, _, _, _, _ => exact full_ends (by omega) p33
  | 4, 2, _, _, _, _ => exact full_ends (by omega) p42
  | 4, 3, _, _, _, _ => exact full_ends (by omega) p43
  | 4, 4, _, _, _, _ => exact full_ends (by omega) p44
  | 5, 2, _, _, _, _ => exact full_ends (by omega) p52
  | 5, 3, _, _, _, _ => exact full_ends (by omega) p53
  | 5, 4, _, _, _, _ => exact full_ends (by omega) p54
  | 5, 5, _, _, _, h => exact absurd h (by decide)
  | k + 6, n, _, _, h, _ => omega
  | 0, n, h2, hk, _, _ => omega
  | 1, n, h2, hk, _, _ => omega
  | 2, n + 3, h2, hk, _, _ => omega
  | 3, n + 4, h2, hk, _, _ => omega
  | 4, n + 5, h2, hk, _, _ => omega
  | 5, n + 6, h2, hk, _, _ => omega
  | k, 0, h2, _, _, _ => omega
  | k, 1, h2, _, _, _ => omega
/-- A state from which all ways end has a solution that is not negative. -/
theorem ends_pos {k n : Nat} {f : Nat → Int} (hk : 0 < k) (hf : Sol k n f) : ∀ (d : Nat) (s : Nat → Nat), (∀ j, j < n → s j < k) → Ends k n d s → 0 ≤ f (codeN k s n)
  | 0, s, hs, h => by rw [hf.shut s hs h]; omega
  | d + 1, s, hs, h => by
    by_cases e : cntB (tokB n s) n ≤ 1
    · rw [hf.shut s hs e]; omega
    · rcases h with h | h
      · exact absurd h e
      · rcases hf.opened s hs (by omega) with ⟨_, i, hi, ti, h4⟩ | ⟨h2, _⟩
        · have := ends_pos hk hf d (movF k s i) (fun j hj => mov_lt hk hs i hi j hj) (h i hi ti)
          omega
        · omega
theorem mend_all {k n : Nat} {f : Nat → Int} (hf : Sol k n f) (h2 : 2 ≤ n) (hk : n ≤ k) (hk5 : k ≤ 5) (hN : k ^ n ≤ 1024) : mendB f (k ^ n) = true := by
  have h : anyB (fun x => decide (f x < 0)) (k ^ n) = false := (anyB_false _ _).2 (fun x hx => decide_eq_false (by
    obtain ⟨d, hd⟩ := all_end h2 hk hk5 hN x hx
    have := ends_pos (by omega) hf d _ (fun j _ => dig_lt (by omega) n x j) hd
    rw [code_dig (by omega) hx] at this
    omega))
  unfold mendB
  rw [h]
  rfl
theorem mend_at {k n : Nat} {f : Nat → Int} {s : Nat → Nat} (h : mendB f (k ^ n) = true) (hs : ∀ j, j < n → s j < k) : 0 ≤ f (codeN k s n) := by
  have h : anyB (fun x => decide (f x < 0)) (k ^ n) = false := by unfold mendB at h; simpa using h
  rw [anyB_false] at h
  have := of_decide_eq_false (h _ (code_lt n hs))
  omega
theorem Ints.congr {w : World} {a : Option Addr} {n : Nat} {x y : Nat → Int} (h : Ints w a n x) (e : ∀ i, i < n → x i = y i) : Ints w a n y := fun i hi => by
  rw [← e i hi]; exact h i hi
theorem tokOk_mk {k n : Nat} {s : Nat → Nat} (h : TokS k n s) : tokOkB k n (nf s) = true := by
  have h1 : inB (k : Int) 2 5 = true := by have := h.k2; have := h.k5; unfold inB; simp; omega
  have h2 : inB (n : Int) 2 5 = true := by have := h.n2; have := h.n5; unfold inB; simp; omega
  unfold tokOkB
  rw [h1, h2, (anyB_false _ _).2 (fun j hj => ?_)]
  · rfl
  · have := h.lt j hj
    have h3 : inB (nf s j) 0 ((k : Int) - 1) = true := by unfold inB nf; simp; omega
    rw [h3]; rfl
end Go.Proofs.Ytpgipkcbdppplaa
