/-
  Fewer stops than rounds: all that are left know the same. And what agreement is. Plain Lean. Condition: a valid run.
-/
import Derived.Test.YtepgogaoppdllaaDec
import Derived.Test.YtepgogaoppdllaaSeenLaw
namespace Go.Proofs.Ytepgogaoppdllaa
open Go.RowKit

theorem orN_const (f : Nat → Bool) (g : Nat → Nat) (U : Nat) : ∀ n, (∀ q, q < n → f q = true → g q = U) → orN f g U n = U
  | 0, _ => rfl
  | n + 1, h => by
    have ih := orN_const f g U n (fun q hq => h q (by omega))
    simp only [orN]
    split
    · next e => rw [ih, h n (by omega) e, Nat.or_self]
    · exact ih
theorem orN_zero (f : Nat → Bool) (g : Nat → Nat) (acc : Nat) : ∀ n, orN f g acc n = acc ||| orN f g 0 n
  | 0 => (Nat.or_zero acc).symm
  | n + 1 => by
    simp only [orN]
    split
    · rw [orN_zero f g acc n, Nat.or_assoc]
    · exact orN_zero f g acc n
theorem orN_has (f : Nat → Bool) (g : Nat → Nat) (p : Nat) : ∀ n, p < n → f p = true → orN f g (g p) n = orN f g 0 n
  | 0, h, _ => absurd h (Nat.not_lt_zero _)
  | n + 1, h, hf => by
    simp only [orN]
    by_cases e : p = n
    · subst e
      rw [if_pos hf, if_pos hf, orN_zero f g (g p) p, Nat.or_comm (g p), Nat.or_assoc, Nat.or_self]
    · have ih := orN_has f g p n (by omega) hf
      rw [ih]
theorem orN_congr (f f' : Nat → Bool) (g : Nat → Nat) (acc : Nat) : ∀ n, (∀ q, q < n → f q = f' q) → orN f g acc n = orN f' g acc n
  | 0, _ => rfl
  | n + 1, h => by simp only [orN]; rw [h n (by omega), orN_congr f f' g acc n (fun q hq => h q (by omega))]
section
variable (n : Nat) (rd : Nat → Int) (hd : Nat → Nat → Nat → Bool) (kn : Nat → Nat → Nat)
theorem same_from (h1 : ∀ (q p r : Nat), hd q p r = true → (r : Int) ≤ rd q) (h2 : ∀ (q p r : Nat), (r : Int) < rd q → hd q p r = true)
  (ha : ∀ k p, kn (k + 1) p = if rd p < (k + 1 : Nat) then kn k p else orN (fun q => hd q p (k + 1)) (kn k) (kn k p) n)
  (r : Nat) (hno : ∀ q, q < n → rd q ≠ ((r + 1 : Nat) : Int)) : ∃ U, ∀ j p, p < n → ((r + 1 + j : Nat) : Int) < rd p → kn (r + 1 + j) p = U := by
  refine ⟨orN (fun q => decide (((r + 1 : Nat) : Int) < rd q)) (kn r) 0 n, fun j => ?_⟩
  induction j with
  | zero =>
    intro p hp hrd
    rw [Nat.add_zero] at hrd ⊢
    rw [ha, if_neg (by omega), orN_congr _ (fun q => decide (((r + 1 : Nat) : Int) < rd q)) _ _ n (fun q hq => ?_)]
    · exact orN_has _ _ p n hp (by simpa using hrd)
    · have := hno q hq
      cases e : hd q p (r + 1)
      · symm
        by_cases hlt : ((r + 1 : Nat) : Int) < rd q
        · rw [h2 q p (r + 1) hlt] at e; cases e
        · simp; omega
      · have := h1 q p (r + 1) e
        symm; simp; omega
  | succ j ih =>
    intro p hp hrd
    rw [show r + 1 + (j + 1) = (r + 1 + j) + 1 from rfl] at hrd ⊢
    rw [ha, if_neg (by omega), ih p hp (by omega)]
    refine orN_const _ _ _ n (fun q hq hf => ih q hq ?_)
    have := h1 q p _ hf
    omega
end
/-- Fewer stops than rounds: there is a round without one. -/
theorem free_round (m R : Nat) (f : Nat → Int) (hm : m < R) (hR : R ≤ 4) : ∃ r, r < R ∧ ∀ i, i < m → f i ≠ ((r + 1 : Nat) : Int) := by
  apply Classical.byContradiction
  intro h
  have h' : ∀ r, r < R → ∃ i, i < m ∧ f i = ((r + 1 : Nat) : Int) := fun r hr => by
    apply Classical.byContradiction
    intro hn
    exact h ⟨r, hr, fun i hi e => hn ⟨i, hi, e⟩⟩
  have g : ∀ r, r < R → (m ≥ 1 ∧ f 0 = ((r + 1 : Nat) : Int)) ∨ (m ≥ 2 ∧ f 1 = ((r + 1 : Nat) : Int)) ∨ (m ≥ 3 ∧ f 2 = ((r + 1 : Nat) : Int)) := fun r hr => by
    obtain ⟨i, hi, e⟩ := h' r hr
    obtain rfl | rfl | rfl : i = 0 ∨ i = 1 ∨ i = 2 := by omega
    · exact .inl ⟨by omega, e⟩
    · exact .inr (.inl ⟨by omega, e⟩)
    · exact .inr (.inr ⟨by omega, e⟩)
  obtain rfl | rfl | rfl | rfl : R = 1 ∨ R = 2 ∨ R = 3 ∨ R = 4 := by omega
  · have := g 0 (by omega); omega
  · have := g 0 (by omega); have := g 1 (by omega); omega
  · have := g 0 (by omega); have := g 1 (by omega); have := g 2 (by omega); omega
  · have := g 0 (by omega); have := g 1 (by omega); have := g 2 (by omega); have := g 3 (by omega); omega
/-- Two that are left know the same. -/
theorem seen_same {n m : Nat} {x : Nat → Int} {st : Nat → Int × Int × Int} (h : runB n x m st = true) (R : Nat) (hR : R ≤ 4) (hm : m < R) (p q : Nat) (hp : p < n) (hq : q < n) (h1 : (R : Int) < (stopF st m p).2.1) (h2 : (R : Int) < (stopF st m q).2.1) :
    aft n st m R p = aft n st m R q := by
  obtain ⟨r, hr, hno⟩ := free_round m R (fun i => (st i).2.1) hm hR
  have hno' : ∀ q, q < n → (stopF st m q).2.1 ≠ ((r + 1 : Nat) : Int) := fun q _ e => by
    rcases stop_find h (q : Int) with ⟨i, hi, _, e2, _⟩ | ⟨_, e2⟩
    · rw [e2] at e; exact hno i hi e
    · rw [e2] at e; dsimp only at e; omega
  obtain ⟨U, hU⟩ := same_from n (fun q => (stopF st m q).2.1) (fun q p r => heard st m q p r) (aft n st m)
    (fun q p r e => by
      unfold heard at e
      rw [Bool.or_eq_true, Bool.and_eq_true] at e
      rcases e with e | e
      · have := of_decide_eq_true e; omega
      · have : (stopF st m q).2.1 = (r : Int) := by simpa using e.1
        omega)
    (fun q p r e => by unfold heard; simp [e]) (fun _ _ => rfl) r hno'
  obtain ⟨j, rfl⟩ : ∃ j, R = r + 1 + j := ⟨R - (r + 1), by omega⟩
  rw [hU j p hp h1, hU j q hq h2]
/-- Two numbers of a list that are not the same, and none below 0. -/
def clash (d : Nat → Int) (i k : Nat) : Bool := decide (0 ≤ d i) && decide (0 ≤ d k) && (d i != d k)
/-- Are all numbers but those below 0 the same? -/
def agrB (n : Nat) (d : Nat → Int) : Bool := !anyB (fun i => anyB (clash d i) i) n
theorem agrB_iff (n : Nat) (d : Nat → Int) : agrB n d = true ↔ ∀ i k, i < n → k < n → 0 ≤ d i → 0 ≤ d k → d i = d k := by
  have key : agrB n d = true ↔ ∀ i, i < n → ∀ k, k < i → clash d i k = false := by
    unfold agrB
    rw [Bool.not_eq_true', anyB_false]
    constructor
    · intro h i hi k hk; exact (anyB_false _ _).1 (h i hi) k hk
    · intro h i hi; exact (anyB_false _ _).2 (fun k hk => h i hi k hk)
  rw [key]
  constructor
  · intro h i k hi hk h1 h2
    rcases Nat.lt_trichotomy i k with e | e | e
    · have := h k hk i e
      simp [clash, h1, h2] at this
      exact this.symm
    · rw [e]
    · have := h i hi k e
      simpa [clash, h1, h2] using this
  · intro h i hi k hk
    unfold clash
    by_cases h1 : 0 ≤ d i
    · by_cases h2 : 0 ≤ d k
      · simp [h i k hi (by omega) h1 h2]
      · simp [h2]
    · simp [h1]
/-- The last number of the first k that is not below 0, -1 if there is none. -/
def lastV (d : Nat → Int) : Nat → Int
  | 0 => -1
  | k + 1 => if 0 ≤ d k then d k else lastV d k
theorem lastV_spec (d : Nat → Int) : ∀ k, (lastV d k = -1 ∧ ∀ i, i < k → d i < 0) ∨ ∃ i, i < k ∧ 0 ≤ d i ∧ lastV d k = d i
  | 0 => .inl ⟨rfl, fun i hi => absurd hi (Nat.not_lt_zero _)⟩
  | k + 1 => by
    simp only [lastV]
    by_cases h : 0 ≤ d k
    · rw [if_pos h]; exact .inr ⟨k, by omega, h, rfl⟩
    · rw [if_neg h]
      rcases lastV_spec d k with ⟨h1, h2⟩ | ⟨i, h1, h2, h3⟩
      · refine .inl ⟨h1, fun i hi => ?_⟩
        by_cases e : i = k
        · subst e; omega
        · exact h2 i (by omega)
      · exact .inr ⟨i, by omega, h2, h3⟩
/-- The reference's test at k. -/
def lastBad (d : Nat → Int) (k : Nat) : Bool := decide (0 ≤ d k) && decide (0 ≤ lastV d k) && (d k != lastV d k)
theorem agr_last (d : Nat → Int) : ∀ n, (!anyB (lastBad d) n) = agrB n d := by
  intro n
  have h : (!anyB (lastBad d) n) = true ↔ agrB n d = true := by
    rw [agrB_iff, Bool.not_eq_true', anyB_false]
    constructor
    · intro h
      have all : ∀ k, k ≤ n → ∀ i, i < k → 0 ≤ d i → d i = lastV d k := by
        intro k
        induction k with
        | zero => intro _ i hi; exact absurd hi (Nat.not_lt_zero _)
        | succ k ih =>
          intro hk i hi h0
          have hb := h k (by omega)
          simp only [lastV]
          by_cases hdk : 0 ≤ d k
          · rw [if_pos hdk]
            by_cases e : i = k
            · rw [e]
            · have e1 := ih (by omega) i (by omega) h0
              simp [lastBad, hdk] at hb
              rw [e1]; exact (hb (by omega)).symm
          · rw [if_neg hdk]
            by_cases e : i = k
            · subst e; omega
            · exact ih (by omega) i (by omega) h0
      intro i k hi hk h1 h2
      rw [all n (Nat.le_refl _) i hi h1, all n (Nat.le_refl _) k hk h2]
    · intro h k hk
      unfold lastBad
      by_cases h1 : 0 ≤ d k
      · rcases lastV_spec d k with ⟨e, _⟩ | ⟨i, hi, h2, e⟩
        · simp [e]
        · rw [e, h k i hk (by omega) h1 h2]; simp
      · simp [h1]
  cases h1 : (!anyB (lastBad d) n) <;> cases h2 : agrB n d <;> simp_all
/-- Fewer stops than rounds: agreed. -/
theorem agree_few {n m : Nat} {x : Nat → Int} {st : Nat → Int × Int × Int} (h : runB n x m st = true) (R : Nat) (hR : R ≤ 4) (hm : m < R) : agrB n (dec n x m st R) = true := by
  rw [agrB_iff]
  intro i k hi hk h1 h2
  unfold dec at *
  by_cases e1 : (stopF st m i).2.1 ≤ (R : Int)
  · rw [if_pos e1] at h1; omega
  · by_cases e2 : (stopF st m k).2.1 ≤ (R : Int)
    · rw [if_pos e2] at h2; omega
    · rw [if_neg e1, if_neg e2, seen_same h R hR hm i k hi hk (by omega) (by omega)]
theorem dec_of (x : Nat → Int) (s v : Int) (b : Nat) : ∀ n, (∀ i, i < n → 0 ≤ x i → x i = v) → (∀ i, i < n → 0 ≤ x i) → decI x b n = -1 ∨ decI x b n = v
  | 0, _, _ => .inl rfl
  | n + 1, h, h0 => by
    have ih := dec_of x s v b n (fun i hi => h i (by omega)) (fun i hi => h0 i (by omega))
    simp only [decI]
    split
    · exact .inr (h n (by omega) (h0 n (by omega)))
    · exact ih
/-- All inputs the same: agreed. -/
theorem agree_same {n m : Nat} {x : Nat → Int} {st : Nat → Int × Int × Int} (h : runB n x m st = true) (R : Nat) (hs : agrB n x = true) : agrB n (dec n x m st R) = true := by
  have hx : ∀ i, i < n → 0 ≤ x i := fun i hi => (run_in h i hi).1
  have hs' := (agrB_iff n x).1 hs
  rw [agrB_iff]
  intro i k hi hk h1 h2
  have one : ∀ p, p < n → 0 ≤ dec n x m st R p → dec n x m st R p = x i := fun p hp h0 => by
    unfold dec at *
    by_cases e : (stopF st m p).2.1 ≤ (R : Int)
    · rw [if_pos e] at h0; omega
    · rw [if_neg e] at h0 ⊢
      rcases dec_of x 0 (x i) (aft n st m R p) n (fun j hj _ => hs' j i hj hi (hx j hj) (hx i hi)) hx with e3 | e3
      · omega
      · exact e3
  rw [one i hi h1, one k hk h2]
theorem dec_low {n m : Nat} {x : Nat → Int} {st : Nat → Int × Int × Int} (h : runB n x m st = true) (R p : Nat) : -1 ≤ dec n x m st R p ∧ dec n x m st R p ≤ 3 := by
  unfold dec
  split
  · omega
  · exact dec_bound x _ n (run_in h) n (Nat.le_refl _)
/-- The same of the list without -1. -/
theorem agr_filter (n : Nat) (d : Nat → Int) (h : ∀ p, -1 ≤ d p) : (∀ a, a ∈ (il n d).filter (fun z => !(z == -1)) → ∀ b, b ∈ (il n d).filter (fun z => !(z == -1)) → a = b) ↔ agrB n d = true := by
  rw [agrB_iff]
  have mem : ∀ a, a ∈ (il n d).filter (fun z => !(z == -1)) ↔ ∃ i, i < n ∧ d i = a ∧ 0 ≤ d i := by
    intro a
    rw [List.mem_filter]
    unfold il
    rw [List.mem_map]
    constructor
    · rintro ⟨⟨i, hi, e⟩, h2⟩
      have := h i
      exact ⟨i, by simpa using hi, e, by have : a ≠ -1 := by simpa using h2
                                         omega⟩
    · rintro ⟨i, hi, e, h2⟩
      exact ⟨⟨i, by simpa using hi, e⟩, by have : a ≠ -1 := by omega
                                           simpa using this⟩
  constructor
  · intro h1 i k hi hk h2 h3
    exact h1 _ ((mem _).2 ⟨i, hi, rfl, h2⟩) _ ((mem _).2 ⟨k, hk, rfl, h3⟩)
  · intro h1 a ha b hb
    obtain ⟨i, hi, rfl, h2⟩ := (mem _).1 ha
    obtain ⟨k, hk, rfl, h3⟩ := (mem _).1 hb
    exact h1 i k hi hk h2 h3
end Go.Proofs.Ytepgogaoppdllaa
