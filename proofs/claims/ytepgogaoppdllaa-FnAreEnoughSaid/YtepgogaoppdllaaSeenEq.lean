/-
  The reference's words on stops (hears, stopsBy) say what the program's do, and one process more that hears itself turns nothing. Plain Lean. Condition: a valid run.
-/
import Derived.Test.YtepgogaoppdllaaAfter
namespace Go.Proofs.Ytepgogaoppdllaa
open Go.RowKit

theorem bad_step {n m : Nat} {x : Nat → Int} {st : Nat → Int × Int × Int} (h : runB n x m st = true) (k : Nat) (hk : k < m) : lastP st k + 1 ≤ (st k).1 := by
  unfold runB at h
  rw [Bool.and_eq_true, Bool.and_eq_true] at h
  have h3 := (anyB_false _ _).1 (by simpa using h.2) k hk
  simp only [stopBad, Bool.not_eq_false', Bool.and_eq_true] at h3
  exact (inB_true h3.1.1).1
theorem proc_lt {n m : Nat} {x : Nat → Int} {st : Nat → Int × Int × Int} (h : runB n x m st = true) (i : Nat) : ∀ j, i < j → j < m → (st i).1 < (st j).1
  | 0, h1, _ => absurd h1 (Nat.not_lt_zero _)
  | j + 1, h1, h2 => by
    have hb := bad_step h (j + 1) h2
    simp only [lastP] at hb
    by_cases e : i = j
    · subst e; omega
    · have := proc_lt h i j (by omega) (by omega)
      omega
theorem proc_inj {n m : Nat} {x : Nat → Int} {st : Nat → Int × Int × Int} (h : runB n x m st = true) (i j : Nat) (hi : i < m) (hj : j < m) (e : (st i).1 = (st j).1) : i = j := by
  by_cases h1 : i < j
  · have := proc_lt h i j h1 hj; omega
  · by_cases h2 : j < i
    · have := proc_lt h j i h2 hi; omega
    · omega
theorem stopG_find (st : Nat → Int × Int × Int) (p : Int) (m : Nat) : ∀ r k, k + r = m → (∃ i, k ≤ i ∧ i < m ∧ (st i).1 = p ∧ stopG st p k r = st i) ∨ ((∀ i, k ≤ i → i < m → (st i).1 ≠ p) ∧ stopG st p k r = (p, 5, 0))
  | 0, k, _ => .inr ⟨fun i h1 h2 => absurd h2 (by omega), rfl⟩
  | r + 1, k, h => by
    rw [stopG]
    cases e : (st k).1 == p
    · rw [if_neg (by simp)]
      rcases stopG_find st p m r (k + 1) (by omega) with ⟨i, h1, h2, h3, h4⟩ | ⟨h1, h2⟩
      · exact .inl ⟨i, by omega, h2, h3, h4⟩
      · refine .inr ⟨fun i h3 h4 => ?_, h2⟩
        by_cases hi : i = k
        · subst hi; simpa using e
        · exact h1 i (by omega) h4
    · rw [if_pos rfl]
      exact .inl ⟨k, Nat.le_refl _, by omega, by simpa using e, rfl⟩
theorem stop_find {n m : Nat} {x : Nat → Int} {st : Nat → Int × Int × Int} (h : runB n x m st = true) (p : Int) :
    (∃ i, i < m ∧ (st i).1 = p ∧ stopF st m p = st i ∧ ∀ j, j < m → (st j).1 = p → j = i) ∨ ((∀ j, j < m → (st j).1 ≠ p) ∧ stopF st m p = (p, 5, 0)) := by
  rcases stopG_find st p m m 0 (by omega) with ⟨i, _, h2, h3, h4⟩ | ⟨h1, h2⟩
  · exact .inl ⟨i, h2, h3, h4, fun j hj e => proc_inj h j i hj h2 (by rw [e, h3])⟩
  · exact .inr ⟨fun j hj => h1 j (Nat.zero_le _) hj, h2⟩
/-- The i-th stop keeps q from p in round r. -/
def deafAt (st : Nat → Int × Int × Int) (q p r : Nat) (i : Nat) : Bool := (st i).1 == (q : Int) && (decide ((st i).2.1 < (r : Int)) || ((st i).2.1 == (r : Int) && !(st i).2.2.toNat.testBit p))
def hearsB (st : Nat → Int × Int × Int) (m q p r : Nat) : Bool := !anyB (deafAt st q p r) m
theorem any_one {f : Nat → Bool} {m i : Nat} (hi : i < m) (h : ∀ j, j < m → f j = true → j = i) : anyB f m = f i := by
  cases e : f i
  · refine (anyB_false _ _).2 (fun j hj => ?_)
    cases e2 : f j
    · rfl
    · rw [h j hj e2, e] at e2; exact e2.symm ▸ rfl
  · exact (anyB_iff _ _).2 ⟨i, hi, e⟩
theorem hears_eq {n m : Nat} {x : Nat → Int} {st : Nat → Int × Int × Int} (h : runB n x m st = true) (q p r : Nat) (hr : r ≤ 4) : hearsB st m q p r = heard st m q p r := by
  unfold hearsB heard
  rcases stop_find h (q : Int) with ⟨i, h1, h2, h3, h4⟩ | ⟨h1, h2⟩
  · rw [any_one h1 (fun j hj e => h4 j hj (by simp only [deafAt, Bool.and_eq_true, beq_iff_eq] at e; exact e.1)), h3]
    unfold deafAt
    rw [h2]
    rcases Int.lt_trichotomy (st i).2.1 (r : Int) with h | h | h
    · have a : decide ((st i).2.1 < (r : Int)) = true := by simpa using h
      have b : decide ((r : Int) < (st i).2.1) = false := by simp; omega
      have c : ((st i).2.1 == (r : Int)) = false := by simp; omega
      simp [a, b, c]
    · simp [h]
    · have a : decide ((st i).2.1 < (r : Int)) = false := by simp; omega
      have b : decide ((r : Int) < (st i).2.1) = true := by simpa using h
      have c : ((st i).2.1 == (r : Int)) = false := by simp; omega
      simp [a, b, c]
  · rw [(anyB_false _ _).2 (fun j hj => by unfold deafAt; have := h1 j hj; simp [this]), h2]
    have : decide ((r : Int) < 5) = true := by simp; omega
    simp [this]
/-- Does the i-th stop stop p by round r? -/
def stopAt (st : Nat → Int × Int × Int) (p : Nat) (r : Int) (i : Nat) : Bool := (st i).1 == (p : Int) && decide ((st i).2.1 ≤ r)
def stopsB (st : Nat → Int × Int × Int) (m p : Nat) (r : Int) : Bool := anyB (stopAt st p r) m
theorem stops_eq {n m : Nat} {x : Nat → Int} {st : Nat → Int × Int × Int} (h : runB n x m st = true) (p : Nat) (r : Int) (hr : r ≤ 4) : stopsB st m p r = decide ((stopF st m p).2.1 ≤ r) := by
  unfold stopsB
  rcases stop_find h (p : Int) with ⟨i, h1, h2, h3, h4⟩ | ⟨h1, h2⟩
  · rw [any_one h1 (fun j hj e => h4 j hj (by simp only [stopAt, Bool.and_eq_true, beq_iff_eq] at e; exact e.1)), h3]
    unfold stopAt
    simp [h2]
  · rw [(anyB_false _ _).2 (fun j hj => by unfold stopAt; have := h1 j hj; simp [this]), h2]
    have : ¬ (5 : Int) ≤ r := by omega
    simp [this]
theorem orN_acc (f : Nat → Bool) (g : Nat → Nat) (acc : Nat) : ∀ k, orN f g acc k ||| acc = orN f g acc k
  | 0 => Nat.or_self acc
  | k + 1 => by
    simp only [orN]
    split
    · rw [Nat.or_assoc, Nat.or_comm (g k) acc, ← Nat.or_assoc, orN_acc f g acc k]
    · exact orN_acc f g acc k
/-- What a process hears of itself turns nothing. -/
theorem orN_self (f f' : Nat → Bool) (g : Nat → Nat) (p : Nat) : ∀ k, (∀ q, q < k → q ≠ p → f' q = f q) → f' p = false → orN f g (g p) k = orN f' g (g p) k
  | 0, _, _ => rfl
  | k + 1, h, hp => by
    have ih := orN_self f f' g p k (fun q hq => h q (by omega)) hp
    simp only [orN]
    by_cases e : k = p
    · subst e
      rw [hp, ih]
      split
      · rw [orN_acc]; rfl
      · rfl
    · rw [h k (by omega) e, ih]
/-- The reference's wish: p learns of q in round r. -/
def wishB (st : Nat → Int × Int × Int) (m p r q : Nat) : Bool := decide (p ≠ q) && hearsB st m q p r && !stopsB st m p ((r : Int) - 1)
theorem orN_none (f : Nat → Bool) (g : Nat → Nat) (acc : Nat) : ∀ k, (∀ q, q < k → f q = false) → orN f g acc k = acc
  | 0, _ => rfl
  | k + 1, h => by simp only [orN]; rw [h k (by omega)]; exact orN_none f g acc k (fun q hq => h q (by omega))
theorem aft_wish {n m : Nat} {x : Nat → Int} {st : Nat → Int × Int × Int} (h : runB n x m st = true) (k p : Nat) (hk : k + 1 ≤ 4) : aft n st m (k + 1) p = orN (wishB st m p (k + 1)) (aft n st m k) (aft n st m k p) n := by
  have hs := stops_eq h p (((k + 1 : Nat) : Int) - 1) (by omega)
  simp only [aft]
  split
  · next hd =>
    rw [orN_none]
    intro q _
    unfold wishB
    rw [hs]
    have : decide ((stopF st m p).2.1 ≤ ((k + 1 : Nat) : Int) - 1) = true := by simp; omega
    rw [this]; simp
  · next hd =>
    refine orN_self _ _ _ _ _ (fun q _ hq => ?_) (by unfold wishB; simp)
    have e1 : decide ((stopF st m p).2.1 ≤ ((k + 1 : Nat) : Int) - 1) = false := by simp; omega
    have e2 : decide (p ≠ q) = true := by simpa using fun e => hq e.symm
    unfold wishB
    rw [hs, e1, e2, hears_eq h q p (k + 1) hk]
    simp
end Go.Proofs.Ytepgogaoppdllaa
