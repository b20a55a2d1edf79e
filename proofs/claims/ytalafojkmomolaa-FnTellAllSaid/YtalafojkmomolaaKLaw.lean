/-
  Plain laws on sets of worlds: knowing grows with the set; what is common is in the set, and known in common. Condition: at most 16 worlds.
-/
import Derived.Test.YtalafojkmomolaaSAll
namespace Go.Proofs.Ytalafojkmomolaa
open Go.RowKit

theorem comF_sub (f : Nat → Nat) (k : Nat) : ∀ s, comF f k s &&& s = comF f k s := by
  induction k with
  | zero => intro s; simp [comF]
  | succ k ih =>
    intro s
    simp only [comF]
    split
    · simp
    · have h := ih (s &&& f s)
      rw [← h, Nat.and_assoc, Nat.and_assoc, Nat.and_comm (f s) s, ← Nat.and_assoc s s, Nat.and_self]
theorem comB_sub (f : Nat → Nat) (s : Nat) : comB f s &&& s = comB f s := comF_sub f s s
theorem comF_fix (f : Nat → Nat) (k : Nat) : ∀ s, s ≤ k → comF f k s &&& f (comF f k s) = comF f k s := by
  induction k with
  | zero =>
    intro s hs
    have : s = 0 := by omega
    subst this
    simp [comF]
  | succ k ih =>
    intro s hs
    simp only [comF]
    split
    · assumption
    · rename_i h
      have : s &&& f s ≤ s := Nat.and_le_left
      exact ih _ (by omega)
theorem comB_fix (f : Nat → Nat) (s : Nat) : comB f s &&& f (comB f s) = comB f s := comF_fix f s s (Nat.le_refl _)
theorem comB_le (f : Nat → Nat) (s : Nat) : comB f s ≤ s := by rw [← comB_sub f s]; exact Nat.and_le_right
theorem comB_self (f : Nat → Nat) (s : Nat) : comB f (comB f s) = comB f s := comB_stay f _ (comB_fix f s)
theorem sub_iff (a b : Nat) : a &&& b = a ↔ ∀ i, a.testBit i = true → b.testBit i = true := by
  constructor
  · intro h i ha
    rw [← h, Nat.testBit_and, Bool.and_eq_true] at ha
    exact ha.2
  · intro h
    apply Nat.eq_of_testBit_eq
    intro i
    rw [Nat.testBit_and]
    cases ha : a.testBit i
    · rfl
    · simp [h i ha]
theorem against_mono {x : Nat → Nat → Int} {a s t v u : Nat} (h : s &&& t = s) (ha : against x a t v u = true) : against x a s v u = true := by
  unfold against at *
  rw [Bool.and_eq_true] at *
  refine ⟨ha.1, ?_⟩
  cases hs : s.testBit u
  · rfl
  · have := (sub_iff s t).1 h u hs
    rw [this] at ha
    exact absurd ha.2 (by simp)
theorem knowsB_mono (x : Nat → Nat → Int) (W a s t : Nat) (hW : W ≤ 16) (hs : s < 131072) (ht : t < 131072) (h : s &&& t = s) : knowsB x W a s &&& knowsB x W a t = knowsB x W a s := by
  rw [knowsB_pt x W a s hW hs, knowsB_pt x W a t hW ht, sub_iff]
  intro i hi
  rw [maskB_testBit, Bool.and_eq_true] at *
  refine ⟨hi.1, ?_⟩
  have h2 := hi.2
  rw [Bool.not_eq_true', anyB_false] at *
  intro u hu
  cases hc : against x a t i u
  · rfl
  · have h3 := against_mono h hc
    rw [h2 u hu] at h3
    cases h3
theorem allB_mono (x : Nat → Nat → Int) (W s t k : Nat) (hW : W ≤ 16) (hs : s < 131072) (ht : t < 131072) (h : s &&& t = s) : allB x W s k &&& allB x W t k = allB x W s k := by
  induction k with
  | zero => exact Nat.and_self _
  | succ k ih =>
    have h2 := knowsB_mono x W k s t hW hs ht h
    rw [sub_iff] at *
    intro i hi
    simp only [allB, Nat.testBit_and, Bool.and_eq_true] at *
    exact ⟨ih i hi.1, h2 i hi.2⟩
/-- What is common is known to all of the set itself. -/
theorem com_known (x : Nat → Nat → Int) (W s k : Nat) (hW : W ≤ 16) (hs : s < 131072) : allB x W s k &&& comB (fun s => allB x W s k) s = comB (fun s => allB x W s k) s := by
  have h1 := comB_sub (fun s => allB x W s k) s
  have h2 := comB_fix (fun s => allB x W s k) s
  have hl := comB_le (fun s => allB x W s k) s
  generalize comB (fun s => allB x W s k) s = c at *
  have h3 := allB_mono x W c s k hW (by omega) hs h1
  rw [Nat.and_comm, sub_iff]
  intro i hi
  exact (sub_iff _ _).1 h3 i ((sub_iff _ _).1 h2 i hi)
theorem setB_sub {Z S c m : Nat} {r : Nat → Option Addr × Nat × Nat} {x : Nat → Nat → Int} (h : setB Z m r x S = true) (hc : c ≤ S) : setB Z m r x c = true := by
  unfold setB at *
  rw [Bool.and_eq_true] at *
  obtain ⟨h1, h2⟩ := inB_true h.2
  exact ⟨h.1, inB_mk (by omega) (by omega)⟩
theorem beq_and {a b c : Nat} (ha : a < 9223372036854775808) (hb : b < 9223372036854775808) (h : a &&& b = c) : (bits .and .i64 (a : Int) (b : Int) == (c : Int)) = true := by
  rw [bits_and a b ha hb, h]; simp
end Go.Proofs.Ytalafojkmomolaa
