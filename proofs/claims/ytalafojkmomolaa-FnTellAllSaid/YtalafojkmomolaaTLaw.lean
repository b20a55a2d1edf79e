/-
  Plain laws on the view in which all are told of a set: it is valid, the set is common in it, and told again nothing changes. Condition: at most 16 worlds.
-/
import Derived.Test.YtalafojkmomolaaTell
import Derived.Test.YtalafojkmomolaaKLaw
namespace Go.Proofs.Ytalafojkmomolaa
open Go.RowKit

theorem tell_at (x : Nat → Nat → Int) (s W n i j : Nat) (hi : i < n) (hj : j < W) : ((tellRR x s W n).getD i []).getD j 0 = idxB (like x s i j) W := by
  simp [tellRR, tellR, hi, hj]
theorem tell_len (x : Nat → Nat → Int) (s W n i : Nat) (hi : i < n) : ((tellRR x s W n).getD i []).length = W := by
  simp [tellRR, tellR, hi]
theorem idxB_some {p : Nat → Bool} {n v : Nat} (hv : v < n) (hp : p v = true) : ∃ t, t < n ∧ idxB p n = (t : Int) ∧ p t = true := by
  unfold idxB
  split
  · rename_i k hk
    rw [List.find?_range_eq_some] at hk
    exact ⟨k, by simpa using hk.2.1, rfl, hk.1⟩
  · rename_i hn
    rw [List.find?_range_eq_none] at hn
    have := hn v (by simpa using hv)
    simp [hp] at this
theorem like_iff (x : Nat → Nat → Int) (s a v u : Nat) : like x s a v u = true ↔ x a u = x a v ∧ s.testBit u = s.testBit v := by
  unfold like; simp
theorem like_congr {x : Nat → Nat → Int} {s a v u : Nat} (h : like x s a v u = true) : like x s a v = like x s a u := by
  funext i
  rw [like_iff] at h
  unfold like
  rw [h.1, h.2]
theorem same_idx (x : Nat → Nat → Int) (s W a u v : Nat) (hu : u < W) (hv : v < W) : (idxB (like x s a u) W = idxB (like x s a v) W) ↔ like x s a v u = true := by
  constructor
  · intro h
    obtain ⟨t, ht, e1, h1⟩ := idxB_some hu (like_self x s a u)
    obtain ⟨t', ht', e2, h2⟩ := idxB_some hv (like_self x s a v)
    have : t = t' := by omega
    subst this
    rw [like_iff] at *
    exact ⟨h1.1.symm.trans h2.1, h1.2.symm.trans h2.2⟩
  · intro h
    rw [like_congr h]
/-- What is told, as an index function. -/
def toldX (x : Nat → Nat → Int) (s W n : Nat) : Nat → Nat → Int := fun i j => ((tellRR x s W n).getD i []).getD j 0
theorem like_told (x : Nat → Nat → Int) (s W n a u v : Nat) (ha : a < n) (hu : u < W) (hv : v < W) : like (toldX x s W n) s a v u = like x s a v u := by
  rw [Bool.eq_iff_iff, like_iff, like_iff]
  unfold toldX
  rw [tell_at x s W n a u ha hu, tell_at x s W n a v ha hv, same_idx x s W a u v hu hv, like_iff]
  constructor
  · rintro ⟨h, _⟩; exact h
  · intro h; exact ⟨h, h.2⟩
theorem find_congr {p q : Nat → Bool} : ∀ (l : List Nat), (∀ i, i ∈ l → p i = q i) → l.find? p = l.find? q
  | [], _ => rfl
  | a :: l, h => by
    simp only [List.find?_cons, h a (by simp)]
    rw [find_congr l (fun i hi => h i (by simp [hi]))]
theorem idxB_congr {p q : Nat → Bool} {n : Nat} (h : ∀ i, i < n → p i = q i) : idxB p n = idxB q n := by
  have e : (List.range n).find? p = (List.range n).find? q := by
    apply find_congr
    intro i hi
    exact h i (by simpa using hi)
  unfold idxB
  rw [e]
theorem told_again (x : Nat → Nat → Int) (s W n : Nat) : tellRR (toldX x s W n) s W n = tellRR x s W n := by
  unfold tellRR
  apply List.map_congr_left
  intro a ha
  have ha' : a < n := by simpa using ha
  unfold tellR
  apply List.map_congr_left
  intro v hv
  have hv' : v < W := by simpa using hv
  exact idxB_congr fun u hu => like_told x s W n a u v ha' hu hv'
theorem told_told (x : Nat → Nat → Int) (s W n : Nat) : toldX (toldX x s W n) s W n = toldX x s W n := by
  show (fun i j => ((tellRR (toldX x s W n) s W n).getD i []).getD j 0) = _
  rw [told_again]
  rfl
theorem told_valid {x : Nat → Nat → Int} {s W n : Nat} {r : Nat → Option Addr × Nat × Nat} (h1 : 1 ≤ W) (h2 : W ≤ 16) (h3 : 1 ≤ n) (h4 : n ≤ 4) (hr : ∀ i, i < n → (r i).2.1 = W) : validB W n r (toldX x s W n) = true := by
  rw [validB_iff]
  refine ⟨⟨by omega, by omega⟩, ⟨h3, h4⟩, fun i hi => ⟨by rw [hr i hi], fun j hj => ?_⟩⟩
  rw [hr i hi] at hj
  unfold toldX
  rw [tell_at x s W n i j hi hj]
  obtain ⟨t, ht, e, _⟩ := idxB_some hj (like_self x s i j)
  omega
theorem told_setB {x : Nat → Nat → Int} {s W n : Nat} {r : Nat → Option Addr × Nat × Nat} (h1 : 1 ≤ W) (h2 : W ≤ 16) (h3 : 1 ≤ n) (h4 : n ≤ 4) (hr : ∀ i, i < n → (r i).2.1 = W) (hs : s < 2 ^ W) : setB W n r (toldX x s W n) s = true := by
  unfold setB
  rw [told_valid h1 h2 h3 h4 hr, inB_mk (by omega) (by rw [Int.toNat_natCast]; omega)]; rfl
theorem told_common (x : Nat → Nat → Int) (s W n : Nat) (hW : W ≤ 16) (hs : s < 2 ^ W) (hs2 : s < 131072) : comB (fun t => allB (toldX x s W n) W t n) s = s := by
  apply comB_stay
  rw [sub_iff]
  intro v hv
  have hvW : v < W := by
    apply Classical.byContradiction
    intro h
    rw [Nat.testBit_lt_two_pow (Nat.lt_of_lt_of_le hs (Nat.pow_le_pow_right (by omega) (by omega)))] at hv
    cases hv
  have key : ∀ k, k ≤ n → (allB (toldX x s W n) W s k).testBit v = true := by
    intro k
    induction k with
    | zero => intro _; simp [allB, maskB_testBit, hvW]
    | succ k ih =>
      intro hk
      simp only [allB, Nat.testBit_and, Bool.and_eq_true]
      refine ⟨ih (by omega), ?_⟩
      rw [knowsB_pt _ W k s hW hs2, maskB_testBit, Bool.and_eq_true]
      refine ⟨by simpa using hvW, ?_⟩
      rw [Bool.not_eq_true', anyB_false]
      intro u hu
      unfold against
      cases hx : (toldX x s W n k u == toldX x s W n k v)
      · rfl
      · have hx' : toldX x s W n k u = toldX x s W n k v := by simpa using hx
        unfold toldX at hx'
        rw [tell_at x s W n k u (by omega) hu, tell_at x s W n k v (by omega) hvW, same_idx x s W k u v hu hvW, like_iff] at hx'
        rw [hx'.2, hv]; rfl
  exact key n (Nat.le_refl _)
end Go.Proofs.Ytalafojkmomolaa
