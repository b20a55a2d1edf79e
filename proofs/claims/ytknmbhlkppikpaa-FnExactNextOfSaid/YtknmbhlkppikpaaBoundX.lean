/-
  Bounds on the exact laws' answers; two lists with the same contents. No condition.
-/
import Derived.Test.YtknmbhlkppikpaaExactCr
import Derived.Test.YtknmbhlkppikpaaWrap
namespace Go.Proofs.Ytknmbhlkppikpaa
set_option linter.unusedVariables false
open Go.RowKit

theorem boundNextOf {nS nA nB : Nat} (s : Nat → Int) (rA rB : Nat → Option Addr × Nat × Nat) (f g : Nat → Nat → Int) (l : List Int) : (if (rulB nS s nA rA f nB rB g && crwB nS l) then nextL (natF f) (natF g) nS l else []).length ≤ 1296 ∧ ∀ x ∈ (if (rulB nS s nA rA f nB rB g && crwB nS l) then nextL (natF f) (natF g) nS l else []), x.length ≤ 4 := by
  split
  · rename_i h
    obtain ⟨h1, h2⟩ := Bool.and_eq_true_iff.1 h
    obtain ⟨h3, h4, h5, h6⟩ := rulB_iff.1 h1
    have hW := crwB_iff.1 h2
    have hR : Rul nS (natF f) (natF g) := fun a b ha hb => by
      have h7 := ((h6 a ha).2.2.2 b hb)
      unfold natF
      omega
    exact ⟨crowds_le h3.2 (sl_canL _).nodup (fun x hx => (next_crw hR hW hx).1), fun x hx => by have := (next_crw hR hW hx).1.len; omega⟩
  · simp
theorem boundReachedOf {nS nA nB : Nat} (s : Nat → Int) (rA rB : Nat → Option Addr × Nat × Nat) (f g : Nat → Nat → Int) (l : List Int) : (if (rulB nS s nA rA f nB rB g && crwB nS l) then rchL (natF f) (natF g) nS l else []).length ≤ 1296 ∧ ∀ x ∈ (if (rulB nS s nA rA f nB rB g && crwB nS l) then rchL (natF f) (natF g) nS l else []), x.length ≤ 4 := by
  split
  · rename_i h
    obtain ⟨h1, h2⟩ := Bool.and_eq_true_iff.1 h
    obtain ⟨h3, h4, h5, h6⟩ := rulB_iff.1 h1
    have hW := crwB_iff.1 h2
    have hR : Rul nS (natF f) (natF g) := fun a b ha hb => by
      have h7 := ((h6 a ha).2.2.2 b hb)
      unfold natF
      omega
    by_cases hM : ∃ M, SL M ∧ ∀ x, x ∈ M ↔ Rch (natF f) (natF g) nS l x
    · obtain ⟨M, hs, hm⟩ := hM
      rw [rchL_eq hs hm]
      exact ⟨crowds_le h3.2 hs.nodup (fun x hx => (((hm x).1 hx).crw hR hW).1), fun x hx => by have := (((hm x).1 hx).crw hR hW).1.len; omega⟩
    · unfold rchL
      rw [dif_neg hM]
      simp
  · simp
theorem sumTo_bd (L : Nat → Nat) (b : Nat) : ∀ n, (∀ i, i < n → L i ≤ b) → sumTo L n ≤ b * n
  | 0, _ => by simp [sumTo]
  | n + 1, h => by
    have h1 := sumTo_bd L b n (fun i hi => h i (by omega))
    have h2 := h n (by omega)
    rw [sumTo, Nat.mul_succ]
    omega
theorem Crn.rows' {w : World} {lo m : Nat} {A : Option Addr} {R : List Hdr} (h : Crn w lo A m R) : Rows w A m (hdrR R) (numR R) := fun i hi => by
  rcases h.top with h0 | ⟨g, cur, e, h1⟩
  · omega
  · subst e
    exact h.rows i hi
theorem hdr_eq {R R' : List Hdr} {m : Nat} (h : R.map (·.l) = R'.map (·.l)) (hl : R.length = m) : ∀ i, i < m → (hdrR R i).2.1 = (hdrR R' i).2.1 ∧ ∀ j, j < (hdrR R i).2.1 → numR R i j = numR R' i j := fun i hi => by
  have hl' : R'.length = m := by
    have h1 := congrArg List.length h
    rw [List.length_map, List.length_map] at h1
    omega
  have h2 : (R.getD i default).l = (R'.getD i default).l := by
    have h3 := congrArg (fun t : List (List Int) => t[i]?) h
    simp only [List.getElem?_map, List.getElem?_eq_getElem (show i < R.length by omega), List.getElem?_eq_getElem (show i < R'.length by omega)] at h3
    rw [List.getD_eq_getElem?_getD, List.getD_eq_getElem?_getD, List.getElem?_eq_getElem (by omega), List.getElem?_eq_getElem (by omega)]
    simpa using h3
  refine ⟨by unfold hdrR; dsimp only; rw [h2], fun j _ => by unfold numR; rw [h2]⟩
end Go.Proofs.Ytknmbhlkppikpaa
