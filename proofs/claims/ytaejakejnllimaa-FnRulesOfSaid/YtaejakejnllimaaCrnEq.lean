/-
  A list of lists that is read, as rows; two with the same contents. No condition.
-/
import Derived.Test.YtaejakejnllimaaRchI
namespace Go.Proofs.Ytaejakejnllimaa
set_option linter.unusedVariables false
open Go.RowKit

theorem Crn.rowsQ {w : World} {lo m : Nat} {A : Option Addr} {R : List Hdr} (h : Crn w lo A m R) : Rows w A m (hdrR R) (numR R) := fun i hi => by
  rcases h.top with h0 | ⟨g, cur, e, h1⟩
  · omega
  · subst e
    exact h.rows i hi
theorem hdrEq {R R' : List Hdr} {m : Nat} (h : R.map (·.l) = R'.map (·.l)) (hl : R.length = m) : ∀ i, i < m → (hdrR R i).2.1 = (hdrR R' i).2.1 ∧ ∀ j, j < (hdrR R i).2.1 → numR R i j = numR R' i j := fun i hi => by
  have hl' : R'.length = m := by
    have h1 := congrArg List.length h
    rw [List.length_map, List.length_map] at h1
    omega
  have h2 : (R.getD i default).l = (R'.getD i default).l := by
    have h3 := congrArg (fun t : List (List Int) => t[i]?) h
    simp only [List.getElem?_map, List.getElem?_eq_getElem (show i < R.length by omega), List.getElem?_eq_getElem (show i < R'.length by omega)] at h3
    rw [List.getD_eq_getElem?_getD, List.getD_eq_getElem?_getD, List.getElem?_eq_getElem (by omega), List.getElem?_eq_getElem (by omega)]
    simpa using h3
  refine ⟨by unfold hdrR; dsimp only; rw [h2], fun j _ => by unfold numR; rw [h2]⟩
end Go.Proofs.Ytaejakejnllimaa
