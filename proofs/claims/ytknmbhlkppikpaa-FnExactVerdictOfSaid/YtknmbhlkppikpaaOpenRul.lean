/-
  Rules that came in, opened: what kinds say, and the two tables. No condition.
-/
import Derived.Test.YtknmbhlkppikpaaRul
import Derived.Lib.SmallJoins
import Derived.Deep.Matrix
import Derived.WalkKit
import Derived.ProofKit
import Derived.OpenShut
import Derived.ChangeOld
namespace Go.Proofs.Ytknmbhlkppikpaa
open Go.ChangeShapes Go.WideShapes Go.ChangeAt Go.RowKit Go.Deep Go.Joins

section
variable {H : Type} {enc : TypeId × Value → H} {w : World} {base : Nat} {held : Bool}
theorem open_rows {fuel : Nat} {v : Value} {y : DataW H × List MemPlace} (h : DataW.trod enc Try.prog w base (fun _ => true) held fuel 23 [v] = some y) :
    ∃ (A : Option Addr) (n c : Nat) (r : Nat → Option Addr × Nat × Nat) (x : Nat → Nat → Int), v = .slice A n c ∧ Rows w A n r x ∧ n ≤ 9223372036854775807 ∧ ∀ i, i < n → (r i).2.1 ≤ 9223372036854775807 := by
  rcases open_int_rows Try.underlying23 Try.underlying22 Try.underlying3 (by kernel_rfl) (by kernel_rfl) h with ⟨hcs, _⟩ | ⟨a, len, cap, A, L, C, Z, hcs, _, hl, hm, _, hi⟩
  · obtain rfl : v = .slice none 0 0 := by simpa using hcs
    exact ⟨none, 0, 0, fun _ => (none, 0, 0), fun _ _ => 0, rfl, fun i hi => absurd hi (Nat.not_lt_zero _), by omega, fun i hi => absurd hi (Nat.not_lt_zero _)⟩
  · obtain rfl : v = .slice (some a) len cap := by simpa using hcs
    refine ⟨some a, len, cap, fun i => (A i, L i, C i), fun i j => (Z i).getD j 0, rfl, fun i hil => ?_, by unfold maxLen at hm; omega, fun i hil => ?_⟩
    · obtain ⟨h1, h2, h3, h4, h5, h6, h7⟩ := hi i (by omega)
      obtain ⟨g1, _⟩ := hi 0 (by omega)
      obtain ⟨b, off, spot⟩ := a
      have hspot : spot = none := by simpa [Addr.add] using World.cell?_spot g1
      subst hspot
      refine ⟨⟨b, off, rfl, by rw [← Addr.add_lit]; exact h1⟩, fun j hj => ?_⟩
      dsimp only at hj ⊢
      match hA : A i with
      | none => have := h6 hA; omega
      | some a' =>
        obtain ⟨_, hc⟩ := h7 a' hA
        have k1 := hc j (by omega)
        have k0 := hc 0 (by omega)
        obtain ⟨b', off', spot'⟩ := a'
        have hspot : spot' = none := by simpa [Addr.add] using World.cell?_spot k0
        subst hspot
        exact ⟨b', off', rfl, by rw [← Addr.add_lit]; exact k1⟩
    · obtain ⟨h1, h2, h3, _⟩ := hi i (by omega)
      dsimp only
      unfold maxLen at h3
      omega
theorem row_intsN {a : Addr} {n len : Nat} {zs : List Int} (hl : len ≤ n) (hz : zs.length = n) (hc : ∀ i, i < zs.length → w.cell? (a.add i) = some (.int .i64 (zs.getD i 0))) : Ints w (some a) len (fun i => zs.getD i 0) := by
  intro i hi
  have h0 := hc i (by omega)
  have h1 := hc 0 (by omega)
  obtain ⟨b, off, spot⟩ := a
  have hspot : spot = none := by simpa [Addr.add] using World.cell?_spot h1
  subst hspot
  refine ⟨b, off, rfl, ?_⟩
  rw [← Addr.add_lit]
  exact h0
theorem open_intsN {fuel : Nat} {v : Value} {y : DataW H × List MemPlace} (h : DataW.trod enc Try.prog w base (fun _ => true) held fuel 22 [v] = some y) :
    ∃ (A : Option Addr) (n c : Nat) (x : Nat → Int), v = .slice A n c ∧ Ints w A n x ∧ n ≤ 9223372036854775807 := by
  rcases open_ints Try.underlying22 Try.underlying3 (by kernel_rfl) h with ⟨hcs, _⟩ | ⟨a, l, c, zs, hcs, _, hl, hm, hz, _, hcell, _⟩
  · obtain rfl : v = .slice none 0 0 := by simpa using hcs
    exact ⟨none, 0, 0, fun _ => 0, rfl, fun i hi => absurd hi (Nat.not_lt_zero _), by omega⟩
  · obtain rfl : v = .slice (some a) l c := by simpa using hcs
    simp only [if_true] at hz
    exact ⟨some a, l, c, _, rfl, row_intsN hl hz hcell, by unfold maxLen at hm; omega⟩
theorem open_rules {r : Reach} {b0 : Nat} {v : Value} {d : DataW H} {p : List MemPlace} (hv : Value.okWide Try.prog w r b0 25 v) (h : DataW.Trod enc Try.prog w base (fun _ => true) held 25 v d p) :
    ∃ (S A B : Option Addr) (nS cS nA cA nB cB : Nat) (s : Nat → Int) (rA rB : Nat → Option Addr × Nat × Nat) (f g : Nat → Nat → Int), v = .agg #[.slice S nS cS, .slice A nA cA, .slice B nB cB] ∧ (Ints w S nS s ∧ Rows w A nA rA f ∧ Rows w B nB rB g) ∧ nS ≤ 9223372036854775807 ∧ nA ≤ 9223372036854775807 ∧ nB ≤ 9223372036854775807 ∧ (∀ i, i < nA → (rA i).2.1 ≤ 9223372036854775807) ∧ (∀ i, i < nB → (rB i).2.1 ≤ 9223372036854775807) := by
  obtain ⟨v0, v1, v2, y0, y1, y2, f, rfl, _, _, t0, t1, t2⟩ := open_agg3 Try.underlying25 (by kernel_rfl) (by kernel_rfl) hv h
  obtain ⟨S, nS, cS, s, rfl, h4, h5⟩ := open_intsN t0
  obtain ⟨A, nA, cA, rA, f, rfl, h1, h2, h3⟩ := open_rows t1
  obtain ⟨B, nB, cB, rB, g, rfl, h6, h7, h8⟩ := open_rows t2
  exact ⟨S, A, B, nS, cS, nA, cA, nB, cB, s, rA, rB, f, g, rfl, ⟨h4, h1, h6⟩, h5, h2, h7, h3, h8⟩
end
end Go.Proofs.Ytknmbhlkppikpaa
