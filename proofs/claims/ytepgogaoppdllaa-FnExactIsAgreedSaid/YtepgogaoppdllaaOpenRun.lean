/-
  A run that came in by value, opened: its inputs and its stops as numbers in memory. No condition.
-/
import Derived.Test.YtepgogaoppdllaaRun
import Derived.Lib.SmallJoins
import Derived.ProofKit
import Derived.OpenShut
import Derived.ChangeOld
namespace Go.Proofs.Ytepgogaoppdllaa
open Go.ChangeShapes Go.WideShapes Go.ChangeAt Go.RowKit Go.Deep Go.Joins

section
variable {H : Type} {enc : TypeId × Value → H} {w : World} {base : Nat} {held : Bool}

theorem row_ints {a : Addr} {n len : Nat} {zs : List Int} (hl : len ≤ n) (hz : zs.length = n) (hc : ∀ i, i < zs.length → w.cell? (a.add i) = some (.int .i64 (zs.getD i 0))) : Ints w (some a) len (fun i => zs.getD i 0) := by
  intro i hi
  have h0 := hc i (by omega)
  have h1 := hc 0 (by omega)
  obtain ⟨b, off, spot⟩ := a
  have hspot : spot = none := by simpa [Addr.add] using World.cell?_spot h1
  subst hspot
  refine ⟨b, off, rfl, ?_⟩
  rw [← Addr.add_lit]
  exact h0
theorem open_ints' {fuel : Nat} {v : Value} {y : DataW H × List MemPlace} (h : DataW.trod enc Try.prog w base (fun _ => true) held fuel 23 [v] = some y) :
    ∃ (A : Option Addr) (n c : Nat) (x : Nat → Int), v = .slice A n c ∧ Ints w A n x ∧ n ≤ 9223372036854775807 := by
  rcases open_ints Try.underlying23 Try.underlying3 (by kernel_rfl) h with ⟨hcs, _⟩ | ⟨a, l, c, zs, hcs, _, hl, hm, hz, _, hcell, _⟩
  · obtain rfl : v = .slice none 0 0 := by simpa using hcs
    exact ⟨none, 0, 0, fun _ => 0, rfl, fun i hi => absurd hi (Nat.not_lt_zero _), by omega⟩
  · obtain rfl : v = .slice (some a) l c := by simpa using hcs
    simp only [if_true] at hz
    exact ⟨some a, l, c, _, rfl, row_ints hl hz hcell, by unfold maxLen at hm; omega⟩
theorem open_stops {fuel : Nat} {v : Value} {y : DataW H × List MemPlace} (h : DataW.trod enc Try.prog w base (fun _ => true) held fuel 41 [v] = some y) :
    ∃ (S : Option Addr) (m d : Nat) (st : Nat → Int × Int × Int), v = .slice S m d ∧ Stops w S m st ∧ m ≤ 9223372036854775807 := by
  rcases open_slice Try.underlying41 h with ⟨hcs, _⟩ | ⟨a, len, cap, m, n, D, Pl, hcs, _, hl, hm, hmm, _, hi⟩
  · obtain rfl : v = .slice none 0 0 := by simpa using hcs
    exact ⟨none, 0, 0, fun _ => (0, 0, 0), rfl, fun i hi => absurd hi (Nat.not_lt_zero _), by omega⟩
  · obtain rfl : v = .slice (some a) len cap := by simpa using hcs
    simp only [if_true] at hmm
    subst hmm
    have hC : Try.prog.cellsOf 82 = 3 := by kernel_rfl
    rw [hC] at hi
    have each : ∀ i, i < len → ∃ t : Int × Int × Int, w.cell? (a.add (i * 3)) = some (.int .i64 t.1) ∧ w.cell? (a.add (i * 3 + 1)) = some (.int .i64 t.2.1) ∧ w.cell? (a.add (i * 3 + 2)) = some (.int .i64 t.2.2) := by
      intro i hil
      obtain ⟨cs', hc, ht'⟩ := hi i (by omega)
      obtain ⟨_, hcl, hat⟩ := World.cells?_some hc
      obtain ⟨y0, y1, y2, k, _, _, t0, t1, t2⟩ := trod_struct3 Try.underlying82 ht'
      match cs', hcl with
      | [c0, c1, c2], _ =>
        have hI : Try.prog.cellsOf 3 = 1 := by kernel_rfl
        simp only [hI] at t0 t1 t2
        obtain ⟨z0, e0, _⟩ := DataW.trod_int Try.underlying3 t0
        obtain ⟨z1, e1, _⟩ := DataW.trod_int Try.underlying3 t1
        obtain ⟨z2, e2, _⟩ := DataW.trod_int Try.underlying3 t2
        obtain rfl : c0 = .int .i64 z0 := by simpa using e0
        obtain rfl : c1 = .int .i64 z1 := by simpa using e1
        obtain rfl : c2 = .int .i64 z2 := by simpa using e2
        have g0 := hat 0 (by omega)
        have g1 := hat 1 (by omega)
        have g2 := hat 2 (by omega)
        rw [Deep.add_add] at g0 g1 g2
        exact ⟨(z0, z1, z2), by simpa using g0, by simpa using g1, by simpa using g2⟩
    obtain ⟨st, hst⟩ := choose_lt each
    refine ⟨some a, len, m, st, rfl, fun i hil => ?_, by unfold maxLen at hm; omega⟩
    obtain ⟨g0, g1, g2⟩ := hst i hil
    obtain ⟨gz, _, _⟩ := hst 0 (by omega)
    obtain ⟨b, off, spot⟩ := a
    have hspot : spot = none := by simpa [Addr.add] using World.cell?_spot gz
    subst hspot
    rw [Addr.add_lit] at g0 g1 g2
    exact ⟨b, off, rfl, g0, by rw [Nat.add_assoc]; exact g1, by rw [Nat.add_assoc]; exact g2⟩
theorem open_run {r : Reach} {b0 : Nat} {v : Value} {d : DataW H} {p : List MemPlace} (hv : Value.okWide Try.prog w r b0 43 v) (h : DataW.Trod enc Try.prog w base (fun _ => true) held 43 v d p) :
    ∃ (A S : Option Addr) (n c m k : Nat) (x : Nat → Int) (st : Nat → Int × Int × Int), v = .agg #[.slice A n c, .slice S m k] ∧ Ints w A n x ∧ Stops w S m st ∧ n ≤ 9223372036854775807 ∧ m ≤ 9223372036854775807 := by
  obtain ⟨v0, v1, y0, y1, f, rfl, _, _, t0, t1⟩ := open_agg2 Try.underlying43 (by kernel_rfl) (by kernel_rfl) hv h
  obtain ⟨A, n, c, x, rfl, h1, h2⟩ := open_ints' t0
  obtain ⟨S, m, k, st, rfl, h3, h4⟩ := open_stops t1
  exact ⟨A, S, n, c, m, k, x, st, rfl, h1, h3, h2, h4⟩
end
end Go.Proofs.Ytepgogaoppdllaa
