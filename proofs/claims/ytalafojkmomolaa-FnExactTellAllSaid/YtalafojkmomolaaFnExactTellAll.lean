/-
  The statement FnExactTellAll: whatever the view and the set are, the law returns true. No condition.
-/
import Derived.Test.YtalafojkmomolaaWExactTellAll
import Derived.Lib.SmallJoins
import Derived.Deep.Matrix
import Derived.WalkKit
import Derived.ProofKit
import Derived.OpenShut
import Derived.ChangeOld
import Derived.Below
namespace Go.Proofs.Ytalafojkmomolaa.fnExactTellAll
open Go.ChangeShapes Go.WideShapes Go.ChangeAt Go.RowKit Go.Deep Go.Joins
set_option linter.unusedVariables false

theorem own : ownKnob Try.prog.godebug = none := by kernel_rfl
theorem laidOut : laidOutB Try.prog = true := by kernel_rfl

section
variable {H : Type} {enc : TypeId × Value → H} {w : World} {base : Nat} {held : Bool}
theorem open_rows {fuel : Nat} {v : Value} {y : DataW H × List MemPlace} (h : DataW.trod enc Try.prog w base (fun _ => true) held fuel 23 [v] = some y) :
    ∃ (A : Option Addr) (n c : Nat) (r : Nat → Option Addr × Nat × Nat) (x : Nat → Nat → Int), v = .slice A n c ∧ Rows w A n r x ∧ n ≤ 9223372036854775807 ∧ ∀ i, i < n → (r i).2.1 ≤ 9223372036854775807 := by
  rcases open_int_rows Try.underlying23 Try.underlying56 Try.underlying3 (by kernel_rfl) (by kernel_rfl) h with ⟨hcs, _⟩ | ⟨a, len, cap, A, L, C, Z, hcs, _, hl, hm, _, hi⟩
  · obtain rfl : v = .slice none 0 0 := by simpa using hcs
    exact ⟨none, 0, 0, fun _ => (none, 0, 0), fun _ _ => 0, rfl, fun i hi => absurd hi (Nat.not_lt_zero _), by omega, fun i hi => absurd hi (Nat.not_lt_zero _)⟩
  · obtain rfl : v = .slice (some a) len cap := by simpa using hcs
    refine ⟨some a, len, cap, fun i => (A i, L i, C i), fun i j => (Z i).getD j 0, rfl, fun i hil => ?_, by unfold maxLen at hm; omega, fun i hil => ?_⟩
    · obtain ⟨h1, h2, h3, h4, h5, h6, h7⟩ := hi i (by omega)
      obtain ⟨g1, _⟩ := hi 0 (by omega)
      obtain ⟨b, off, spot⟩ := a
      have hspot : spot = none := by simpa [Addr.add] using World.cell?_spot g1
      subst hspot
      refine ⟨⟨b, off, rfl, by rw [← Addr.add_lit]; exact h1⟩, fun j hj => ?_⟩
      dsimp only at hj ⊢
      match hA : A i with
      | none => have := h6 hA; omega
      | some a' =>
        obtain ⟨_, hc⟩ := h7 a' hA
        have k1 := hc j (by omega)
        have k0 := hc 0 (by omega)
        obtain ⟨b', off', spot'⟩ := a'
        have hspot : spot' = none := by simpa [Addr.add] using World.cell?_spot k0
        subst hspot
        exact ⟨b', off', rfl, by rw [← Addr.add_lit]; exact k1⟩
    · obtain ⟨h1, h2, h3, _⟩ := hi i (by omega)
      dsimp only
      unfold maxLen at h3
      omega
theorem open_view {r : Reach} {b0 : Nat} {v : Value} {d : DataW H} {p : List MemPlace} (hv : Value.okWide Try.prog w r b0 32 v) (h : DataW.Trod enc Try.prog w base (fun _ => true) held 32 v d p) :
    ∃ (A : Option Addr) (n c : Nat) (W : Int) (r : Nat → Option Addr × Nat × Nat) (x : Nat → Nat → Int), v = .agg #[.int .i64 W, .slice A n c] ∧ Rows w A n r x ∧ n ≤ 9223372036854775807 ∧ ∀ i, i < n → (r i).2.1 ≤ 9223372036854775807 := by
  obtain ⟨v0, v1, y0, y1, f, rfl, _, _, t0, t1⟩ := open_agg2 Try.underlying32 (by kernel_rfl) (by kernel_rfl) hv h
  obtain ⟨z0, e0, _⟩ := DataW.trod_int Try.underlying3 t0
  obtain rfl : v0 = .int .i64 z0 := by simpa using e0
  obtain ⟨A, n, c, r, x, rfl, h1, h2, h3⟩ := open_rows t1
  exact ⟨A, n, c, z0, r, x, rfl, h1, h2, h3⟩
end

set_option maxRecDepth 100000 in
theorem lifted (os : Os) (started : os.Started) (H : Type) (enc : TypeId × Value → H) :
    ReturnsInHanded {} Try.checked os 5 .any (Rows.fnExactTellAllSpec.pre6 enc Try.prog Try.f5 Rows.fnExactTellAllRow.domain false) (Rows.fnExactTellAllSpec.post enc Try.prog Try.f5 false true false false) := by
  refine returnsInHanded_of_change (C := Try.checked) own started (by kernel_rfl) Try.func5
    (ChangeSpec.witness6 (enc := enc) (C := Try.checked) false ⟨#[], #[.agg #[.int .i64 0, .slice none 0 0], .int .i64 0], []⟩ 8 (by kernel_rfl) (by kernel_rfl) (by kernel_rfl) (by kernel_rfl)) ?_
  intro W base args ds gs before hval0 hW hcnd _
  have hval : ∀ (j : Nat) t v, Try.f5.params[j]? = some t → args[j]? = some v → Value.okWide Try.prog W .any base t v := hval0
  have hW' := hW
  obtain ⟨p, q, hA0, hV, rfl, hfz, hnd⟩ := hW
  have hA : DataW.TrodAll enc Try.prog W 0 (fun _ => true) true Try.f5.params.toList args.toList ds p := hA0
  rw [Try.params5] at hA hval
  obtain ⟨v0, vs0, d0, ds0, p0, q0, hargs, rfl, rfl, h0, r0⟩ := trodAll_cons hA
  obtain ⟨v1, vs1, d1, ds1, p1, q1, rfl, rfl, rfl, h1, r1⟩ := trodAll_cons r0
  obtain ⟨rfl, rfl, rfl⟩ := trodAll_nil r1
  obtain rfl : args = #[v0, v1] := by cases args; simp_all
  obtain ⟨rfl, rfl⟩ := trodVars_none hV
  obtain ⟨A, n, c, V, r, x, rfl, hR, hn, hl⟩ := open_view (hval 0 32 v0 rfl rfl) h0
  obtain ⟨s, rfl, _, _, _⟩ := open_int Try.underlying3 (hval 1 3 v1 rfl rfl) h1
  have k0 := h0
  have k1 := h1
  have lt0 : ∀ x ∈ p0, x.block < W.heap.size := by obtain ⟨m, hm⟩ := k0; exact DataW.trod_lt m _ _ _ hm
  have lt1 : ∀ x ∈ p1, x.block < W.heap.size := by obtain ⟨m, hm⟩ := k1; exact DataW.trod_lt m _ _ _ hm
  clear hA0 hval0
  refine (FnExactTellAll_walk A n c V s r x W hR hn hl).mono fun e W' ⟨he, bel⟩ => ?_
  subst he
  exact ⟨_, rfl, _, _, _, [], _, [], hW', trodAll_mk1 (shut_bool Try.underlying4 _), (trodAll_cons_mk (Below.trod laidOut (by kernel_rfl) (of_decide_eq_true (by kernel_rfl)) k0 bel lt0) (trodAll_cons_mk (Below.trod laidOut (by kernel_rfl) (of_decide_eq_true (by kernel_rfl)) k1 bel lt1) trodAll_mk0)), rfl, bel.frame _, fun h => by cases h⟩

theorem over : Rows.fnExactTellAllRow.holds Try.pinned (OpenSpec.ofChange Rows.fnExactTellAllSpec) :=
  OpenClaim.holds_of_wide 5 Try.f5 rfl rfl rfl rfl rfl rfl rfl ⟨rfl, rfl, rfl, rfl, rfl⟩ rfl rfl rfl rfl rfl (by kernel_rfl) Try.func5 (by kernel_rfl)
    (of_decide_eq_true (by kernel_rfl)) (by unfold Func.isWrapper; first | (rw [if_pos (by decide +kernel)]; kernel_rfl) | (rw [if_neg (by decide +kernel)]; exact ⟨rfl, rfl⟩))
    (fun os started H enc _ => lifted os started H enc)

theorem proved : Rows.FnExactTellAllSaid := over
#print axioms proved
end Go.Proofs.Ytalafojkmomolaa.fnExactTellAll
