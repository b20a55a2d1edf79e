/-
  What TellAll answers of a copy, for the exact law: the program's and the reference's answers hold the same numbers. Condition: lengths at most 2^40.
-/
import Derived.Test.YtalafojkmomolaaTellA
import Derived.Test.YtalafojkmomolaaExactView
import Derived.Test.YtalafojkmomolaaEq
namespace Go.Proofs.Ytalafojkmomolaa
open Go.RowKit

/-- The reference's answer: a view of N rows. -/
def SAns (V : Int) (N : Nat) (Ln : Nat → Nat) (X : Nat → Nat → Int) (w : World) (e : Ending) (w' : World) : Prop :=
  ∃ (B : Option Addr) (c0 : Nat) (r0 : Nat → Option Addr × Nat × Nat), e = .returned (.agg #[.int .i64 V, .slice B N c0]) ∧ Rows w' B N r0 X ∧ (∀ i, i < N → (r0 i).2.1 = Ln i) ∧ Keeps w w'
/-- The program's answer: the call's own view of N rows. -/
def IAns (V : Int) (N : Nat) (Ln : Nat → Nat) (X : Nat → Nat → Int) (w : World) (e : Ending) (w' : World) : Prop :=
  ∃ (B : Option Addr) (c0 : Nat) (A : Nat → Option Addr) (Cp : Nat → Nat), e = .returned (.agg #[.int .i64 V, .slice B N c0]) ∧ OwnMat w' w.heap.size B N c0 A Ln Cp X ∧ Keeps w w'
theorem tell_lenX (x : Nat → Nat → Int) (s W n i : Nat) (hi : i < n) : ((tellRR x s W n).getD i []).length = W := by
  simp [tellRR, tellR, hi]
theorem sumTo_const (Ln : Nat → Nat) (V : Nat) : ∀ n, (∀ i, i < n → Ln i = V) → sumTo Ln n = n * V := by
  intro n
  induction n with
  | zero => intro _; simp [sumTo]
  | succ n ih => intro h; rw [sumTo, ih (fun i hi => h i (by omega)), h n (by omega), Nat.succ_mul]
theorem OwnMat.none (w : World) (lo : Nat) (Ln Cp : Nat → Nat) (X : Nat → Nat → Int) : OwnMat w lo none 0 0 (fun _ => .none) Ln Cp X :=
  ⟨World.ownsRow_nil w lo _ 1, fun i hi => absurd hi (Nat.not_lt_zero _), fun i _ hi => absurd hi (Nat.not_lt_zero _)⟩
theorem tell_ans (n : Nat) (r : Nat → Option Addr × Nat × Nat) (x : Nat → Nat → Int) (W s : Int) (hn : n ≤ 1099511627776) (hl : ∀ i, i < n → (r i).2.1 ≤ 1099511627776) :
    ∃ (V : Int) (N : Nat) (Ln : Nat → Nat) (X : Nat → Nat → Int), N ≤ 1048576 ∧ sumTo Ln N ≤ 1048576 ∧
      (∀ (A : Option Addr) (c : Nat) (G : Nat → Option Addr × Nat × Nat) (w : World), (∀ i, (G i).2.1 = (r i).2.1) → Rows w A n G x → Calls Try.prog 17 #[.agg #[.int .i64 W, .slice A n c], .int .i64 s] w (SAns V N Ln X w)) ∧
      (∀ (A : Option Addr) (c : Nat) (G : Nat → Option Addr × Nat × Nat) (w : World), (∀ i, (G i).2.1 = (r i).2.1) → Rows w A n G x → Calls Try.prog 19 #[.agg #[.int .i64 W, .slice A n c], .int .i64 s] w (IAns V N Ln X w)) := by
  have hG : ∀ G : Nat → Option Addr × Nat × Nat, (∀ i, (G i).2.1 = (r i).2.1) → setB W n G x s = setB W n r x s := fun G h => by
    have e : (fun i => (G i).2.1) = fun i => (r i).2.1 := funext h
    have : ∀ r : Nat → Option Addr × Nat × Nat, setB W n r x s = setB W n (fun i => (none, (r i).2.1, 0)) x s := fun _ => rfl
    rw [this G, this r]
    simp only [h]
  cases hset : setB W n r x s
  · refine ⟨0, 0, fun _ => 0, fun _ _ => 0, by omega, by simp [sumTo], fun A c G w h hR => ?_, fun A c G w h hR => ?_⟩
    · refine (sTellAll_no A n c G x W s w hn hR ((hG G h).trans hset)).mono ?_
      rintro e w' ⟨rfl, hk⟩
      exact ⟨none, 0, fun _ => (none, 0, 0), rfl, fun i hi => absurd hi (Nat.not_lt_zero _), fun _ _ => rfl, hk⟩
    · refine (iTellAll_no A n c G x W s w hn hR (fun i hi => by rw [h i]; exact hl i hi) ((hG G h).trans hset)).mono ?_
      rintro e w' ⟨rfl, hk⟩
      exact ⟨none, 0, fun _ => none, fun _ => 0, rfl, OwnMat.none _ _ _ _ _, hk⟩
  · obtain ⟨V, S, rfl, rfl, hV1, hV2, hn4, hS, hS2, hrow⟩ := setB_iff W n r x s hset
    refine ⟨V, n, fun i => ((tellRR x S V n).getD i []).length, fun i j => ((tellRR x S V n).getD i []).getD j 0, by omega, ?_, fun A c G w h hR => ?_, fun A c G w h hR => ?_⟩
    · rw [sumTo_const _ V n (fun i hi => tell_lenX x S V n i hi)]
      have : n * V ≤ 4 * 16 := Nat.mul_le_mul hn4.2 hV2
      omega
    · refine (sTellAll_yes A n c V S G x w hn hR ((hG G h).trans hset)).mono ?_
      rintro e w' ⟨A', c', rfl, hO, hk⟩
      obtain ⟨r0, h1, h2, _, _⟩ := hO.rows
      exact ⟨A', c', r0, rfl, h1, h2, hk⟩
    · refine (iTellAllA_yes A n c V S G x w hn hR (fun i hi => by rw [h i]; exact hl i hi) ((hG G h).trans hset)).mono ?_
      rintro e w' ⟨A', c', rfl, hO, hAP, hk⟩
      obtain ⟨B, Cp, hM⟩ := hO.mat hAP
      exact ⟨A', c', B, Cp, rfl, hM, hk⟩
/-- Views that are held equal: the call's own one, and any rows of the same numbers. -/
theorem xMat_true (A B : Option Addr) (n c d : Nat) (W : Int) {lo : Nat} {A1 : Nat → Option Addr} {Ln Cp : Nat → Nat} {X : Nat → Nat → Int} (r' : Nat → Option Addr × Nat × Nat) (w : World) (hn : n ≤ 1048576) (hs : sumTo Ln n ≤ 1048576) (hx : OwnMat w lo A n c A1 Ln Cp X) (hy : Rows w B n r' X) (he : ∀ i, i < n → (r' i).2.1 = Ln i) :
    Calls Try.prog 20 #[.agg #[.int .i64 W, .slice A n c], .agg #[.int .i64 W, .slice B n d]] w fun e w' => e = .returned (.bool true) ∧ Keeps w w' :=
  xView_true A B n c d W _ r' X X w (by omega) hx.rows hy (fun i hi => by have := sumTo_one Ln n i hi; dsimp only; omega) (fun i hi => ⟨(he i hi).symm, fun _ _ => rfl⟩)
theorem Rows.congr {w : World} {A : Option Addr} {n : Nat} {r : Nat → Option Addr × Nat × Nat} {x : Nat → Nat → Int} {r' : Nat → Option Addr × Nat × Nat} (h : Rows w A n r x) (e : r = r') : Rows w A n r' x := e ▸ h
end Go.Proofs.Ytalafojkmomolaa
