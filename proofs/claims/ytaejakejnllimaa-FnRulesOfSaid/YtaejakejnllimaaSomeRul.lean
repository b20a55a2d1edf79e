/-
  The drawn rules: whatever the code is, rules of one to four kinds in new memory. Condition: at most a thousand picks so far.
-/
import Derived.Test.YtaejakejnllimaaTables
import Derived.Test.YtaejakejnllimaaDraw
import Derived.Test.YtaejakejnllimaaNextI
import Derived.Test.YtaejakejnllimaaCrowd
import Derived.Test.YtaejakejnllimaaStep
namespace Go.Proofs.Ytaejakejnllimaa
set_option linter.unusedVariables false
set_option maxRecDepth 100000
open Go.RowKit

set_option maxHeartbeats 1000000 in
theorem of_any (b p d n c : Nat) (l : List Value) (w : World) (h : Rd w b p) (hp : p ≤ 1000000) (hn : 1 ≤ n) (hn2 : n ≤ 1000) (hl : l.length = n) (hc : ∀ i, i < n → w.cell? ⟨d, i, none⟩ = some (l.getD i undef)) (hs : ∀ i, i < n → ∃ s, l.getD i undef = .string s) (hd : d ≠ b) :
    Calls Try.prog 47 #[.pointer (some ⟨b, 0, none⟩), .slice (some ⟨d, 0, none⟩) n c] w fun e w' => ∃ i, i < n ∧ e = .returned (l.getD i undef) ∧ Rd w' b (p + 1) ∧ Gro b w w' := by
  have HC := Lib.hid hc
  have HS := Lib.hid hs
  clear hc hs
  go_enter Try.func47, Try.ntmps47
  go_wp2_with fail
  refine (pick_any b p n _ h hp).mono ?_
  rintro e w1 ⟨i, rfl, hi, hR, hG⟩
  have hin : i < n := by omega
  have hc' := hG.cell (HC.out i hin) hd
  obtain ⟨s, hs⟩ := HS.out i hin
  have HF : Hid (l.getD i undef = .string s) := Lib.hid hs
  rw [hs] at hc'
  clear hs
  have hin' : (i : Int) < n := by omega
  go_wp2
  go_ret
  exact ⟨i, hin, by rw [HF.out]; rfl, hR, hG⟩
/-- Drawn rules: whatever happens outside of what was made, they stay. -/
structure RulDrawn (b p : Nat) (w : World) (v : Value) (w' : World) (S A B : Option Addr) (nS cS nA cA nB cB : Nat) (s : Nat → Int) (rA rB : Nat → Option Addr × Nat × Nat) (f g : Nat → Nat → Int) (q : Nat) : Prop where
  val : v = .agg #[.slice S nS cS, .slice A nA cA, .slice B nB cB]
  at' : ∀ W, Same w.heap.size w'.heap.size w' W → RulAt W S nS s A nA rA f B nB rB g
  one : 1 ≤ nS
  four : nS ≤ 4
  rd : Rd w' b q
  few : q ≤ p + 60
  gro : Gro b w w'
theorem Same.widen {lo hi lo' hi' : Nat} {w1 w2 : World} (h1 : Same lo hi w1 w2) (hl : lo ≤ lo') (hh : hi' ≤ hi) : Same lo' hi' w1 w2 := fun i a b => h1 i (by omega) (by omega)
theorem Same.trans {lo hi : Nat} {w1 w2 w3 : World} (h1 : Same lo hi w1 w2) (h2 : Same lo hi w2 w3) : Same lo hi w1 w3 := fun i a b => (h2 i a b).trans (h1 i a b)
theorem Same.keeps {lo hi : Nat} {w w' : World} (k : Keeps w w') (hh : hi ≤ w.heap.size) : Same lo hi w w' := fun i a b => k.block i (by omega)
/-- The named tables. -/
theorem named_any (v : Value) (w : World) (hv : v = .string ⟨#[115, 111, 109, 101]⟩ ∨ v = .string ⟨#[116, 104, 114, 101, 101]⟩ ∨ v = .string ⟨#[109, 111, 115, 116]⟩ ∨ v = .string ⟨#[111, 100, 100]⟩) :
    Calls Try.prog 50 #[v] w fun e w' => ∃ (S A B : Option Addr) (n : Nat) (s : Nat → Int) (rA rB : Nat → Option Addr × Nat × Nat) (f g : Nat → Nat → Int), e = .returned (.tuple #[.agg #[.slice S n n, .slice A n n, .slice B n n], .bool true]) ∧ (∀ W, Same w.heap.size w'.heap.size w' W → RulAt W S n s A n rA f B n rB g) ∧ (1 ≤ n ∧ n ≤ 4) ∧ Keeps w w' := by
  rcases hv with rfl | rfl | rfl | rfl
  · refine (rulesOf_some w).mono ?_
    rintro e w' ⟨S, A, B, rA, rB, rfl, h1, _, h3⟩
    exact ⟨S, A, B, 2, _, rA, rB, _, _, rfl, h1, by omega, h3⟩
  · refine (rulesOf_three w).mono ?_
    rintro e w' ⟨S, A, B, rA, rB, rfl, h1, _, h3⟩
    exact ⟨S, A, B, 4, _, rA, rB, _, _, rfl, h1, by omega, h3⟩
  · refine (rulesOf_most w).mono ?_
    rintro e w' ⟨S, A, B, rA, rB, rfl, h1, _, h3⟩
    exact ⟨S, A, B, 4, _, rA, rB, _, _, rfl, h1, by omega, h3⟩
  · refine (rulesOf_odd w).mono ?_
    rintro e w' ⟨S, A, B, rA, rB, rfl, h1, _, h3⟩
    exact ⟨S, A, B, 4, _, rA, rB, _, _, rfl, h1, by omega, h3⟩
theorem names_at (i : Nat) (hi : i < 4) : [Value.string ⟨#[115, 111, 109, 101]⟩, Value.string ⟨#[116, 104, 114, 101, 101]⟩, Value.string ⟨#[109, 111, 115, 116]⟩, Value.string ⟨#[111, 100, 100]⟩].getD i undef = .string ⟨#[115, 111, 109, 101]⟩ ∨ [Value.string ⟨#[115, 111, 109, 101]⟩, Value.string ⟨#[116, 104, 114, 101, 101]⟩, Value.string ⟨#[109, 111, 115, 116]⟩, Value.string ⟨#[111, 100, 100]⟩].getD i undef = .string ⟨#[116, 104, 114, 101, 101]⟩ ∨ [Value.string ⟨#[115, 111, 109, 101]⟩, Value.string ⟨#[116, 104, 114, 101, 101]⟩, Value.string ⟨#[109, 111, 115, 116]⟩, Value.string ⟨#[111, 100, 100]⟩].getD i undef = .string ⟨#[109, 111, 115, 116]⟩ ∨ [Value.string ⟨#[115, 111, 109, 101]⟩, Value.string ⟨#[116, 104, 114, 101, 101]⟩, Value.string ⟨#[109, 111, 115, 116]⟩, Value.string ⟨#[111, 100, 100]⟩].getD i undef = .string ⟨#[111, 100, 100]⟩ := by
  match i, hi with
  | 0, _ => exact .inl rfl
  | 1, _ => exact .inr (.inl rfl)
  | 2, _ => exact .inr (.inr (.inl rfl))
  | 3, _ => exact .inr (.inr (.inr rfl))
end Go.Proofs.Ytaejakejnllimaa
