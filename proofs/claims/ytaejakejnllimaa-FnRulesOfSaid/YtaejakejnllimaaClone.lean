/-
  The contract of slices.Clone at []int: a copy in new memory. Condition: a length of 1 to 2^40.
-/
import Derived.Test.YtaejakejnllimaaOwnSet
import Derived.Lib.SliceRun
namespace Go.Proofs.Ytaejakejnllimaa
set_option maxRecDepth 100000
open Go.RowKit

/-- Ints in new memory. -/
def NewInts (n : Nat) (x : Nat → Int) (w : World) (e : Ending) (w' : World) : Prop :=
  ∃ (g c : Nat), e = .returned (.slice (some ⟨g, 0, none⟩) n c) ∧ OwnInts w' w.heap.size (some ⟨g, 0, none⟩) n c (il n x) ∧ Keeps w w'
theorem eql_nil (w : World) (a : Option Addr) (n c n' c' : Nat) : (binOp .eql 23 (.slice a n c) (.slice none n' c')).run Try.prog w = .ok (.bool a.isNone) w := Lib.run_eql_slice_nil w _ _ a n c n' c' Try.underlying23
set_option maxHeartbeats 1000000 in
theorem slClone_any (b off n c : Nat) (z : Nat → Int) (w : World) (h1 : 1 ≤ n) (hn : n ≤ 1099511627776) (hz : ∀ i, i < n → w.cell? ⟨b, off + i, none⟩ = some (.int .i64 (z i))) :
    Calls Try.prog 62 #[.slice (some ⟨b, off, none⟩) n c] w (NewInts n z w) := by
  have HZ := Lib.hid hz
  clear hz
  have q := eql_nil
  go_enter Try.func62, Try.ntmps62
  go_wp2_with (first | (at_builtin; refine wp_spread_int rfl _ _ rfl w.heap.size (some ⟨w.heap.size, 0, none⟩) 0 0 [] _ rfl (OwnInts.made _ _ (Nat.le_refl _)) b off n c z rfl (fun i hi => cell_keeps (Keeps.alloc _ _) (HZ.out i hi)) (by omega) (by omega) (by simp) ?_; intro g2 c2 w6 hO6 hg6))
  have hO6 : OwnInts w6 w.heap.size (some ⟨g2, 0, none⟩) n c2 (il n z) := by have := hO6; rw [Nat.zero_add, List.nil_append] at this; exact this
  go_wp2
  go_ret
  exact ⟨g2, c2, by simp, hO6, (Keeps.alloc w _).grown (OwnInts.made w w.heap.size (Nat.le_refl _)) (Nat.le_refl _) hg6⟩
end Go.Proofs.Ytaejakejnllimaa
