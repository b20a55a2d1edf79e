/-
  The contract of the iterator over the moves of a ring. Condition: two to five states and machines.
-/
import Derived.Test.YtpgipkcbdppplaaOver
import Derived.Test.YtpgipkcbdppplaaTokD
import Derived.RangeFuncNested
import Derived.RangeFuncBound
import Derived.RangeFuncCalls
import Derived.RangeFuncLeaves
import Derived.WalkKit
import Derived.OwnWalkIn
import Derived.TacticsInMore
import Derived.LoopNIn
import Derived.LoopIn
namespace Go.Proofs.Ytpgipkcbdppplaa
set_option linter.unusedVariables false
open Go.RowKit
attribute [local go_sem] Oper.semAt_some

theorem Moves.cell {n₀ : Nat} {W W' : World} (h : Moves n₀ W W') {a : Addr} {v : Value} (hc : W.cell? a = some v) : W'.cell? a = some v := by
  obtain ⟨o, ho, hcs⟩ := cells_of_cell hc
  rw [World.cell?_of_block ((h.same _ o ho (.inr hcs)).trans ho.symm)]
  exact hc
theorem Moves.ints {n₀ : Nat} {W W' : World} (h : Moves n₀ W W') {a : Option Addr} {n : Nat} {x : Nat → Int} (hI : Ints W a n x) : Ints W' a n x := fun i hi => by
  obtain ⟨d, off, e, hc⟩ := hI i hi
  exact ⟨d, off, e, h.cell hc⟩
theorem CellsKept.cell {n₀ : Nat} {W W' : World} (h : CellsKept n₀ W W') {a : Addr} {v : Value} (hn : n₀ ≤ a.block) (hc : W.cell? a = some v) : W'.cell? a = some v := by
  obtain ⟨o, ho, hcs⟩ := cells_of_cell hc
  rw [World.cell?_of_block ((h.2 _ o hn ho hcs).trans ho.symm)]
  exact hc
/-- What is handed over in a round: the states behind a move. -/
def MovedAt (k n : Nat) (s : Nat → Nat) (i : Nat) (v : Value) (W : World) : Prop :=
  ∃ g : Nat, v = .slice (some ⟨g, 0, none⟩) n n ∧ Ints W (some ⟨g, 0, none⟩) n (nf (movF k s ((tks n s n).getD i 0)))
def RdMoves (k n c sb kb : Nat) (a : Option Addr) (s : Nat → Nat) (W : World) : Prop :=
  W.cell? ⟨sb, 0, none⟩ = some (.slice a n c) ∧ W.cell? ⟨kb, 0, none⟩ = some (.int .i64 k) ∧ Ints W a n (nf s)
set_option maxRecDepth 100000 in
set_option maxHeartbeats 4000000 in
theorem moves_iter (k n c sb kb n₀ : Nat) (a : Option Addr) (s : Nat → Nat) (hT : TokS k n s) :
    Iter Keeps 50 #[.pointer (some ⟨sb, 0, none⟩), .pointer (some ⟨kb, 0, none⟩)] (tks n s n).length n₀ (RdMoves k n c sb kb a s) (MovedAt k n s) := by
  intro l Y Yx W hW hYk hYr hYy hY0
  have HYK := Lib.hid hYk
  have HYR := Lib.hid hYr
  have HYY := Lib.hid hYy
  have HT := Lib.hid hT
  have hn2 := hT.n2
  have hn5 := hT.n5
  obtain ⟨b0, b1, hI⟩ := hYr 0 W hY0
  have HI := Lib.hid hI
  have HY0 := Lib.hid hY0
  clear hYk hYr hYy hT hI hY0
  refine callsIn_of_wp Try.func50 rfl trivial ?_ rfl
  simp only [Try.ntmps50, List.size_toArray, List.length_cons, List.length_nil, Nat.reduceAdd, Nat.reduceSub, Array.replicate_succ, Array.replicate_zero, List.push_toArray, List.append_toArray, List.nil_append, List.cons_append]
  gi_wp2
  refine ⟨trivial, (callsIn_wide.2 (itokens_any a n c s _ hn2 hn5 HI.out)).mono ?_⟩
  rintro e w1 ⟨g, c1, rfl, hI1, hc1, hc2, hg1, hk1⟩
  have HI1 := Lib.hid hI1
  have HY1 := Lib.hid (HYK.out _ _ _ HY0.out hk1)
  have HTA := Lib.hid (fun i hi => tks_at n s i hi)
  have hlb := tks_bd (n := n) (s := s) n
  have hgn : n₀ ≤ g := Nat.le_trans hW hg1
  clear hI1 hk1 HY0 b0 b1 hg1
  obtain ⟨L, hL⟩ : ∃ L, L = (tks n s n).length := ⟨_, rfl⟩
  rw [← hL] at HI1 HTA hlb HYY hc1 ⊢
  have HLE := Lib.hid hL
  clear hL
  gi_wp2
  gi_loopw [9] (fun p wr => ∃ i : Nat, i ≤ L ∧ p = .int .i64 i ∧ Hid (Y i wr) ∧ Hid (Ints wr (some ⟨g, 0, none⟩) L (fun i => (((tks n s n).getD i 0 : Nat) : Int))))
    (fun p _ => L - (intOf p).toNat)
  case atStart => exact ⟨0, by omega, rfl, HY1, HI1⟩
  case round =>
    clear HY1 HI1
    obtain ⟨i, hi, rfl, HY, HL⟩ := hrel
    by_cases hlt : i < L
    · have hii : (i : Int) < L := by omega
      obtain ⟨_, _, e, hc0⟩ := HL.out i hlt
      cases e
      dsimp only at hc0
      rw [Nat.zero_add] at hc0
      obtain ⟨b0, b1, hIr⟩ := HYR.out _ _ HY.out
      have HIr := Lib.hid hIr
      obtain ⟨htn, _⟩ := HTA.out i hlt
      have HMV : Hid (∀ g2 W2, Ints W2 (some ⟨g2, 0, none⟩) n (nf (movF k s ((tks n s n).getD i 0))) → MovedAt k n s i (.slice (some ⟨g2, 0, none⟩) n n) W2) := Lib.hid (fun g2 W2 h => ⟨g2, rfl, h⟩)
      clear hIr
      generalize (tks n s n).getD i 0 = t at *
      gi_wp2
      refine ⟨trivial, (callsIn_wide.2 (moved_any a k n c t s _ HT.out htn HIr.out)).mono ?_⟩
      rintro e w2 ⟨g2, rfl, hI2, _, hk2⟩
      have HY2 := Lib.hid (HYK.out _ _ _ HY.out hk2)
      have HL2 := Lib.hid (HL.out.keeps hk2)
      obtain ⟨fn, tmps, assign, body, hy, hR⟩ := HYY.out i _ w2 hlt HY2.out (HMV.out g2 w2 hI2)
      clear hI2 hk2
      gi_wp2
      refine hR.mono ?_
      rintro e W3 (⟨rfl, hY3, hk3⟩ | ⟨rfl, hx3⟩)
      · have HY3 := Lib.hid hY3
        have HL3 : Hid (Ints W3 (some ⟨g, 0, none⟩) L (fun i => (((tks n s n).getD i 0 : Nat) : Int))) := Lib.hid (fun j hj => by
          obtain ⟨d, off, e, hc⟩ := HL2.out j hj
          cases e
          exact ⟨g, 0, rfl, hk3.cell hgn hc⟩)
        clear hY3 hk3 b0 b1 hc0
        gi_wp2
        go_roundw
        case rel => exact ⟨i + 1, by omega, by go_num, HY3, HL3⟩
        case measure => simp [intOf]; omega
      · have HX3 := Lib.hid hx3
        clear hx3
        gi_wp2
        refine bodyPost_ret (results_none rfl _ _ _) rfl ?_
        exact ⟨⟨_, rfl⟩, .inr HX3.out⟩
    · obtain rfl : L = i := by omega
      gi_wp2
      go_end0
      exact ⟨⟨_, rfl⟩, .inl (by rw [← HLE.out]; exact HY.out)⟩
end Go.Proofs.Ytpgipkcbdppplaa
