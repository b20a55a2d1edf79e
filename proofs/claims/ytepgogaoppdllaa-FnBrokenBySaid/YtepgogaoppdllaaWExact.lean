/-
  What a run's marks leave as it was, and lists that are found equal. Plain laws; no condition but bounds on lengths.
-/
import Derived.Test.YtepgogaoppdllaaExactRun
import Derived.Test.YtepgogaoppdllaaDecs
import Derived.Test.YtepgogaoppdllaaSeenLaw
namespace Go.Proofs.Ytepgogaoppdllaa
open Go.RowKit

/-- Nothing turned but the blocks g and h. -/
def Two (w : World) (g h : Nat) (w' : World) : Prop := ∃ w1 w2, w.grownBy w1 none ∧ w1.grownBy w2 (some g) ∧ w2.grownBy w' (some h)
theorem Two.own {w w' : World} {g h lo n c : Nat} {A : Option Addr} {l : List Int} (t : Two w g h w') (o : OwnInts w lo A n c l) (hne : ∀ k, A.map (·.block) = some k → k ≠ g ∧ k ≠ h) : OwnInts w' lo A n c l := by
  obtain ⟨w1, w2, h1, h2, h3⟩ := t
  have o1 : OwnInts w1 lo A n c l := own_kept o h1 (fun k _ e => by cases e)
  have o2 : OwnInts w2 lo A n c l := own_kept o1 h2 (fun k hk e => (hne k hk).1 (by simpa using e.symm))
  exact own_kept o2 h3 (fun k hk e => (hne k hk).2 (by simpa using e.symm))
theorem Two.keeps {w0 w w' : World} {g h : Nat} (t : Two w g h w') (k : Keeps w0 w) (hg : w0.heap.size ≤ g) (hh : w0.heap.size ≤ h) : Keeps w0 w' := by
  obtain ⟨w1, w2, h1, h2, h3⟩ := t
  refine ⟨h3.os.trans (h2.os.trans (h1.os.trans k.os)), h3.tape.trans (h2.tape.trans (h1.tape.trans k.tape)), h3.output.trans (h2.output.trans (h1.output.trans k.output)), Nat.le_trans k.size (Nat.le_trans h1.size (Nat.le_trans h2.size h3.size)), fun i hi => ?_⟩
  have s1 := Nat.lt_of_lt_of_le hi k.size
  have s2 := Nat.lt_of_lt_of_le s1 h1.size
  rw [h3.block i (Nat.lt_of_lt_of_le s2 h2.size) (fun e => by simp at e; omega), h2.block i s2 (fun e => by simp at e; omega), h1.block i s1 (fun e => by cases e)]
  exact k.block i hi
theorem Two.size {w w' : World} {g h : Nat} (t : Two w g h w') : w.heap.size ≤ w'.heap.size := by
  obtain ⟨w1, w2, h1, h2, h3⟩ := t
  exact Nat.le_trans h1.size (Nat.le_trans h2.size h3.size)
theorem Two.cell {w w' : World} {g h : Nat} (t : Two w g h w') {a : Addr} {v : Value} (hc : w.cell? a = some v) (h1 : a.block ≠ g) (h2 : a.block ≠ h) : w'.cell? a = some v := by
  obtain ⟨w1, w2, k1, k2, k3⟩ := t
  exact World.grownBy.cell k3 (World.grownBy.cell k2 (World.grownBy.cell k1 hc (fun e => by cases e)) (fun e => h1 (by simpa using e))) (fun e => h2 (by simpa using e))
theorem xOwn_true {lo lo' : Nat} (A B : Option Addr) (n c d : Nat) (L : List Int) (w : World) (hn : n ≤ 1099511627776) (hA : OwnInts w lo A n c L) (hB : OwnInts w lo' B n d L) :
    Calls Try.prog 21 #[.slice A n c, .slice B n d] w fun e w' => e = .returned (.bool true) ∧ Keeps w w' :=
  xInts_true A B n c d _ _ w hn hA.ints hB.ints (fun _ _ => rfl)
theorem ints_il {w : World} {lo n c : Nat} {A : Option Addr} {x : Nat → Int} (h : OwnInts w lo A n c (il n x)) : Ints w A n x := fun i hi => by
  obtain ⟨b, off, e, hc⟩ := h.ints i hi
  exact ⟨b, off, e, by dsimp only at hc; rw [il_getD _ _ _ hi] at hc; exact hc⟩
theorem stops_of {w : World} {lo m d : Nat} {S : Option Addr} {zs : List Int} {st : Nat → Int × Int × Int} (h : OwnStops w lo S m d zs) (hr : ∀ i, i < m → stopsOf zs i = st i) : Stops w S m st := fun i hi => by
  obtain ⟨b, off, e, h1, h2, h3⟩ := h.stops i hi
  rw [hr i hi] at h1 h2 h3
  exact ⟨b, off, e, h1, h2, h3⟩
theorem seenL_len (n : Nat) (x : Nat → Int) (m : Nat) (st : Nat → Int × Int × Int) (r : Int) : (seenL n x m st r).length ≤ n := by
  unfold seenL
  split
  · rw [fl_len]; exact Nat.le_refl _
  · exact Nat.zero_le _
theorem decL_len (n : Nat) (x : Nat → Int) (m : Nat) (st : Nat → Int × Int × Int) (r : Int) : (decL n x m st r).length ≤ n := by
  unfold decL
  split
  · rw [il_len]; exact Nat.le_refl _
  · exact Nat.zero_le _
end Go.Proofs.Ytepgogaoppdllaa
