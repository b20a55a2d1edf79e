/-
  Worlds in which one block and new ones have turned. Plain laws; no condition.
-/
import Derived.Test.YtalafojkmomolaaMem
namespace Go.Proofs.Ytalafojkmomolaa
open Go.RowKit

abbrev Gro (b : Nat) (w w' : World) : Prop := w.grownBy w' (some b)
theorem Gro.refl (b : Nat) (w : World) : Gro b w w := ⟨rfl, rfl, rfl, Nat.le_refl _, fun _ _ _ => rfl⟩
theorem Gro.step {b : Nat} {w w1 w2 : World} (h : Gro b w w1) (k : Gro b w1 w2) : Gro b w w2 :=
  ⟨k.os.trans h.os, k.tape.trans h.tape, k.output.trans h.output, Nat.le_trans h.size k.size, fun i hi hn => (k.block i (Nat.lt_of_lt_of_le hi h.size) hn).trans (h.block i hi hn)⟩
theorem Gro.drewN (b : Nat) (w : World) (n : Nat) : Gro b w (w.drewN n) := ⟨rfl, rfl, rfl, Nat.le_refl _, fun _ _ _ => rfl⟩
theorem Gro.ofKeeps {b : Nat} {w w' : World} (h : Keeps w w') : Gro b w w' := ⟨h.os, h.tape, h.output, h.size, fun i hi _ => h.block i hi⟩
theorem Gro.set (b o : Nat) (w : World) (v : Value) : Gro b w (w.setCell ⟨b, o, none⟩ v) :=
  ⟨rfl, rfl, rfl, by simp [World.setCell], fun i _ hn => Below.heap_setCell _ _ _ _ (fun e => hn (by rw [e]))⟩
theorem Gro.cell {b : Nat} {w w' : World} (h : Gro b w w') {a : Addr} {v : Value} (hc : w.cell? a = some v) (hn : a.block ≠ b) : w'.cell? a = some v :=
  World.grownBy.cell h hc (fun e => hn (by simpa using e))
theorem ne_of_ge {b i n : Nat} (hb : n ≤ b) (hi : i < n) : some i ≠ some b := fun e => by
  have h : i = b := by simpa using e
  omega
theorem Gro.keeps {b : Nat} {w0 w w' : World} (h : Gro b w w') (k : Keeps w0 w) (hb : w0.heap.size ≤ b) : Keeps w0 w' :=
  k.trans ⟨h.os, h.tape, h.output, h.size, fun i hi => h.block i (Nat.lt_of_lt_of_le hi k.size) (ne_of_ge hb hi)⟩
theorem Gro.step' {b : Nat} {w0 w w' : World} {base : Nat} {E : TypeId} {s : Nat} {A : Option Addr} {n c m : Nat} {xs : List Value} (h : Gro b w0 w) (hown : w.ownsRow base E s (.slice A n c) m xs) (hb : w0.heap.size ≤ base) (hg : w.grownBy w' (A.map (·.block))) : Gro b w0 w' :=
  ⟨hg.os.trans h.os, hg.tape.trans h.tape, hg.output.trans h.output, Nat.le_trans h.size hg.size, fun i hi hn => (hg.block i (Nat.lt_of_lt_of_le hi h.size) (fun e => by have := (own_block hown i e.symm).1; omega)).trans (h.block i hi hn)⟩
theorem Gro.setAbove {b : Nat} {w0 w : World} (h : Gro b w0 w) {d o : Nat} (hd : w0.heap.size ≤ d) (v : Value) : Gro b w0 (w.setCell ⟨d, o, none⟩ v) :=
  ⟨h.os, h.tape, h.output, Nat.le_trans h.size (by simp [World.setCell]), fun i hi hn => (Below.heap_setCell _ _ _ _ (by simp; omega)).trans (h.block i hi hn)⟩
end Go.Proofs.Ytalafojkmomolaa
