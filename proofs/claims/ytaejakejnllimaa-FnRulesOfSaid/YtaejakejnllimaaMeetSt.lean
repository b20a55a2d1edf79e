/-
  The program's rules that are being made: the box, the two tables so far. No condition.
-/
import Derived.Test.YtaejakejnllimaaAppH
import Derived.Test.YtaejakejnllimaaRchI
import Derived.Test.YtaejakejnllimaaRul
import Derived.Test.YtaejakejnllimaaSorted
namespace Go.Proofs.Ytaejakejnllimaa
set_option linter.unusedVariables false
set_option maxRecDepth 100000
open Go.RowKit

/-- The first k rows of a table. -/
def tabK (n : Nat) (F : Nat → Nat → Int) (k : Nat) : List (List Int) := (List.range k).map (fun a => il n (F a))
theorem tabK_succ (n : Nat) (F : Nat → Nat → Int) (k : Nat) : tabK n F (k + 1) = tabK n F k ++ [il n (F k)] := by unfold tabK; rw [List.range_succ, List.map_append]; rfl
theorem tabK_len {n k : Nat} {F : Nat → Nat → Int} {x : List Int} (h : x ∈ tabK n F k) : x.length = n := by
  unfold tabK at h
  obtain ⟨a, _, rfl⟩ := List.mem_map.1 h
  exact il_len _ _
theorem tabK_at {n k i : Nat} {F : Nat → Nat → Int} {R : List Hdr} (h : R.map (·.l) = tabK n F k) (hi : i < k) : (R.getD i default).l = il n (F i) := by
  have hl : R.length = k := by
    have h1 := congrArg List.length h
    simpa [tabK] using h1
  have h3 := congrArg (fun t : List (List Int) => t[i]?) h
  simp only [List.getElem?_map, List.getElem?_eq_getElem (show i < R.length by omega), tabK] at h3
  rw [List.getD_eq_getElem?_getD, List.getElem?_eq_getElem (by omega)]
  simpa [hi] using h3
/-- Rules that are being made, above the world w. -/
structure MSt (kA kB : Nat) (w : World) (A : Option Addr) (cA : Nat) (R1 : List Hdr) (B : Option Addr) (cB : Nat) (R2 : List Hdr) (cs : Array Value) (wr : World) : Prop where
  box : Blk wr w.heap.size 26 cs
  first : Crd wr w.heap.size A kA cA R1
  second : Crd wr w.heap.size B kB cB R2
  tne : ∀ d, A.map (·.block) = some d → B.map (·.block) ≠ some d
  keeps : Keeps w wr
section
variable {kA kB : Nat} {w : World} {A : Option Addr} {cA : Nat} {R1 : List Hdr} {B : Option Addr} {cB : Nat} {R2 : List Hdr} {cs : Array Value} {wr w' : World}
theorem crdTurn {lo m c : Nat} {A : Option Addr} {R : List Hdr} {row : Option Nat} (h : Crd wr lo A m c R) (hg : wr.grownBy w' row) (hA : ∀ d, row = some d → A.map (·.block) ≠ some d) (hR : ∀ d, row = some d → ∀ h ∈ R, h.g ≠ d) : Crd w' lo A m c R :=
  ⟨own_kept h.top hg (fun k hk e => hA k e hk), fun z hz => own_kept (h.row z hz) hg (fun k hk e => hR k e z hz (by simpa using hk))⟩
theorem keepsAbove {d : Nat} {row : Option Nat} (h : Keeps w wr) (hg : wr.grownBy w' row) (hd : ∀ d, row = some d → w.heap.size ≤ d) : Keeps w w' :=
  ⟨hg.os.trans h.os, hg.tape.trans h.tape, hg.output.trans h.output, Nat.le_trans h.size hg.size, fun i hi => (hg.block i (Nat.lt_of_lt_of_le hi h.size) (fun e => absurd (hd i e.symm) (by omega))).trans (h.block i hi)⟩
theorem MSt.lows (h : MSt kA kB w A cA R1 B cB R2 cs wr) : (∀ d, A.map (·.block) = some d → w.heap.size ≤ d ∧ d < wr.heap.size) ∧ (∀ d, B.map (·.block) = some d → w.heap.size ≤ d ∧ d < wr.heap.size) ∧ (∀ h ∈ R1 ++ R2, w.heap.size ≤ h.g ∧ h.g < wr.heap.size) ∧ w.heap.size < wr.heap.size :=
  ⟨own_block h.first.top, own_block h.second.top, fun z hz => by
    rcases List.mem_append.1 hz with e | e
    · exact own_block (h.first.row z e) z.g rfl
    · exact own_block (h.second.row z e) z.g rfl, h.box.lt⟩
/-- A block that is none of these turns. -/
theorem MSt.turn {row : Option Nat} (h : MSt kA kB w A cA R1 B cB R2 cs wr) (hg : wr.grownBy w' row) (hd : ∀ d, row = some d → w.heap.size ≤ d ∧ d ≠ w.heap.size ∧ A.map (·.block) ≠ some d ∧ B.map (·.block) ≠ some d ∧ ∀ h ∈ R1 ++ R2, h.g ≠ d) :
    MSt kA kB w A cA R1 B cB R2 cs w' :=
  ⟨h.box.grown hg (fun e => (hd _ e.symm).2.1 rfl), crdTurn h.first hg (fun d e => (hd d e).2.2.1) (fun d e z hz => (hd d e).2.2.2.2 z (List.mem_append_left _ hz)), crdTurn h.second hg (fun d e => (hd d e).2.2.2.1) (fun d e z hz => (hd d e).2.2.2.2 z (List.mem_append_right _ hz)), h.tne, keepsAbove (d := 0) h.keeps hg (fun d e => (hd d e).1)⟩
theorem MSt.step (h : MSt kA kB w A cA R1 B cB R2 cs wr) (k : Keeps wr w') : MSt kA kB w A cA R1 B cB R2 cs w' :=
  h.turn (row := none) ⟨k.os, k.tape, k.output, k.size, fun i hi _ => k.block i hi⟩ (fun d e => by cases e)
/-- A block above L turns, where all lie below L. -/
theorem MSt.above (h : MSt kA kB w A cA R1 B cB R2 cs wr) {L d : Nat} (hL : w.heap.size < L) (hb : (∀ d, A.map (·.block) = some d → d < L) ∧ (∀ d, B.map (·.block) = some d → d < L) ∧ ∀ h ∈ R1 ++ R2, h.g < L) (hg : wr.grownBy w' (some d)) (hd : L ≤ d) : MSt kA kB w A cA R1 B cB R2 cs w' := by
  obtain ⟨h2, h3, h4⟩ := hb
  refine h.turn hg (fun e he => ?_)
  obtain rfl : d = e := by simpa using he
  exact ⟨by omega, by omega, fun e => by have := h2 _ e; omega, fun e => by have := h3 _ e; omega, fun z hz => by have := h4 z hz; omega⟩
/-- One more row in the first table. -/
theorem MSt.row1 (h : MSt kA kB w A cA R1 B cB R2 cs wr) {g' c' : Nat} {x : Hdr} (hC : Crd w' w.heap.size (some ⟨g', 0, none⟩) (kA + 1) c' (R1 ++ [x])) (hg : wr.grownBy w' (A.map (·.block))) (hor : A.map (·.block) = some g' ∨ wr.heap.size ≤ g') : MSt (kA + 1) kB w (some ⟨g', 0, none⟩) c' (R1 ++ [x]) B cB R2 cs w' := by
  obtain ⟨h2, h3, h4, h5⟩ := h.lows
  refine ⟨h.box.grown hg (own_other' h.first.top h.box (by decide)), hC, crdTurn h.second hg (fun d e he => h.tne d e he) (fun d e z hz he => own_type (h.second.row z hz) h.first.top (by decide) z.g rfl (by rw [e, he])), fun d e he => ?_, keepsAbove (d := 0) h.keeps hg (fun d e => (h2 d e).1)⟩
  have e' : g' = d := by simpa using e
  rcases hor with hh | hh
  · exact h.tne g' hh (by rw [e']; exact he)
  · have := h3 d he; omega
/-- One more row in the second table. -/
theorem MSt.row2 (h : MSt kA kB w A cA R1 B cB R2 cs wr) {g' c' : Nat} {x : Hdr} (hC : Crd w' w.heap.size (some ⟨g', 0, none⟩) (kB + 1) c' (R2 ++ [x])) (hg : wr.grownBy w' (B.map (·.block))) (hor : B.map (·.block) = some g' ∨ wr.heap.size ≤ g') : MSt kA (kB + 1) w A cA R1 (some ⟨g', 0, none⟩) c' (R2 ++ [x]) cs w' := by
  obtain ⟨h2, h3, h4, h5⟩ := h.lows
  refine ⟨h.box.grown hg (own_other' h.second.top h.box (by decide)), crdTurn h.first hg (fun d e he => h.tne d he e) (fun d e z hz he => own_type (h.first.row z hz) h.second.top (by decide) z.g rfl (by rw [e, he])), hC, fun d e he => ?_, keepsAbove (d := 0) h.keeps hg (fun d e => (h3 d e).1)⟩
  have e' : g' = d := by simpa using he
  rcases hor with hh | hh
  · exact h.tne d e (by rw [hh, e'])
  · have := h2 d e; omega
/-- A store into the box. -/
theorem MSt.store (h : MSt kA kB w A cA R1 B cB R2 cs wr) (j : Nat) (v : Value) : MSt kA kB w A cA R1 B cB R2 (cs.setIfInBounds j v) (wr.setCell ⟨w.heap.size, j, none⟩ v) := by
  have hg := grown_set wr w.heap.size j v
  refine ⟨h.box.set j v, crdTurn h.first hg (fun d e he => ?_) (fun d e z hz he => ?_), crdTurn h.second hg (fun d e he => ?_) (fun d e z hz he => ?_), h.tne, keepsAbove (d := 0) h.keeps hg (fun d e => by have e2 : w.heap.size = d := (by simpa using e); omega)⟩
  · exact own_other' h.first.top h.box (by decide) (by rw [he, e])
  · exact own_other' (h.first.row z hz) h.box (by decide) (by rw [e, ← he]; rfl)
  · exact own_other' h.second.top h.box (by decide) (by rw [he, e])
  · exact own_other' (h.second.row z hz) h.box (by decide) (by rw [e, ← he]; rfl)
end
/-- A store below. -/
theorem Crd.low {w : World} {lo m c r : Nat} {A : Option Addr} {R : List Hdr} (h : Crd w lo A m c R) (hr : r < lo) (j : Nat) (v : Value) : Crd (w.setCell ⟨r, j, none⟩ v) lo A m c R :=
  crdTurn h (grown_set w r j v) (fun d e he => by have e2 : r = d := (by simpa using e); have := (own_block h.top d he).1; omega) (fun d e z hz he => by have e2 : r = d := (by simpa using e); have := (own_block (h.row z hz) z.g rfl).1; omega)
theorem rules_results {a : Act} {W : World} {b : Nat} {v0 v1 v2 : Value} (h2 : a.tmps[2]? = some (.pointer (some ⟨b, 0, none⟩))) (c0 : W.cell? ⟨b, 0, none⟩ = some v0) (c1 : W.cell? ⟨b, 1, none⟩ = some v1) (c2 : W.cell? ⟨b, 2, none⟩ = some v2) : (results Try.f49 a.tmps).run Try.prog W = .ok (.agg #[v0, v1, v2]) W := by
  simp [results, Try.results49, go_sem, c0, c1, c2, h2]
end Go.Proofs.Ytaejakejnllimaa
