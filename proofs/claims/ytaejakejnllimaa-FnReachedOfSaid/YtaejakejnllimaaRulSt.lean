/-
  Rules that are being drawn. No condition.
-/
import Derived.Test.YtaejakejnllimaaSomeRul
import Derived.Test.YtaejakejnllimaaAppH
import Derived.Test.YtaejakejnllimaaRchI
namespace Go.Proofs.Ytaejakejnllimaa
set_option linter.unusedVariables false
set_option maxRecDepth 100000
open Go.RowKit

/-- Rules that are being drawn: the result's box, the box V, what is said so far, the two tables so far, the reader. -/
structure RSt (b V n kS kA kB q : Nat) (w : World) (S : Option Addr) (cS : Nat) (l : List Int) (A : Option Addr) (cA : Nat) (R1 : List Hdr) (B : Option Addr) (cB : Nat) (R2 : List Hdr) (cs : Array Value) (wr : World) : Prop where
  res : Blk wr w.heap.size 26 #[.slice none 0 0, .slice none 0 0, .slice none 0 0]
  box : Blk wr V 26 cs
  says : OwnInts wr w.heap.size S kS cS l
  first : Crd wr w.heap.size A kA cA R1
  second : Crd wr w.heap.size B kB cB R2
  lens : ∀ h ∈ R1 ++ R2, h.l.length = n
  sne : ∀ h ∈ R1 ++ R2, S.map (·.block) ≠ some h.g
  tne : ∀ d, A.map (·.block) = some d → B.map (·.block) ≠ some d
  rd : Rd wr b q
  gro : Gro b w wr
  vlo : w.heap.size < V
  blo : b < w.heap.size
theorem gro_above {b d : Nat} {w wr w' : World} (h : Gro b w wr) {row : Option Nat} (hg : wr.grownBy w' row) (hd : ∀ d, row = some d → w.heap.size ≤ d) : Gro b w w' :=
  ⟨hg.os.trans h.os, hg.tape.trans h.tape, hg.output.trans h.output, Nat.le_trans h.size hg.size, fun i hi hn => (hg.block i (Nat.lt_of_lt_of_le hi h.size) (fun e => absurd (hd i e.symm) (by omega))).trans (h.block i hi hn)⟩
section
variable {b V n kS kA kB q q' : Nat} {w : World} {S : Option Addr} {cS : Nat} {l : List Int} {A : Option Addr} {cA : Nat} {R1 : List Hdr} {B : Option Addr} {cB : Nat} {R2 : List Hdr} {cs : Array Value} {wr w' : World}
theorem crd_turn {lo m c : Nat} {A : Option Addr} {R : List Hdr} {row : Option Nat} (h : Crd wr lo A m c R) (hg : wr.grownBy w' row) (hA : ∀ d, row = some d → A.map (·.block) ≠ some d) (hR : ∀ d, row = some d → ∀ h ∈ R, h.g ≠ d) : Crd w' lo A m c R :=
  ⟨own_kept h.top hg (fun k hk e => hA k e hk), fun z hz => own_kept (h.row z hz) hg (fun k hk e => hR k e z hz (by simpa using hk))⟩
/-- A block that is none of these turns. -/
theorem RSt.turn {row : Option Nat} (h : RSt b V n kS kA kB q w S cS l A cA R1 B cB R2 cs wr) (hg : wr.grownBy w' row) (hd : ∀ d, row = some d → d ≠ w.heap.size ∧ d ≠ V ∧ S.map (·.block) ≠ some d ∧ A.map (·.block) ≠ some d ∧ B.map (·.block) ≠ some d ∧ ∀ h ∈ R1 ++ R2, h.g ≠ d) (hr : Rd w' b q') (hgr : Gro b w w') :
    RSt b V n kS kA kB q' w S cS l A cA R1 B cB R2 cs w' :=
  ⟨h.res.grown hg (fun e => (hd _ e.symm).1 rfl), h.box.grown hg (fun e => (hd _ e.symm).2.1 rfl), own_kept h.says hg (fun k hk e => (hd k e).2.2.1 hk), crd_turn h.first hg (fun d e => (hd d e).2.2.2.1) (fun d e z hz => (hd d e).2.2.2.2.2 z (List.mem_append_left _ hz)), crd_turn h.second hg (fun d e => (hd d e).2.2.2.2.1) (fun d e z hz => (hd d e).2.2.2.2.2 z (List.mem_append_right _ hz)), h.lens, h.sne, h.tne, hr, hgr, h.vlo, h.blo⟩
theorem RSt.lows (h : RSt b V n kS kA kB q w S cS l A cA R1 B cB R2 cs wr) : (∀ d, S.map (·.block) = some d → w.heap.size ≤ d ∧ d < wr.heap.size) ∧ (∀ d, A.map (·.block) = some d → w.heap.size ≤ d ∧ d < wr.heap.size) ∧ (∀ d, B.map (·.block) = some d → w.heap.size ≤ d ∧ d < wr.heap.size) ∧ (∀ h ∈ R1 ++ R2, w.heap.size ≤ h.g ∧ h.g < wr.heap.size) ∧ V < wr.heap.size :=
  ⟨own_block h.says, own_block h.first.top, own_block h.second.top, fun z hz => by
    rcases List.mem_append.1 hz with e | e
    · exact own_block (h.first.row z e) z.g rfl
    · exact own_block (h.second.row z e) z.g rfl, h.box.lt⟩
/-- The reader turns. -/
theorem RSt.pick (h : RSt b V n kS kA kB q w S cS l A cA R1 B cB R2 cs wr) (hg : Gro b wr w') (hr : Rd w' b q') : RSt b V n kS kA kB q' w S cS l A cA R1 B cB R2 cs w' := by
  have hb := h.blo
  obtain ⟨h1, h2, h3, h4, _⟩ := h.lows
  refine h.turn hg (fun d e => ?_) hr (h.gro.step hg)
  obtain rfl : b = d := by simpa using e
  have := h.vlo
  exact ⟨by omega, by omega, fun e => by have := h1 _ e; omega, fun e => by have := h2 _ e; omega, fun e => by have := h3 _ e; omega, fun z hz => by have := h4 z hz; omega⟩
/-- New memory is made, or a number is drawn. -/
theorem RSt.step (h : RSt b V n kS kA kB q w S cS l A cA R1 B cB R2 cs wr) (k : Keeps wr w') : RSt b V n kS kA kB q w S cS l A cA R1 B cB R2 cs w' :=
  h.turn (row := none) ⟨k.os, k.tape, k.output, k.size, fun i hi _ => k.block i hi⟩ (fun d e => by cases e) (h.rd.gro k) (h.gro.step (Gro.ofKeeps k))
/-- A block above L turns, where all lie below L. -/
theorem RSt.above (h : RSt b V n kS kA kB q w S cS l A cA R1 B cB R2 cs wr) {L d : Nat} (hL : w.heap.size ≤ L) (hV : V < L) (hb : (∀ d, S.map (·.block) = some d → d < L) ∧ (∀ d, A.map (·.block) = some d → d < L) ∧ (∀ d, B.map (·.block) = some d → d < L) ∧ ∀ h ∈ R1 ++ R2, h.g < L) (hg : wr.grownBy w' (some d)) (hd : L ≤ d) : RSt b V n kS kA kB q w S cS l A cA R1 B cB R2 cs w' := by
  have hv := h.vlo
  have hbl := h.blo
  obtain ⟨h1, h2, h3, h4⟩ := hb
  refine h.turn hg (fun e he => ?_) (h.rd.grown hg (fun e he => ?_)) (gro_above (d := d) h.gro hg (fun e he => ?_))
  · obtain rfl : d = e := by simpa using he
    exact ⟨by omega, by omega, fun e => by have := h1 _ e; omega, fun e => by have := h2 _ e; omega, fun e => by have := h3 _ e; omega, fun z hz => by have := h4 z hz; omega⟩
  · obtain rfl : d = e := by simpa using he
    omega
  · obtain rfl : d = e := by simpa using he
    omega
/-- One more is said. -/
theorem RSt.say (h : RSt b V n kS kA kB q w S cS l A cA R1 B cB R2 cs wr) {g' c' m : Nat} {l' : List Int} (hO : OwnInts w' w.heap.size (some ⟨g', 0, none⟩) m c' l') (hg : wr.grownBy w' (S.map (·.block))) (hor : S.map (·.block) = some g' ∨ wr.heap.size ≤ g') : RSt b V n m kA kB q w (some ⟨g', 0, none⟩) c' l' A cA R1 B cB R2 cs w' := by
  obtain ⟨h1, h2, h3, h4, h5⟩ := h.lows
  have hbl := h.blo
  refine ⟨h.res.grown hg (own_other' h.says h.res (by decide)), h.box.grown hg (own_other' h.says h.box (by decide)), hO, crd_turn h.first hg (fun d e he => own_type h.first.top h.says (by decide) d he e) (fun d e z hz he => h.sne z (List.mem_append_left _ hz) (by rw [e, he])), crd_turn h.second hg (fun d e he => own_type h.second.top h.says (by decide) d he e) (fun d e z hz he => h.sne z (List.mem_append_right _ hz) (by rw [e, he])), h.lens, fun z hz e => ?_, h.tne, h.rd.grown hg (fun d e => by have := h1 d e; omega), gro_above (d := 0) h.gro hg (fun d e => (h1 d e).1), h.vlo, h.blo⟩
  have e' : g' = z.g := by simpa using e
  rcases hor with hh | hh
  · exact h.sne z hz (by rw [hh, e'])
  · have := h4 z hz; omega
/-- One more row in the first table. -/
theorem RSt.row1 (h : RSt b V n kS kA kB q w S cS l A cA R1 B cB R2 cs wr) {g' c' : Nat} {x : Hdr} (hC : Crd w' w.heap.size (some ⟨g', 0, none⟩) (kA + 1) c' (R1 ++ [x])) (hx : x.l.length = n) (hxs : S.map (·.block) ≠ some x.g) (hg : wr.grownBy w' (A.map (·.block))) (hor : A.map (·.block) = some g' ∨ wr.heap.size ≤ g') : RSt b V n kS (kA + 1) kB q w S cS l (some ⟨g', 0, none⟩) c' (R1 ++ [x]) B cB R2 cs w' := by
  obtain ⟨h1, h2, h3, h4, h5⟩ := h.lows
  have hbl := h.blo
  refine ⟨h.res.grown hg (own_other' h.first.top h.res (by decide)), h.box.grown hg (own_other' h.first.top h.box (by decide)), own_kept h.says hg (fun d hd e => own_type h.says h.first.top (by decide) d hd e), hC, crd_turn h.second hg (fun d e he => h.tne d e he) (fun d e z hz he => own_type (h.second.row z hz) h.first.top (by decide) z.g rfl (by rw [e, he])), fun z hz => ?_, fun z hz => ?_, fun d e he => ?_, h.rd.grown hg (fun d e => by have := h2 d e; omega), gro_above (d := 0) h.gro hg (fun d e => (h2 d e).1), h.vlo, h.blo⟩
  · rcases List.mem_append.1 hz with e | e
    · rcases List.mem_append.1 e with e | e
      · exact h.lens z (List.mem_append_left _ e)
      · rw [List.mem_singleton] at e; subst e; exact hx
    · exact h.lens z (List.mem_append_right _ e)
  · rcases List.mem_append.1 hz with e | e
    · rcases List.mem_append.1 e with e | e
      · exact h.sne z (List.mem_append_left _ e)
      · rw [List.mem_singleton] at e; subst e; exact hxs
    · exact h.sne z (List.mem_append_right _ e)
  · have e' : g' = d := by simpa using e
    rcases hor with hh | hh
    · exact h.tne g' hh (by rw [e']; exact he)
    · have := h3 d he; omega
/-- One more row in the second table. -/
theorem RSt.row2 (h : RSt b V n kS kA kB q w S cS l A cA R1 B cB R2 cs wr) {g' c' : Nat} {x : Hdr} (hC : Crd w' w.heap.size (some ⟨g', 0, none⟩) (kB + 1) c' (R2 ++ [x])) (hx : x.l.length = n) (hxs : S.map (·.block) ≠ some x.g) (hg : wr.grownBy w' (B.map (·.block))) (hor : B.map (·.block) = some g' ∨ wr.heap.size ≤ g') : RSt b V n kS kA (kB + 1) q w S cS l A cA R1 (some ⟨g', 0, none⟩) c' (R2 ++ [x]) cs w' := by
  obtain ⟨h1, h2, h3, h4, h5⟩ := h.lows
  have hbl := h.blo
  refine ⟨h.res.grown hg (own_other' h.second.top h.res (by decide)), h.box.grown hg (own_other' h.second.top h.box (by decide)), own_kept h.says hg (fun d hd e => own_type h.says h.second.top (by decide) d hd e), crd_turn h.first hg (fun d e he => h.tne d he e) (fun d e z hz he => own_type (h.first.row z hz) h.second.top (by decide) z.g rfl (by rw [e, he])), hC, fun z hz => ?_, fun z hz => ?_, fun d e he => ?_, h.rd.grown hg (fun d e => by have := h3 d e; omega), gro_above (d := 0) h.gro hg (fun d e => (h3 d e).1), h.vlo, h.blo⟩
  · rcases List.mem_append.1 hz with e | e
    · exact h.lens z (List.mem_append_left _ e)
    · rcases List.mem_append.1 e with e | e
      · exact h.lens z (List.mem_append_right _ e)
      · rw [List.mem_singleton] at e; subst e; exact hx
  · rcases List.mem_append.1 hz with e | e
    · exact h.sne z (List.mem_append_left _ e)
    · rcases List.mem_append.1 e with e | e
      · exact h.sne z (List.mem_append_right _ e)
      · rw [List.mem_singleton] at e; subst e; exact hxs
  · have e' : g' = d := by simpa using he
    rcases hor with hh | hh
    · exact h.tne d e (by rw [hh, e'])
    · have := h2 d e; omega
/-- A store into the box. -/
theorem RSt.store (h : RSt b V n kS kA kB q w S cS l A cA R1 B cB R2 cs wr) (j : Nat) (v : Value) : RSt b V n kS kA kB q w S cS l A cA R1 B cB R2 (cs.setIfInBounds j v) (wr.setCell ⟨V, j, none⟩ v) := by
  have hv := h.vlo
  have hbl := h.blo
  have hg := grown_set wr V j v
  refine ⟨h.res.grown hg (by simp; omega), h.box.set j v, h.says.grown hg h.box (by decide), crd_turn h.first hg (fun d e he => ?_) (fun d e z hz he => ?_), crd_turn h.second hg (fun d e he => ?_) (fun d e z hz he => ?_), h.lens, h.sne, h.tne, h.rd.grown hg (fun d e => by have e2 : V = d := (by simpa using e); omega), gro_above (d := 0) h.gro hg (fun d e => by have e2 : V = d := (by simpa using e); omega), h.vlo, h.blo⟩
  · exact own_other' h.first.top h.box (by decide) (by rw [he, e])
  · exact own_other' (h.first.row z hz) h.box (by decide) (by rw [e, ← he]; rfl)
  · exact own_other' h.second.top h.box (by decide) (by rw [he, e])
  · exact own_other' (h.second.row z hz) h.box (by decide) (by rw [e, ← he]; rfl)
theorem own_same' {w W : World} {base : Nat} {E : TypeId} {s : Nat} {A : Option Addr} {n c m : Nat} {xs : List Value} (h : w.ownsRow base E s (.slice A n c) m xs) (hs : ∀ k, A.map (·.block) = some k → W.heap[k]? = w.heap[k]?) : W.ownsRow base E s (.slice A n c) m xs := by
  refine ⟨h.1, ?_⟩
  rcases h.2 with h0 | ⟨g, cap, cur, e, h1, h2, h3⟩
  · exact .inl h0
  · cases e
    exact .inr ⟨g, _, cur, rfl, h1, (hs g rfl).trans h2, h3⟩
theorem crd_rows {lo m c : Nat} {A : Option Addr} {R : List Hdr} (h : Crd wr lo A m c R) : Rows wr A m (hdrR R) (numR R) := fun i hi => by
  obtain ⟨g, rfl, _⟩ := h.at (by omega)
  exact h.crn.rows i hi
/-- What was drawn, whatever happens outside of it. -/
theorem RSt.rulAt (h : RSt b V n kS kA kB q w S cS l A cA R1 B cB R2 cs wr) (hn : n ≤ 1000) (hS : kS ≤ 1000) (hA : kA ≤ 1000) (hB : kB ≤ 1000) (W : World) (hs0 : ∀ i, w.heap.size < i → i < wr.heap.size → W.heap[i]? = wr.heap[i]?) : RulAt W S kS (fun i => l.getD i 0) A kA (hdrR R1) (numR R1) B kB (hdrR R2) (numR R2) := by
  obtain ⟨h1, h2, h3, h4, _⟩ := h.lows
  have hs : ∀ i, w.heap.size ≤ i → i < wr.heap.size → i ≠ w.heap.size → W.heap[i]? = wr.heap[i]? := fun i a b c => hs0 i (by omega) b
  have e1 : some w.heap.size ≠ S.map (·.block) := own_other' h.says h.res (by decide)
  have e2 : some w.heap.size ≠ A.map (·.block) := own_other' h.first.top h.res (by decide)
  have e3 : some w.heap.size ≠ B.map (·.block) := own_other' h.second.top h.res (by decide)
  have e4 : ∀ z ∈ R1 ++ R2, z.g ≠ w.heap.size := fun z hz e => by
    rcases List.mem_append.1 hz with e5 | e5
    · exact own_other' (h.first.row z e5) h.res (by decide) (by rw [← e]; rfl)
    · exact own_other' (h.second.row z e5) h.res (by decide) (by rw [← e]; rfl)
  have c1 : Crd W w.heap.size A kA cA R1 := ⟨own_same' h.first.top (fun k hk => hs k (h2 k hk).1 (h2 k hk).2 (fun e => e2 (by rw [hk, e]))), fun z hz => own_same' (h.first.row z hz) (fun k hk => by have e : z.g = k := (by simpa using hk); have := h4 z (List.mem_append_left _ hz); have h9 := e4 z (List.mem_append_left _ hz); exact hs k (by omega) (by omega) (by omega))⟩
  have c2 : Crd W w.heap.size B kB cB R2 := ⟨own_same' h.second.top (fun k hk => hs k (h3 k hk).1 (h3 k hk).2 (fun e => e3 (by rw [hk, e]))), fun z hz => own_same' (h.second.row z hz) (fun k hk => by have e : z.g = k := (by simpa using hk); have := h4 z (List.mem_append_right _ hz); have h9 := e4 z (List.mem_append_right _ hz); exact hs k (by omega) (by omega) (by omega))⟩
  have o : OwnInts W w.heap.size S kS cS l := own_same' h.says (fun k hk => hs k (h1 k hk).1 (h1 k hk).2 (fun e => e1 (by rw [hk, e])))
  refine ⟨o.ints, crd_rows c1, crd_rows c2, by omega, by omega, by omega, fun i hi => ?_, fun i hi => ?_⟩
  · have := h.lens _ (List.mem_append_left R2 (getD_mem (R := R1) (i := i) (by rw [h.first.len]; exact hi)))
    unfold hdrR
    dsimp only
    omega
  · have := h.lens _ (List.mem_append_right R1 (getD_mem (R := R2) (i := i) (by rw [h.second.len]; exact hi)))
    unfold hdrR
    dsimp only
    omega
/-- One number of what is said turns. -/
theorem RSt.sayset {g : Nat} (h : RSt b V n kS kA kB q w (some ⟨g, 0, none⟩) cS l A cA R1 B cB R2 cs wr) (j : Nat) (v : Int) : RSt b V n kS kA kB q w (some ⟨g, 0, none⟩) cS (l.set j v) A cA R1 B cB R2 cs (wr.setCell ⟨g, j, none⟩ (.int .i64 v)) := by
  obtain ⟨h1, h2, h3, h4, h5⟩ := h.lows
  have hbl := h.blo
  have hg := grown_set wr g j (.int .i64 v)
  have hb := h1 g rfl
  have hS : (some (⟨g, 0, none⟩ : Addr)).map (·.block) = some g := rfl
  refine ⟨h.res.grown hg (fun e => own_other' h.says h.res (by decide) (by rw [e, hS])), h.box.grown hg (fun e => own_other' h.says h.box (by decide) (by rw [e, hS])), h.says.set j v, crd_turn h.first hg (fun d e he => own_type h.first.top h.says (by decide) d he (by rw [hS, e])) (fun d e z hz he => h.sne z (List.mem_append_left _ hz) (by rw [hS, e, he])), crd_turn h.second hg (fun d e he => own_type h.second.top h.says (by decide) d he (by rw [hS, e])) (fun d e z hz he => h.sne z (List.mem_append_right _ hz) (by rw [hS, e, he])), h.lens, h.sne, h.tne, h.rd.grown hg (fun d e => by have e2 : g = d := (by simpa using e); omega), gro_above (d := 0) h.gro hg (fun d e => by have e2 : g = d := (by simpa using e); omega), h.vlo, h.blo⟩
/-- A list's number at a place of a block. -/
def updH (g j : Nat) (v : Int) (h : Hdr) : Hdr := if h.g = g then ⟨h.g, h.c, h.d, h.l.set j v⟩ else h
theorem updH_v (g j : Nat) (v : Int) (h : Hdr) : (updH g j v h).v = h.v ∧ (updH g j v h).l.length = h.l.length ∧ (updH g j v h).g = h.g := by
  unfold updH Hdr.v
  split <;> simp
theorem crd_upd {lo m c g j : Nat} {A : Option Addr} {R : List Hdr} {v : Int} (h : Crd wr lo A m c R) (hne : A.map (·.block) ≠ some g) : Crd (wr.setCell ⟨g, j, none⟩ (.int .i64 v)) lo A m c (R.map (updH g j v)) := by
  refine ⟨?_, fun z hz => ?_⟩
  · have e : (R.map (updH g j v)).map Hdr.v = R.map Hdr.v := by
      rw [List.map_map]
      exact List.map_congr_left (fun x _ => (updH_v g j v x).1)
    rw [e]
    exact own_kept h.top (grown_set _ _ _ _) (fun k hk e => hne (by rw [hk]; exact e.symm))
  · obtain ⟨x, hx, rfl⟩ := List.mem_map.1 hz
    have hr := h.row x hx
    unfold updH
    by_cases e : x.g = g
    · rw [if_pos e]
      subst e
      have hh := hr.set j v
      show OwnInts _ _ _ (x.l.set j v).length _ (x.l.set j v)
      rw [List.length_set]
      exact hh
    · rw [if_neg e]
      exact own_kept hr (grown_set _ _ _ _) (fun k hk e2 => e (by have e3 : x.g = k := (by simpa using hk); have e4 : g = k := (by simpa using e2); omega))
theorem RSt.cellset {g : Nat} (h : RSt b V n kS kA kB q w S cS l A cA R1 B cB R2 cs wr) (hg : ∃ z ∈ R1 ++ R2, z.g = g) (j : Nat) (v : Int) : RSt b V n kS kA kB q w S cS l A cA (R1.map (updH g j v)) B cB (R2.map (updH g j v)) cs (wr.setCell ⟨g, j, none⟩ (.int .i64 v)) := by
  obtain ⟨h1, h2, h3, h4, h5⟩ := h.lows
  have hbl := h.blo
  have hgr := grown_set wr g j (.int .i64 v)
  obtain ⟨z, hz, rfl⟩ := hg
  have hzb := h4 z hz
  have hro : OwnInts wr w.heap.size (some ⟨z.g, 0, none⟩) z.l.length z.d z.l := by
    rcases List.mem_append.1 hz with e | e
    · exact h.first.row z e
    · exact h.second.row z e
  have hzS : (some (⟨z.g, 0, none⟩ : Addr)).map (·.block) = some z.g := rfl
  have hmem : ∀ x ∈ R1.map (updH z.g j v) ++ R2.map (updH z.g j v), ∃ x' ∈ R1 ++ R2, x = updH z.g j v x' := fun x hx => by
    rw [← List.map_append] at hx
    obtain ⟨x', h6, h7⟩ := List.mem_map.1 hx
    exact ⟨x', h6, h7.symm⟩
  refine ⟨h.res.grown hgr (fun e => own_other' hro h.res (by decide) (by rw [e, hzS])), h.box.grown hgr (fun e => own_other' hro h.box (by decide) (by rw [e, hzS])), own_kept h.says hgr (fun d hd e => h.sne z hz (by rw [hd]; exact e.symm)), crd_upd h.first (fun e => own_type h.first.top hro (by decide) _ e hzS), crd_upd h.second (fun e => own_type h.second.top hro (by decide) _ e hzS), fun x hx => ?_, fun x hx => ?_, h.tne, h.rd.grown hgr (fun d e => by have e2 : z.g = d := (by simpa using e); omega), gro_above (d := 0) h.gro hgr (fun d e => by have e2 : z.g = d := (by simpa using e); omega), h.vlo, h.blo⟩
  · obtain ⟨x', h6, rfl⟩ := hmem x hx
    rw [(updH_v z.g j v x').2.1]
    exact h.lens x' h6
  · obtain ⟨x', h6, rfl⟩ := hmem x hx
    rw [(updH_v z.g j v x').2.2]
    exact h.sne x' h6
theorem rulAt_tail {nS nA m gB : Nat} {S A : Option Addr} {s : Nat → Int} {rA rB : Nat → Option Addr × Nat × Nat} {f g : Nat → Nat → Int} {W : World} (h : RulAt W S nS s A nA rA f (some ⟨gB, 0, none⟩) (m + 1) rB g) : RulAt W S nS s A nA rA f (some ⟨gB, 1, none⟩) m (fun i => rB (i + 1)) (fun i => g (i + 1)) :=
  ⟨h.says, h.first, fun i hi => by
    obtain ⟨⟨d, off, e, hc⟩, h2⟩ := h.second (i + 1) (by omega)
    cases e
    exact ⟨⟨gB, 1, rfl, by rw [show 1 + i = 0 + (i + 1) by omega]; exact hc⟩, h2⟩, h.bS, h.bA, by have := h.bB; omega, h.lA, fun i hi => h.lB (i + 1) (by omega)⟩
theorem rulAt_none {nS nA m : Nat} {S A B B' : Option Addr} {s : Nat → Int} {rA rB : Nat → Option Addr × Nat × Nat} {f g : Nat → Nat → Int} {W : World} (h : RulAt W S nS s A nA rA f B m rB g) : RulAt W S nS s A nA rA f B' 0 rB g :=
  ⟨h.says, h.first, fun i hi => absurd hi (Nat.not_lt_zero _), h.bS, h.bA, by omega, h.lA, fun i hi => absurd hi (Nat.not_lt_zero _)⟩
end
end Go.Proofs.Ytaejakejnllimaa
