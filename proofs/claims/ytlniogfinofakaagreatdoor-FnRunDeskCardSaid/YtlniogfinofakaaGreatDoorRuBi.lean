/-
  The drawn rules: whatever the code is, rules of one to four kinds in new memory. Condition: at most a thousand picks so far.
-/
import Derived.Test.YtlniogfinofakaaGreatDoorRuAv
import Derived.Test.YtlniogfinofakaaGreatDoorRuAm
import Derived.Test.YtlniogfinofakaaGreatDoorRuBh
import Derived.Test.YtlniogfinofakaaGreatDoorRuAu
import Derived.Test.YtlniogfinofakaaGreatDoorRuAd
import Derived.Deep.RegionLaw
import Derived.Test.YtlniogfinofakaaGreatDoorRuBg
import Derived.ArgAppend
namespace Go.Proofs.YtlniogfinofakaaGreatDoor
set_option maxRecDepth 100000
set_option linter.unusedVariables false
set_option maxRecDepth 100000
open Go.RowKit

set_option maxHeartbeats 1000000 in
theorem of_any (b p d n c : Nat) (l : List Value) (w : World) (h : Rd w b p) (hp : p ≤ 1000000) (hn : 1 ≤ n) (hn2 : n ≤ 1000) (hl : l.length = n) (hc : ∀ i, i < n → w.cell? ⟨d, i, none⟩ = some (l.getD i undef)) (hs : ∀ i, i < n → ∃ s, l.getD i undef = .string s) (hd : d ≠ b) :
    Calls Tryz.prog 25 #[.pointer (some ⟨b, 0, none⟩), .slice (some ⟨d, 0, none⟩) n c] w fun e w' => ∃ i, i < n ∧ e = .returned (l.getD i undef) ∧ Rd w' b (p + 1) ∧ Gro b w w' := by
  have HC := Lib.hid hc
  have HS := Lib.hid hs
  clear hc hs
  go_enter Tryz.func25, Tryz.ntmps25
  go_wp2_with fail
  refine (pick_any b p n _ h hp).mono ?_
  rintro e w1 ⟨i, rfl, hi, hR, hG⟩
  have hin : i < n := by omega
  have hc' := hG.cell (HC.out i hin) hd
  obtain ⟨s, hs⟩ := HS.out i hin
  have HF : Hid (l.getD i undef = .string s) := Lib.hid hs
  rw [hs] at hc'
  clear hs
  have hin' : (i : Int) < n := by omega
  go_wp2
  go_ret
  exact ⟨i, hin, by rw [HF.out]; rfl, hR, hG⟩
/-- Drawn rules: whatever happens outside of what was made, they stay. -/
structure RulDrawn (b p : Nat) (w : World) (v : Value) (w' : World) (S A B : Option Addr) (nS cS nA cA nB cB : Nat) (s : Nat → Int) (rA rB : Nat → Option Addr × Nat × Nat) (f g : Nat → Nat → Int) (q : Nat) : Prop where
  val : v = .agg #[.slice S nS cS, .slice A nA cA, .slice B nB cB]
  at' : ∀ W, Same w.heap.size w'.heap.size w' W → RulAt W S nS s A nA rA f B nB rB g
  one : 1 ≤ nS
  four : nS ≤ 4
  rd : Rd w' b q
  few : q ≤ p + 60
  gro : Gro b w w'
theorem Same.widen {lo hi lo' hi' : Nat} {w1 w2 : World} (h1 : Same lo hi w1 w2) (hl : lo ≤ lo') (hh : hi' ≤ hi) : Same lo' hi' w1 w2 := fun i a b => h1 i (by omega) (by omega)
theorem Same.trans {lo hi : Nat} {w1 w2 w3 : World} (h1 : Same lo hi w1 w2) (h2 : Same lo hi w2 w3) : Same lo hi w1 w3 := fun i a b => (h2 i a b).trans (h1 i a b)
theorem Same.keeps {lo hi : Nat} {w w' : World} (k : Keeps w w') (hh : hi ≤ w.heap.size) : Same lo hi w w' := fun i a b => k.block i (by omega)
/-- The named tables. -/
theorem named_any (v : Value) (w : World) (hv : v = .string ⟨#[115, 111, 109, 101]⟩ ∨ v = .string ⟨#[116, 104, 114, 101, 101]⟩ ∨ v = .string ⟨#[109, 111, 115, 116]⟩ ∨ v = .string ⟨#[111, 100, 100]⟩) :
    Calls Tryz.prog 34 #[v] w fun e w' => ∃ (S A B : Option Addr) (n : Nat) (s : Nat → Int) (rA rB : Nat → Option Addr × Nat × Nat) (f g : Nat → Nat → Int), e = .returned (.tuple #[.agg #[.slice S n n, .slice A n n, .slice B n n], .bool true]) ∧ (∀ W, Same w.heap.size w'.heap.size w' W → RulAt W S n s A n rA f B n rB g) ∧ (1 ≤ n ∧ n ≤ 4) ∧ Keeps w w' := by
  rcases hv with rfl | rfl | rfl | rfl
  · refine (rulesOf_some w).mono ?_
    rintro e w' ⟨S, A, B, rA, rB, rfl, h1, _, h3⟩
    exact ⟨S, A, B, 2, _, rA, rB, _, _, rfl, h1, by omega, h3⟩
  · refine (rulesOf_three w).mono ?_
    rintro e w' ⟨S, A, B, rA, rB, rfl, h1, _, h3⟩
    exact ⟨S, A, B, 4, _, rA, rB, _, _, rfl, h1, by omega, h3⟩
  · refine (rulesOf_most w).mono ?_
    rintro e w' ⟨S, A, B, rA, rB, rfl, h1, _, h3⟩
    exact ⟨S, A, B, 4, _, rA, rB, _, _, rfl, h1, by omega, h3⟩
  · refine (rulesOf_odd w).mono ?_
    rintro e w' ⟨S, A, B, rA, rB, rfl, h1, _, h3⟩
    exact ⟨S, A, B, 4, _, rA, rB, _, _, rfl, h1, by omega, h3⟩
theorem names_at (i : Nat) (hi : i < 4) : [Value.string ⟨#[115, 111, 109, 101]⟩, Value.string ⟨#[116, 104, 114, 101, 101]⟩, Value.string ⟨#[109, 111, 115, 116]⟩, Value.string ⟨#[111, 100, 100]⟩].getD i undef = .string ⟨#[115, 111, 109, 101]⟩ ∨ [Value.string ⟨#[115, 111, 109, 101]⟩, Value.string ⟨#[116, 104, 114, 101, 101]⟩, Value.string ⟨#[109, 111, 115, 116]⟩, Value.string ⟨#[111, 100, 100]⟩].getD i undef = .string ⟨#[116, 104, 114, 101, 101]⟩ ∨ [Value.string ⟨#[115, 111, 109, 101]⟩, Value.string ⟨#[116, 104, 114, 101, 101]⟩, Value.string ⟨#[109, 111, 115, 116]⟩, Value.string ⟨#[111, 100, 100]⟩].getD i undef = .string ⟨#[109, 111, 115, 116]⟩ ∨ [Value.string ⟨#[115, 111, 109, 101]⟩, Value.string ⟨#[116, 104, 114, 101, 101]⟩, Value.string ⟨#[109, 111, 115, 116]⟩, Value.string ⟨#[111, 100, 100]⟩].getD i undef = .string ⟨#[111, 100, 100]⟩ := by
  match i, hi with
  | 0, _ => exact .inl rfl
  | 1, _ => exact .inr (.inl rfl)
  | 2, _ => exact .inr (.inr (.inl rfl))
  | 3, _ => exact .inr (.inr (.inr rfl))
end Go.Proofs.YtlniogfinofakaaGreatDoor
/-
  Rules that are being drawn. No condition.
-/
namespace Go.Proofs.YtlniogfinofakaaGreatDoor
set_option maxRecDepth 100000
set_option linter.unusedVariables false
set_option maxRecDepth 100000
open Go.RowKit

/-- Rules that are being drawn: the result's box, the box V, what is said so far, the two tables so far, the reader. -/
structure RSt (b V n kS kA kB q : Nat) (w : World) (S : Option Addr) (cS : Nat) (l : List Int) (A : Option Addr) (cA : Nat) (R1 : List Hdr) (B : Option Addr) (cB : Nat) (R2 : List Hdr) (cs : Array Value) (wr : World) : Prop where
  res : Blk wr w.heap.size 54 #[.slice none 0 0, .slice none 0 0, .slice none 0 0]
  box : Blk wr V 54 cs
  says : OwnInts wr w.heap.size S kS cS l
  first : Crd wr w.heap.size A kA cA R1
  second : Crd wr w.heap.size B kB cB R2
  lens : ∀ h ∈ R1 ++ R2, h.l.length = n
  sne : ∀ h ∈ R1 ++ R2, S.map (·.block) ≠ some h.g
  tne : ∀ d, A.map (·.block) = some d → B.map (·.block) ≠ some d
  rd : Rd wr b q
  gro : Gro b w wr
  vlo : w.heap.size < V
  blo : b < w.heap.size
theorem gro_above {b d : Nat} {w wr w' : World} (h : Gro b w wr) {row : Option Nat} (hg : wr.grownBy w' row) (hd : ∀ d, row = some d → w.heap.size ≤ d) : Gro b w w' :=
  ⟨hg.os.trans h.os, hg.tape.trans h.tape, hg.output.trans h.output, Nat.le_trans h.size hg.size, fun i hi hn => (hg.block i (Nat.lt_of_lt_of_le hi h.size) (fun e => absurd (hd i e.symm) (by omega))).trans (h.block i hi hn)⟩
section
variable {b V n kS kA kB q q' : Nat} {w : World} {S : Option Addr} {cS : Nat} {l : List Int} {A : Option Addr} {cA : Nat} {R1 : List Hdr} {B : Option Addr} {cB : Nat} {R2 : List Hdr} {cs : Array Value} {wr w' : World}
theorem crd_turn {lo m c : Nat} {A : Option Addr} {R : List Hdr} {row : Option Nat} (h : Crd wr lo A m c R) (hg : wr.grownBy w' row) (hA : ∀ d, row = some d → A.map (·.block) ≠ some d) (hR : ∀ d, row = some d → ∀ h ∈ R, h.g ≠ d) : Crd w' lo A m c R :=
  ⟨own_kept h.top hg (fun k hk e => hA k e hk), fun z hz => own_kept (h.row z hz) hg (fun k hk e => hR k e z hz (by simpa using hk))⟩
/-- A block that is none of these turns. -/
theorem RSt.turn {row : Option Nat} (h : RSt b V n kS kA kB q w S cS l A cA R1 B cB R2 cs wr) (hg : wr.grownBy w' row) (hd : ∀ d, row = some d → d ≠ w.heap.size ∧ d ≠ V ∧ S.map (·.block) ≠ some d ∧ A.map (·.block) ≠ some d ∧ B.map (·.block) ≠ some d ∧ ∀ h ∈ R1 ++ R2, h.g ≠ d) (hr : Rd w' b q') (hgr : Gro b w w') :
    RSt b V n kS kA kB q' w S cS l A cA R1 B cB R2 cs w' :=
  ⟨h.res.grown hg (fun e => (hd _ e.symm).1 rfl), h.box.grown hg (fun e => (hd _ e.symm).2.1 rfl), own_kept h.says hg (fun k hk e => (hd k e).2.2.1 hk), crd_turn h.first hg (fun d e => (hd d e).2.2.2.1) (fun d e z hz => (hd d e).2.2.2.2.2 z (List.mem_append_left _ hz)), crd_turn h.second hg (fun d e => (hd d e).2.2.2.2.1) (fun d e z hz => (hd d e).2.2.2.2.2 z (List.mem_append_right _ hz)), h.lens, h.sne, h.tne, hr, hgr, h.vlo, h.blo⟩
theorem RSt.lows (h : RSt b V n kS kA kB q w S cS l A cA R1 B cB R2 cs wr) : (∀ d, S.map (·.block) = some d → w.heap.size ≤ d ∧ d < wr.heap.size) ∧ (∀ d, A.map (·.block) = some d → w.heap.size ≤ d ∧ d < wr.heap.size) ∧ (∀ d, B.map (·.block) = some d → w.heap.size ≤ d ∧ d < wr.heap.size) ∧ (∀ h ∈ R1 ++ R2, w.heap.size ≤ h.g ∧ h.g < wr.heap.size) ∧ V < wr.heap.size :=
  ⟨own_block h.says, own_block h.first.top, own_block h.second.top, fun z hz => by
    rcases List.mem_append.1 hz with e | e
    · exact own_block (h.first.row z e) z.g rfl
    · exact own_block (h.second.row z e) z.g rfl, h.box.lt⟩
/-- The reader turns. -/
theorem RSt.pick (h : RSt b V n kS kA kB q w S cS l A cA R1 B cB R2 cs wr) (hg : Gro b wr w') (hr : Rd w' b q') : RSt b V n kS kA kB q' w S cS l A cA R1 B cB R2 cs w' := by
  have hb := h.blo
  obtain ⟨h1, h2, h3, h4, _⟩ := h.lows
  refine h.turn hg (fun d e => ?_) hr (h.gro.step hg)
  obtain rfl : b = d := by simpa using e
  have := h.vlo
  exact ⟨by omega, by omega, fun e => by have := h1 _ e; omega, fun e => by have := h2 _ e; omega, fun e => by have := h3 _ e; omega, fun z hz => by have := h4 z hz; omega⟩
/-- New memory is made, or a number is drawn. -/
theorem RSt.step (h : RSt b V n kS kA kB q w S cS l A cA R1 B cB R2 cs wr) (k : Keeps wr w') : RSt b V n kS kA kB q w S cS l A cA R1 B cB R2 cs w' :=
  h.turn (row := none) ⟨k.os, k.tape, k.output, k.size, fun i hi _ => k.block i hi⟩ (fun d e => by cases e) (h.rd.gro k) (h.gro.step (Gro.ofKeeps k))
/-- A block above L turns, where all lie below L. -/
theorem RSt.above (h : RSt b V n kS kA kB q w S cS l A cA R1 B cB R2 cs wr) {L d : Nat} (hL : w.heap.size ≤ L) (hV : V < L) (hb : (∀ d, S.map (·.block) = some d → d < L) ∧ (∀ d, A.map (·.block) = some d → d < L) ∧ (∀ d, B.map (·.block) = some d → d < L) ∧ ∀ h ∈ R1 ++ R2, h.g < L) (hg : wr.grownBy w' (some d)) (hd : L ≤ d) : RSt b V n kS kA kB q w S cS l A cA R1 B cB R2 cs w' := by
  have hv := h.vlo
  have hbl := h.blo
  obtain ⟨h1, h2, h3, h4⟩ := hb
  refine h.turn hg (fun e he => ?_) (h.rd.grown hg (fun e he => ?_)) (gro_above (d := d) h.gro hg (fun e he => ?_))
  · obtain rfl : d = e := by simpa using he
    exact ⟨by omega, by omega, fun e => by have := h1 _ e; omega, fun e => by have := h2 _ e; omega, fun e => by have := h3 _ e; omega, fun z hz => by have := h4 z hz; omega⟩
  · obtain rfl : d = e := by simpa using he
    omega
  · obtain rfl : d = e := by simpa using he
    omega
/-- One more is said. -/
theorem RSt.say (h : RSt b V n kS kA kB q w S cS l A cA R1 B cB R2 cs wr) {g' c' m : Nat} {l' : List Int} (hO : OwnInts w' w.heap.size (some ⟨g', 0, none⟩) m c' l') (hg : wr.grownBy w' (S.map (·.block))) (hor : S.map (·.block) = some g' ∨ wr.heap.size ≤ g') : RSt b V n m kA kB q w (some ⟨g', 0, none⟩) c' l' A cA R1 B cB R2 cs w' := by
  obtain ⟨h1, h2, h3, h4, h5⟩ := h.lows
  have hbl := h.blo
  refine ⟨h.res.grown hg (own_other' h.says h.res (by decide)), h.box.grown hg (own_other' h.says h.box (by decide)), hO, crd_turn h.first hg (fun d e he => own_type h.first.top h.says (by decide) d he e) (fun d e z hz he => h.sne z (List.mem_append_left _ hz) (by rw [e, he])), crd_turn h.second hg (fun d e he => own_type h.second.top h.says (by decide) d he e) (fun d e z hz he => h.sne z (List.mem_append_right _ hz) (by rw [e, he])), h.lens, fun z hz e => ?_, h.tne, h.rd.grown hg (fun d e => by have := h1 d e; omega), gro_above (d := 0) h.gro hg (fun d e => (h1 d e).1), h.vlo, h.blo⟩
  have e' : g' = z.g := by simpa using e
  rcases hor with hh | hh
  · exact h.sne z hz (by rw [hh, e'])
  · have := h4 z hz; omega
/-- One more row in the first table. -/
theorem RSt.row1 (h : RSt b V n kS kA kB q w S cS l A cA R1 B cB R2 cs wr) {g' c' : Nat} {x : Hdr} (hC : Crd w' w.heap.size (some ⟨g', 0, none⟩) (kA + 1) c' (R1 ++ [x])) (hx : x.l.length = n) (hxs : S.map (·.block) ≠ some x.g) (hg : wr.grownBy w' (A.map (·.block))) (hor : A.map (·.block) = some g' ∨ wr.heap.size ≤ g') : RSt b V n kS (kA + 1) kB q w S cS l (some ⟨g', 0, none⟩) c' (R1 ++ [x]) B cB R2 cs w' := by
  obtain ⟨h1, h2, h3, h4, h5⟩ := h.lows
  have hbl := h.blo
  refine ⟨h.res.grown hg (own_other' h.first.top h.res (by decide)), h.box.grown hg (own_other' h.first.top h.box (by decide)), own_kept h.says hg (fun d hd e => own_type h.says h.first.top (by decide) d hd e), hC, crd_turn h.second hg (fun d e he => h.tne d e he) (fun d e z hz he => own_type (h.second.row z hz) h.first.top (by decide) z.g rfl (by rw [e, he])), fun z hz => ?_, fun z hz => ?_, fun d e he => ?_, h.rd.grown hg (fun d e => by have := h2 d e; omega), gro_above (d := 0) h.gro hg (fun d e => (h2 d e).1), h.vlo, h.blo⟩
  · rcases List.mem_append.1 hz with e | e
    · rcases List.mem_append.1 e with e | e
      · exact h.lens z (List.mem_append_left _ e)
      · rw [List.mem_singleton] at e; subst e; exact hx
    · exact h.lens z (List.mem_append_right _ e)
  · rcases List.mem_append.1 hz with e | e
    · rcases List.mem_append.1 e with e | e
      · exact h.sne z (List.mem_append_left _ e)
      · rw [List.mem_singleton] at e; subst e; exact hxs
    · exact h.sne z (List.mem_append_right _ e)
  · have e' : g' = d := by simpa using e
    rcases hor with hh | hh
    · exact h.tne g' hh (by rw [e']; exact he)
    · have := h3 d he; omega
/-- One more row in the second table. -/
theorem RSt.row2 (h : RSt b V n kS kA kB q w S cS l A cA R1 B cB R2 cs wr) {g' c' : Nat} {x : Hdr} (hC : Crd w' w.heap.size (some ⟨g', 0, none⟩) (kB + 1) c' (R2 ++ [x])) (hx : x.l.length = n) (hxs : S.map (·.block) ≠ some x.g) (hg : wr.grownBy w' (B.map (·.block))) (hor : B.map (·.block) = some g' ∨ wr.heap.size ≤ g') : RSt b V n kS kA (kB + 1) q w S cS l A cA R1 (some ⟨g', 0, none⟩) c' (R2 ++ [x]) cs w' := by
  obtain ⟨h1, h2, h3, h4, h5⟩ := h.lows
  have hbl := h.blo
  refine ⟨h.res.grown hg (own_other' h.second.top h.res (by decide)), h.box.grown hg (own_other' h.second.top h.box (by decide)), own_kept h.says hg (fun d hd e => own_type h.says h.second.top (by decide) d hd e), crd_turn h.first hg (fun d e he => h.tne d he e) (fun d e z hz he => own_type (h.first.row z hz) h.second.top (by decide) z.g rfl (by rw [e, he])), hC, fun z hz => ?_, fun z hz => ?_, fun d e he => ?_, h.rd.grown hg (fun d e => by have := h3 d e; omega), gro_above (d := 0) h.gro hg (fun d e => (h3 d e).1), h.vlo, h.blo⟩
  · rcases List.mem_append.1 hz with e | e
    · exact h.lens z (List.mem_append_left _ e)
    · rcases List.mem_append.1 e with e | e
      · exact h.lens z (List.mem_append_right _ e)
      · rw [List.mem_singleton] at e; subst e; exact hx
  · rcases List.mem_append.1 hz with e | e
    · exact h.sne z (List.mem_append_left _ e)
    · rcases List.mem_append.1 e with e | e
      · exact h.sne z (List.mem_append_right _ e)
      · rw [List.mem_singleton] at e; subst e; exact hxs
  · have e' : g' = d := by simpa using he
    rcases hor with hh | hh
    · exact h.tne d e (by rw [hh, e'])
    · have := h2 d e; omega
/-- A store into the box. -/
theorem RSt.store (h : RSt b V n kS kA kB q w S cS l A cA R1 B cB R2 cs wr) (j : Nat) (v : Value) : RSt b V n kS kA kB q w S cS l A cA R1 B cB R2 (cs.setIfInBounds j v) (wr.setCell ⟨V, j, none⟩ v) := by
  have hv := h.vlo
  have hbl := h.blo
  have hg := grown_set wr V j v
  refine ⟨h.res.grown hg (by simp; omega), h.box.set j v, h.says.grown hg h.box (by decide), crd_turn h.first hg (fun d e he => ?_) (fun d e z hz he => ?_), crd_turn h.second hg (fun d e he => ?_) (fun d e z hz he => ?_), h.lens, h.sne, h.tne, h.rd.grown hg (fun d e => by have e2 : V = d := (by simpa using e); omega), gro_above (d := 0) h.gro hg (fun d e => by have e2 : V = d := (by simpa using e); omega), h.vlo, h.blo⟩
  · exact own_other' h.first.top h.box (by decide) (by rw [he, e])
  · exact own_other' (h.first.row z hz) h.box (by decide) (by rw [e, ← he]; rfl)
  · exact own_other' h.second.top h.box (by decide) (by rw [he, e])
  · exact own_other' (h.second.row z hz) h.box (by decide) (by rw [e, ← he]; rfl)
theorem own_same' {w W : World} {base : Nat} {E : TypeId} {s : Nat} {A : Option Addr} {n c m : Nat} {xs : List Value} (h : w.ownsRow base E s (.slice A n c) m xs) (hs : ∀ k, A.map (·.block) = some k → W.heap[k]? = w.heap[k]?) : W.ownsRow base E s (.slice A n c) m xs := by
  refine ⟨h.1, ?_⟩
  rcases h.2 with h0 | ⟨g, cap, cur, e, h1, h2, h3⟩
  · exact .inl h0
  · cases e
    exact .inr ⟨g, _, cur, rfl, h1, (hs g rfl).trans h2, h3⟩
theorem crd_rows {lo m c : Nat} {A : Option Addr} {R : List Hdr} (h : Crd wr lo A m c R) : Rows wr A m (hdrR R) (numR R) := fun i hi => by
  obtain ⟨g, rfl, _⟩ := h.at (by omega)
  exact h.crn.rows i hi
/-- What was drawn, whatever happens outside of it. -/
theorem RSt.rulAt (h : RSt b V n kS kA kB q w S cS l A cA R1 B cB R2 cs wr) (hn : n ≤ 1000) (hS : kS ≤ 1000) (hA : kA ≤ 1000) (hB : kB ≤ 1000) (W : World) (hs0 : ∀ i, w.heap.size < i → i < wr.heap.size → W.heap[i]? = wr.heap[i]?) : RulAt W S kS (fun i => l.getD i 0) A kA (hdrR R1) (numR R1) B kB (hdrR R2) (numR R2) := by
  obtain ⟨h1, h2, h3, h4, _⟩ := h.lows
  have hs : ∀ i, w.heap.size ≤ i → i < wr.heap.size → i ≠ w.heap.size → W.heap[i]? = wr.heap[i]? := fun i a b c => hs0 i (by omega) b
  have e1 : some w.heap.size ≠ S.map (·.block) := own_other' h.says h.res (by decide)
  have e2 : some w.heap.size ≠ A.map (·.block) := own_other' h.first.top h.res (by decide)
  have e3 : some w.heap.size ≠ B.map (·.block) := own_other' h.second.top h.res (by decide)
  have e4 : ∀ z ∈ R1 ++ R2, z.g ≠ w.heap.size := fun z hz e => by
    rcases List.mem_append.1 hz with e5 | e5
    · exact own_other' (h.first.row z e5) h.res (by decide) (by rw [← e]; rfl)
    · exact own_other' (h.second.row z e5) h.res (by decide) (by rw [← e]; rfl)
  have c1 : Crd W w.heap.size A kA cA R1 := ⟨own_same' h.first.top (fun k hk => hs k (h2 k hk).1 (h2 k hk).2 (fun e => e2 (by rw [hk, e]))), fun z hz => own_same' (h.first.row z hz) (fun k hk => by have e : z.g = k := (by simpa using hk); have := h4 z (List.mem_append_left _ hz); have h9 := e4 z (List.mem_append_left _ hz); exact hs k (by omega) (by omega) (by omega))⟩
  have c2 : Crd W w.heap.size B kB cB R2 := ⟨own_same' h.second.top (fun k hk => hs k (h3 k hk).1 (h3 k hk).2 (fun e => e3 (by rw [hk, e]))), fun z hz => own_same' (h.second.row z hz) (fun k hk => by have e : z.g = k := (by simpa using hk); have := h4 z (List.mem_append_right _ hz); have h9 := e4 z (List.mem_append_right _ hz); exact hs k (by omega) (by omega) (by omega))⟩
  have o : OwnInts W w.heap.size S kS cS l := own_same' h.says (fun k hk => hs k (h1 k hk).1 (h1 k hk).2 (fun e => e1 (by rw [hk, e])))
  refine ⟨o.ints, crd_rows c1, crd_rows c2, by omega, by omega, by omega, fun i hi => ?_, fun i hi => ?_⟩
  · have := h.lens _ (List.mem_append_left R2 (getD_mem (R := R1) (i := i) (by rw [h.first.len]; exact hi)))
    unfold hdrR
    dsimp only
    omega
  · have := h.lens _ (List.mem_append_right R1 (getD_mem (R := R2) (i := i) (by rw [h.second.len]; exact hi)))
    unfold hdrR
    dsimp only
    omega
/-- One number of what is said turns. -/
theorem RSt.sayset {g : Nat} (h : RSt b V n kS kA kB q w (some ⟨g, 0, none⟩) cS l A cA R1 B cB R2 cs wr) (j : Nat) (v : Int) : RSt b V n kS kA kB q w (some ⟨g, 0, none⟩) cS (l.set j v) A cA R1 B cB R2 cs (wr.setCell ⟨g, j, none⟩ (.int .i64 v)) := by
  obtain ⟨h1, h2, h3, h4, h5⟩ := h.lows
  have hbl := h.blo
  have hg := grown_set wr g j (.int .i64 v)
  have hb := h1 g rfl
  have hS : (some (⟨g, 0, none⟩ : Addr)).map (·.block) = some g := rfl
  refine ⟨h.res.grown hg (fun e => own_other' h.says h.res (by decide) (by rw [e, hS])), h.box.grown hg (fun e => own_other' h.says h.box (by decide) (by rw [e, hS])), h.says.set j v, crd_turn h.first hg (fun d e he => own_type h.first.top h.says (by decide) d he (by rw [hS, e])) (fun d e z hz he => h.sne z (List.mem_append_left _ hz) (by rw [hS, e, he])), crd_turn h.second hg (fun d e he => own_type h.second.top h.says (by decide) d he (by rw [hS, e])) (fun d e z hz he => h.sne z (List.mem_append_right _ hz) (by rw [hS, e, he])), h.lens, h.sne, h.tne, h.rd.grown hg (fun d e => by have e2 : g = d := (by simpa using e); omega), gro_above (d := 0) h.gro hg (fun d e => by have e2 : g = d := (by simpa using e); omega), h.vlo, h.blo⟩
/-- A list's number at a place of a block. -/
def updH (g j : Nat) (v : Int) (h : Hdr) : Hdr := if h.g = g then ⟨h.g, h.c, h.d, h.l.set j v⟩ else h
theorem updH_v (g j : Nat) (v : Int) (h : Hdr) : (updH g j v h).v = h.v ∧ (updH g j v h).l.length = h.l.length ∧ (updH g j v h).g = h.g := by
  unfold updH Hdr.v
  split <;> simp
theorem crd_upd {lo m c g j : Nat} {A : Option Addr} {R : List Hdr} {v : Int} (h : Crd wr lo A m c R) (hne : A.map (·.block) ≠ some g) : Crd (wr.setCell ⟨g, j, none⟩ (.int .i64 v)) lo A m c (R.map (updH g j v)) := by
  refine ⟨?_, fun z hz => ?_⟩
  · have e : (R.map (updH g j v)).map Hdr.v = R.map Hdr.v := by
      rw [List.map_map]
      exact List.map_congr_left (fun x _ => (updH_v g j v x).1)
    rw [e]
    exact own_kept h.top (grown_set _ _ _ _) (fun k hk e => hne (by rw [hk]; exact e.symm))
  · obtain ⟨x, hx, rfl⟩ := List.mem_map.1 hz
    have hr := h.row x hx
    unfold updH
    by_cases e : x.g = g
    · rw [if_pos e]
      subst e
      have hh := hr.set j v
      show OwnInts _ _ _ (x.l.set j v).length _ (x.l.set j v)
      rw [List.length_set]
      exact hh
    · rw [if_neg e]
      exact own_kept hr (grown_set _ _ _ _) (fun k hk e2 => e (by have e3 : x.g = k := (by simpa using hk); have e4 : g = k := (by simpa using e2); omega))
theorem RSt.cellset {g : Nat} (h : RSt b V n kS kA kB q w S cS l A cA R1 B cB R2 cs wr) (hg : ∃ z ∈ R1 ++ R2, z.g = g) (j : Nat) (v : Int) : RSt b V n kS kA kB q w S cS l A cA (R1.map (updH g j v)) B cB (R2.map (updH g j v)) cs (wr.setCell ⟨g, j, none⟩ (.int .i64 v)) := by
  obtain ⟨h1, h2, h3, h4, h5⟩ := h.lows
  have hbl := h.blo
  have hgr := grown_set wr g j (.int .i64 v)
  obtain ⟨z, hz, rfl⟩ := hg
  have hzb := h4 z hz
  have hro : OwnInts wr w.heap.size (some ⟨z.g, 0, none⟩) z.l.length z.d z.l := by
    rcases List.mem_append.1 hz with e | e
    · exact h.first.row z e
    · exact h.second.row z e
  have hzS : (some (⟨z.g, 0, none⟩ : Addr)).map (·.block) = some z.g := rfl
  have hmem : ∀ x ∈ R1.map (updH z.g j v) ++ R2.map (updH z.g j v), ∃ x' ∈ R1 ++ R2, x = updH z.g j v x' := fun x hx => by
    rw [← List.map_append] at hx
    obtain ⟨x', h6, h7⟩ := List.mem_map.1 hx
    exact ⟨x', h6, h7.symm⟩
  refine ⟨h.res.grown hgr (fun e => own_other' hro h.res (by decide) (by rw [e, hzS])), h.box.grown hgr (fun e => own_other' hro h.box (by decide) (by rw [e, hzS])), own_kept h.says hgr (fun d hd e => h.sne z hz (by rw [hd]; exact e.symm)), crd_upd h.first (fun e => own_type h.first.top hro (by decide) _ e hzS), crd_upd h.second (fun e => own_type h.second.top hro (by decide) _ e hzS), fun x hx => ?_, fun x hx => ?_, h.tne, h.rd.grown hgr (fun d e => by have e2 : z.g = d := (by simpa using e); omega), gro_above (d := 0) h.gro hgr (fun d e => by have e2 : z.g = d := (by simpa using e); omega), h.vlo, h.blo⟩
  · obtain ⟨x', h6, rfl⟩ := hmem x hx
    rw [(updH_v z.g j v x').2.1]
    exact h.lens x' h6
  · obtain ⟨x', h6, rfl⟩ := hmem x hx
    rw [(updH_v z.g j v x').2.2]
    exact h.sne x' h6
theorem rulAt_tail {nS nA m gB : Nat} {S A : Option Addr} {s : Nat → Int} {rA rB : Nat → Option Addr × Nat × Nat} {f g : Nat → Nat → Int} {W : World} (h : RulAt W S nS s A nA rA f (some ⟨gB, 0, none⟩) (m + 1) rB g) : RulAt W S nS s A nA rA f (some ⟨gB, 1, none⟩) m (fun i => rB (i + 1)) (fun i => g (i + 1)) :=
  ⟨h.says, h.first, fun i hi => by
    obtain ⟨⟨d, off, e, hc⟩, h2⟩ := h.second (i + 1) (by omega)
    cases e
    exact ⟨⟨gB, 1, rfl, by rw [show 1 + i = 0 + (i + 1) by omega]; exact hc⟩, h2⟩, h.bS, h.bA, by have := h.bB; omega, h.lA, fun i hi => h.lB (i + 1) (by omega)⟩
theorem rulAt_none {nS nA m : Nat} {S A B B' : Option Addr} {s : Nat → Int} {rA rB : Nat → Option Addr × Nat × Nat} {f g : Nat → Nat → Int} {W : World} (h : RulAt W S nS s A nA rA f B m rB g) : RulAt W S nS s A nA rA f B' 0 rB g :=
  ⟨h.says, h.first, fun i hi => absurd hi (Nat.not_lt_zero _), h.bS, h.bA, by omega, h.lA, fun i hi => absurd hi (Nat.not_lt_zero _)⟩
end
end Go.Proofs.YtlniogfinofakaaGreatDoor
/-
  The drawn rules: whatever the code is, rules of one to four kinds in new memory. Condition: at most a thousand picks so far.
-/
namespace Go.Proofs.YtlniogfinofakaaGreatDoor
set_option maxRecDepth 100000
set_option linter.unusedVariables false
set_option maxRecDepth 100000
open Go.RowKit

set_option maxHeartbeats 4000000 in
theorem someRules_any (b p : Nat) (w : World) (h : Rd w b p) (hp : p ≤ 1000) :
    Calls Tryz.prog 50 #[.pointer (some ⟨b, 0, none⟩)] w fun e w' => ∃ (v : Value) (S A B : Option Addr) (nS cS nA cA nB cB : Nat) (s : Nat → Int) (rA rB : Nat → Option Addr × Nat × Nat) (f g : Nat → Nat → Int) (q : Nat), e = .returned v ∧ RulDrawn b p w v w' S A B nS cS nA cA nB cB s rA rB f g q := by
  have HR := Lib.hid h
  have hbw := HR.out.lt
  clear h
  have HB0 := Lib.hid (Blk.new w #[.slice none 0 0, .slice none 0 0, .slice none 0 0] 54)
  have HR0 := Lib.hid (HR.out.gro (Keeps.alloc w (.cells #[.slice none 0 0, .slice none 0 0, .slice none 0 0] 54)))
  have HG0 : Hid (Gro b w (w.alloc (.cells #[.slice none 0 0, .slice none 0 0, .slice none 0 0] 54))) := Lib.hid (Gro.ofKeeps (Keeps.alloc w _))
  have HS0 : Hid (w.heap.size < (w.alloc (.cells #[.slice none 0 0, .slice none 0 0, .slice none 0 0] 54)).heap.size) := Lib.hid (by simp)
  go_enter Tryz.func50, Tryz.ntmps50
  go_wp2_with fail
  generalize w.alloc (.cells #[.slice none 0 0, .slice none 0 0, .slice none 0 0] 54) = w1 at *
  refine (pick_any b p 2 w1 HR0.out (by omega)).mono ?_
  rintro e w2 ⟨x, rfl, hx, hR2, hG2⟩
  have HB2 : Hid (Blk w2 w.heap.size 54 #[.slice none 0 0, .slice none 0 0, .slice none 0 0]) := Lib.hid (HB0.out.grown hG2 (by simp; omega))
  have HR2 := Lib.hid hR2
  have HG2 := Lib.hid (HG0.out.step hG2)
  have HS2 : Hid (w.heap.size < w2.heap.size) := Lib.hid (by have := HS0.out; have := hG2.size; omega)
  clear hR2 hG2 HB0 HR0 HG0 HS0
  by_cases hx0 : x = 0
  · subst hx0
    go_wp2_with fail
    refine (of_any b (p + 1) w2.heap.size 4 4 [Value.string ⟨#[115, 111, 109, 101]⟩, Value.string ⟨#[116, 104, 114, 101, 101]⟩, Value.string ⟨#[109, 111, 115, 116]⟩, Value.string ⟨#[111, 100, 100]⟩] _ (HR2.out.gro (Keeps.alloc _ _)) (by omega) (by omega) (by omega) rfl (fun i hi => ?_) (fun i hi => ?_) (by have := HS2.out; omega)).mono ?_
    · rw [(Blk.new w2 _ _).cell i]
      match i, hi with
      | 0, _ => rfl
      | 1, _ => rfl
      | 2, _ => rfl
      | 3, _ => rfl
    · rcases names_at i hi with e | e | e | e <;> exact ⟨_, e⟩
    rintro e w3 ⟨i, hi, rfl, hR3, hG3⟩
    have hv := names_at i hi
    generalize [Value.string ⟨#[115, 111, 109, 101]⟩, Value.string ⟨#[116, 104, 114, 101, 101]⟩, Value.string ⟨#[109, 111, 115, 116]⟩, Value.string ⟨#[111, 100, 100]⟩].getD i undef = v at *
    have hGa := (Gro.ofKeeps (Keeps.alloc w2 (.cells #[.string ⟨#[115, 111, 109, 101]⟩, .string ⟨#[116, 104, 114, 101, 101]⟩, .string ⟨#[109, 111, 115, 116]⟩, .string ⟨#[111, 100, 100]⟩] 9)) : Gro b w2 _).step hG3
    have HB3 : Hid (Blk w3 w.heap.size 54 #[.slice none 0 0, .slice none 0 0, .slice none 0 0]) := Lib.hid (HB2.out.grown hGa (by simp; omega))
    have HR3 := Lib.hid hR3
    have HG3 := Lib.hid (HG2.out.step hGa)
    have HS3 : Hid (w.heap.size < w3.heap.size) := Lib.hid (by have := HS2.out; have := hGa.size; omega)
    clear hR3 hG3 hGa HB2 HR2 HG2 HS2
    have CN := Lib.hid (named_any v w3 hv)
    clear hv
    go_wp2_with fail
    refine CN.out.mono ?_
    rintro e w4 ⟨S, A, B, n, s, rA, rB, f, g, rfl, hat, hn, hk4⟩
    have HAT := Lib.hid hat
    have HB4 : Hid (Blk w4 w.heap.size 54 #[.slice none 0 0, .slice none 0 0, .slice none 0 0]) := Lib.hid (HB3.out.keeps hk4)
    have HR4 := Lib.hid (HR3.out.gro hk4)
    have HG4 := Lib.hid (HG3.out.step (Gro.ofKeeps hk4))
    have HS4 := Lib.hid hk4.size
    have HN := Lib.hid hn
    have hz4 : w.heap.size < w4.heap.size := by have := HS3.out; have := HS4.out; omega
    have d0 : w4.cell? ⟨w.heap.size, 0, none⟩ = some (.slice none 0 0) := HB4.out.cell 0
    have d1 : w4.cell? ⟨w.heap.size, 1, none⟩ = some (.slice none 0 0) := HB4.out.cell 1
    have d2 : w4.cell? ⟨w.heap.size, 2, none⟩ = some (.slice none 0 0) := HB4.out.cell 2
    have f0 := HB4.out.frozen 0
    have f1 := HB4.out.frozen 1
    have f2 := HB4.out.frozen 2
    clear hat hk4 hn HB3 HR3 HG3 CN
    go_wp2
    have y1 := ((HB4.out.set 0 (.slice S n n)).set 1 (.slice A n n)).set 2 (.slice B n n)
    have y2 := y1.keeps (Keeps.alloc _ (.cells #[.slice S n n, .slice A n n, .slice B n n] 54))
    have c0 := y2.cell 0
    have c1 := y2.cell 1
    have c2 := y2.cell 2
    have hsm : Same w3.heap.size w4.heap.size w4 ((((w4.setCell ⟨w.heap.size, 0, none⟩ (.slice S n n)).setCell ⟨w.heap.size, 1, none⟩ (.slice A n n)).setCell ⟨w.heap.size, 2, none⟩ (.slice B n n)).alloc (.cells #[.slice S n n, .slice A n n, .slice B n n] 54)) := fun i h1 h2 => by
      have hne : i ≠ w.heap.size := by have := HS3.out; omega
      rw [(Keeps.alloc _ _).block i (by simp [World.setCell]; omega), Below.heap_setCell _ _ _ _ hne, Below.heap_setCell _ _ _ _ hne, Below.heap_setCell _ _ _ _ hne]
    have hgr : Gro b w ((((w4.setCell ⟨w.heap.size, 0, none⟩ (.slice S n n)).setCell ⟨w.heap.size, 1, none⟩ (.slice A n n)).setCell ⟨w.heap.size, 2, none⟩ (.slice B n n)).alloc (.cells #[.slice S n n, .slice A n n, .slice B n n] 54)) := (((HG4.out.setAbove (by omega) _).setAbove (by omega) _).setAbove (by omega) _).step (Gro.ofKeeps (Keeps.alloc _ _))
    have hrd := ((((HR4.out.set_other (d := w.heap.size) (o := 0) hbw (.slice S n n)).set_other (d := w.heap.size) (o := 1) hbw (.slice A n n)).set_other (d := w.heap.size) (o := 2) hbw (.slice B n n)).gro (Keeps.alloc _ (.cells #[.slice S n n, .slice A n n, .slice B n n] 54)))
    have hzz : w4.heap.size ≤ ((((w4.setCell ⟨w.heap.size, 0, none⟩ (.slice S n n)).setCell ⟨w.heap.size, 1, none⟩ (.slice A n n)).setCell ⟨w.heap.size, 2, none⟩ (.slice B n n)).alloc (.cells #[.slice S n n, .slice A n n, .slice B n n] 54)).heap.size := by simp [World.setCell]
    generalize ((((w4.setCell ⟨w.heap.size, 0, none⟩ (.slice S n n)).setCell ⟨w.heap.size, 1, none⟩ (.slice A n n)).setCell ⟨w.heap.size, 2, none⟩ (.slice B n n)).alloc (.cells #[.slice S n n, .slice A n n, .slice B n n] 54)) = W at *
    refine bodyPost_ret (v := .agg #[.slice S n n, .slice A n n, .slice B n n]) (by simp [results, Tryz.results50, go_sem, c0, c1, c2]) rfl ⟨_, S, A, B, n, n, n, n, n, n, s, rA, rB, f, g, _, rfl, rfl, fun W' hs => HAT.out W' (hsm.trans (hs.widen (by have := HS3.out; omega) hzz)), HN.out.1, HN.out.2, hrd, by omega, hgr⟩
  · have hx0' : ((x : Int) == 0) = false := by simp; omega
    go_wp2_with fail
    refine (pick_any b (p + 1) 3 w2 HR2.out (by omega)).mono ?_
    rintro e w3 ⟨y, rfl, hy, hR3, hG3⟩
    have hy2 : y ≤ 2 := by omega
    have HB3 : Hid (Blk w3 w.heap.size 54 #[.slice none 0 0, .slice none 0 0, .slice none 0 0]) := Lib.hid (HB2.out.grown hG3 (by simp; omega))
    have HG3 := Lib.hid (HG2.out.step hG3)
    have HS3 : Hid (w.heap.size < w3.heap.size) := Lib.hid (by have := HS2.out; have := hG3.size; omega)
    have HQ0 : Hid (RSt b w3.heap.size (y + 1) 0 0 0 (p + 2) w none 0 [] none 0 [] none 0 [] #[.slice none 0 0, .slice none 0 0, .slice none 0 0] (w3.alloc (.cells #[.slice none 0 0, .slice none 0 0, .slice none 0 0] 54))) := Lib.hid ⟨HB3.out.keeps (Keeps.alloc _ _), Blk.new w3 _ _, OwnInts.nil _ _, ⟨World.ownsRow_nil _ _ _ 1, fun h hh => by simp at hh⟩, ⟨World.ownsRow_nil _ _ _ 1, fun h hh => by simp at hh⟩, fun h hh => by simp at hh, fun h hh => by simp at hh, fun d e => (by cases e), hR3.gro (Keeps.alloc _ _), HG3.out.step (Gro.ofKeeps (Keeps.alloc _ _)), HS3.out, hbw⟩
    clear hR3 hG3 HB3 HB2 HR2 HG2 HS2 hx
    go_wp2_with fail
    generalize w3.alloc (.cells #[.slice none 0 0, .slice none 0 0, .slice none 0 0] 54) = w4 at *
    generalize w3.heap.size = V at *
    go_loopw [7] (fun i wr => ∃ (k q : Nat) (S : Option Addr) (cS : Nat) (l : List Int) (A : Option Addr) (cA : Nat) (R1 : List Hdr) (B : Option Addr) (cB : Nat) (R2 : List Hdr), k ≤ y + 1 ∧ i = .int .i64 k ∧ q ≤ p + 2 + 13 * k ∧ Hid (RSt b V (y + 1) k k k q w S cS l A cA R1 B cB R2 #[.slice S k cS, .slice A k cA, .slice B k cB] wr)) (fun i _ => y + 1 - (intOf i).toNat)
    case atStart => exact ⟨0, p + 2, none, 0, [], none, 0, [], none, 0, [], by omega, rfl, by omega, HQ0⟩
    case round =>
      clear HQ0
      obtain ⟨k, q, S, cS, l, A, cA, R1, B, cB, R2, hk, rfl, hq, HQ⟩ := hrel
      by_cases hlt : k < y + 1
      · have hki : (k : Int) < 1 + (y : Int) := by omega
        have d0 : wr.cell? ⟨V, 0, none⟩ = some (.slice S k cS) := HQ.out.box.cell 0
        have f0 := HQ.out.box.frozen 0
        have hVlt := HQ.out.box.lt
        have hsz := HQ.out.gro.size
        go_upto_region 9 with fail
        go_region_law (first | (refine step_go 22 #[.tmp 33, .const (.int .i64 2)] #[42, 3] rfl rfl (fun _ _ => rfl) (by simp [Act.eval, Act.put]) (pick_any b q 2 _ (HQ.out.rd.gro (Keeps.drew1 _)) (by omega)) ?_; rintro e w4 ⟨z, rfl, hz, hR4, hG4⟩; refine ⟨_, rfl, ?_⟩; have hQ4 := (HQ.out.step (Keeps.drew1 _)).pick hG4 hR4; have d4 : w4.cell? ⟨V, 0, none⟩ = some (.slice S k cS) := hQ4.box.cell 0; have z4 := hQ4.box.lt; have hQ5 := hQ4.step (Keeps.alloc w4 (.cells #[.int .i64 z] 3))) | (refine step_intH rfl (.tmp 32) (.tmp 35) rfl w.heap.size S k cS l _ rfl hQ5.says w4.heap.size z (by rw [(Blk.new w4 #[.int .i64 z] 3).cell 0]; rfl) rfl (by omega) hQ5.gro.size ?_; intro gs c6 w6 hO6 hg6 hor6; have hQ6 := hQ5.say hO6 hg6 (by rcases hor6 with e | e; exact .inl e; exact .inr (by omega)); have e6 : w6.cell? ⟨V, 0, none⟩ = some (.slice S k cS) := hQ6.box.cell 0; have f6 := hQ6.box.frozen 0))
        all_goals
          have HQ7 : Hid (RSt b V (y + 1) (k + 1) k k (q + 1) w (some ⟨gs, 0, none⟩) c6 (l ++ [(z : Int)]) A cA R1 B cB R2 #[.slice (some ⟨gs, 0, none⟩) (k + 1) c6, .slice A k cA, .slice B k cB] (w6.setCell ⟨V, 0, none⟩ (.slice (some ⟨gs, 0, none⟩) (k + 1) c6))) := Lib.hid (hQ6.store 0 _)
          clear hQ4 hQ5 hQ6 hR4 hG4 d4 z4 hO6 hg6 hor6 e6 f6 d0 f0 HQ hVlt hsz
          as_aux_lemma =>
            generalize w6.setCell ⟨V, 0, none⟩ (.slice (some ⟨gs, 0, none⟩) (k + 1) c6) = w7 at *
            have HLOW : Hid (w.heap.size ≤ w7.heap.size ∧ V < w7.heap.size ∧ ((∀ d, (some (⟨gs, 0, none⟩ : Addr)).map (·.block) = some d → d < w7.heap.size) ∧ (∀ d, A.map (·.block) = some d → d < w7.heap.size) ∧ (∀ d, B.map (·.block) = some d → d < w7.heap.size) ∧ ∀ h ∈ R1 ++ R2, h.g < w7.heap.size)) := Lib.hid (by
              obtain ⟨h1, h2, h3, h4, h5⟩ := HQ7.out.lows
              exact ⟨HQ7.out.gro.size, h5, fun d e => (h1 d e).2, fun d e => (h2 d e).2, fun d e => (h3 d e).2, fun z hz => (h4 z hz).2⟩)
            have HXY : Hid (RSt b V (y + 1) (k + 1) k k (q + 1) w (some ⟨gs, 0, none⟩) c6 (l ++ [(z : Int)]) A cA R1 B cB R2 #[.slice (some ⟨gs, 0, none⟩) (k + 1) c6, .slice A k cA, .slice B k cB] ((w7.alloc (.cells #[] 3)).alloc (.cells #[] 3)) ∧ OwnInts ((w7.alloc (.cells #[] 3)).alloc (.cells #[] 3)) w7.heap.size (some ⟨w7.heap.size, 0, none⟩) 0 0 [] ∧ OwnInts ((w7.alloc (.cells #[] 3)).alloc (.cells #[] 3)) w7.heap.size (some ⟨w7.heap.size + 1, 0, none⟩) 0 0 []) := Lib.hid ⟨(HQ7.out.step (Keeps.alloc _ _)).step (Keeps.alloc _ _), (OwnInts.made w7 w7.heap.size (Nat.le_refl _)).keeps (Keeps.alloc _ _), by
              have h := OwnInts.made (w7.alloc (.cells #[] 3)) w7.heap.size (by simp)
              rw [World.size_alloc] at h
              exact h⟩
            clear HQ7
            go_wp2_with fail
            generalize hL : w7.heap.size = L at *
            clear hL
            generalize (w7.alloc (.cells #[] 3)).alloc (.cells #[] 3) = w8 at *
            go_loopw [10, 8, 9] (fun j xv yv wi => ∃ (j' gx cx gy cy q' : Nat) (lx ly : List Int), j' ≤ y + 1 ∧ j = .int .i64 j' ∧ xv = .slice (some ⟨gx, 0, none⟩) j' cx ∧ yv = .slice (some ⟨gy, 0, none⟩) j' cy ∧ q' ≤ q + 1 + 4 * j' ∧ gx ≠ gy ∧ Hid (RSt b V (y + 1) (k + 1) k k q' w (some ⟨gs, 0, none⟩) c6 (l ++ [(z : Int)]) A cA R1 B cB R2 #[.slice (some ⟨gs, 0, none⟩) (k + 1) c6, .slice A k cA, .slice B k cB] wi ∧ OwnInts wi L (some ⟨gx, 0, none⟩) j' cx lx ∧ OwnInts wi L (some ⟨gy, 0, none⟩) j' cy ly)) (fun j _ _ _ => y + 1 - (intOf j).toNat)
            case atStart => exact ⟨0, L, 0, L + 1, 0, q + 1, [], [], by omega, rfl, rfl, rfl, by omega, by omega, HXY⟩
            case round =>
              clear HXY
              obtain ⟨j, gx, cx, gy, cy, q2, lx, ly, hj, rfl, rfl, rfl, hq2, hxy, HXY⟩ := hrel
              by_cases hltj : j < y + 1
              · have hji : (j : Int) < 1 + (y : Int) := by omega
                have HQ := Lib.hid HXY.out.1
                have HX := Lib.hid HXY.out.2.1
                have HY := Lib.hid HXY.out.2.2
                have hbL : b < L := by have := HLOW.out.1; omega
                clear HXY
                go_wp2_with fail
                refine (pick_any b q2 (1 + (y : Int)) wr HQ.out.rd (by omega)).mono ?_
                rintro e w9 ⟨u, rfl, hu, hR9, hG9⟩
                have HQ9 := Lib.hid (HQ.out.pick hG9 hR9)
                have HX9 : Hid (OwnInts w9 L (some ⟨gx, 0, none⟩) j cx lx) := Lib.hid (own_kept HX.out hG9 (fun d hd e => by have := (own_block HX.out d hd).1; have e2 : b = d := (by simpa using e); omega))
                have HY9 : Hid (OwnInts w9 L (some ⟨gy, 0, none⟩) j cy ly) := Lib.hid (own_kept HY.out hG9 (fun d hd e => by have := (own_block HY.out d hd).1; have e2 : b = d := (by simpa using e); omega))
                clear hR9 hG9 HQ HX HY
                obtain ⟨xf, hxf⟩ : ∃ xf : Nat → Int, xf = fun i => [(k : Int), (u : Int)].getD i 0 := ⟨_, rfl⟩
                have HXF : Hid (Ints (w9.alloc (.cells #[.int .i64 (k : Int), .int .i64 (u : Int)] 3)) (some ⟨w9.heap.size, 0, none⟩) 2 xf) := Lib.hid (by rw [hxf]; exact ints_lit w9 [(k : Int), (u : Int)])
                clear hxf
                go_wp2_with fail
                refine (one_any b (q2 + 1) (some ⟨w9.heap.size, 0, none⟩) 2 2 xf _ (HQ9.out.step (Keeps.alloc _ _)).rd (by omega) (by omega) (by omega) HXF.out (fun d off e => by cases e; have := (HY9.out.block).2; have := HY9.out.block.1; omega)).mono ?_
                rintro e w10 ⟨i1, hi1, rfl, hR10, hG10⟩
                generalize xf i1 = v1 at *
                have HQ10 := Lib.hid ((HQ9.out.step (Keeps.alloc _ _)).pick hG10 hR10)
                have HX10 : Hid (OwnInts w10 L (some ⟨gx, 0, none⟩) j cx lx) := Lib.hid (own_kept (HX9.out.keeps (Keeps.alloc _ _)) hG10 (fun d hd e => by have := (own_block HX9.out d hd).1; have e2 : b = d := (by simpa using e); omega))
                have HY10 : Hid (OwnInts w10 L (some ⟨gy, 0, none⟩) j cy ly) := Lib.hid (own_kept (HY9.out.keeps (Keeps.alloc _ _)) hG10 (fun d hd e => by have := (own_block HY9.out d hd).1; have e2 : b = d := (by simpa using e); omega))
                clear hR10 hG10 HQ9 HX9 HY9
                have hs10 : L ≤ w10.heap.size := by have := HX10.out.block; omega
                go_wp2_with (first | (at_builtin; go_loud (refine wp_intH rfl _ _ rfl L (some ⟨gx, 0, none⟩) j cx lx _ rfl (HX10.out.keeps (Keeps.alloc _ _)) w10.heap.size v1 (by rw [(Blk.new w10 #[.int .i64 v1] 3).cell 0]; rfl) rfl (by omega) (by have := (Keeps.alloc w10 (.cells #[.int .i64 v1] 3)).size; omega) ?_; intro gx2 cx2 w11 hX11 hg11 hor11)))
                have hgx : L ≤ gx := HX10.out.block.1
                have hgy : L ≤ gy ∧ gy < w10.heap.size := HY10.out.block
                have HQ11 := Lib.hid ((HQ10.out.step (Keeps.alloc w10 (.cells #[.int .i64 v1] 3))).above HLOW.out.1 HLOW.out.2.1 HLOW.out.2.2 hg11 hgx)
                have HX11 := Lib.hid hX11
                have HY11 : Hid (OwnInts w11 L (some ⟨gy, 0, none⟩) j cy ly) := Lib.hid (own_kept (HY10.out.keeps (Keeps.alloc _ _)) hg11 (fun d hd e => by have e1 : gy = d := (by simpa using hd); have e2 : gx = d := (by simpa using e); omega))
                have hxy2 : gx2 ≠ gy := by
                  rcases hor11 with e | e
                  · have e1 : gx = gx2 := by simpa using e
                    omega
                  · have := (Keeps.alloc w10 (.cells #[.int .i64 v1] 3)).size
                    omega
                clear hX11 hg11 hor11 HQ10 HX10 HY10 hgx hgy hs10 HXF
                refine (pick_any b (q2 + 1 + 1) (1 + (y : Int)) w11 HQ11.out.rd (by omega)).mono ?_
                rintro e w12 ⟨u2, rfl, hu2, hR12, hG12⟩
                have HQ12 := Lib.hid (HQ11.out.pick hG12 hR12)
                have HX12 : Hid (OwnInts w12 L (some ⟨gx2, 0, none⟩) (j + 1) cx2 (lx ++ [v1])) := Lib.hid (own_kept HX11.out hG12 (fun d hd e => by have := (own_block HX11.out d hd).1; have e2 : b = d := (by simpa using e); omega))
                have HY12 : Hid (OwnInts w12 L (some ⟨gy, 0, none⟩) j cy ly) := Lib.hid (own_kept HY11.out hG12 (fun d hd e => by have := (own_block HY11.out d hd).1; have e2 : b = d := (by simpa using e); omega))
                clear hR12 hG12 HQ11 HX11 HY11
                obtain ⟨xf, hxf⟩ : ∃ xf : Nat → Int, xf = fun i => [(j : Int), (u2 : Int)].getD i 0 := ⟨_, rfl⟩
                have HXF : Hid (Ints (w12.alloc (.cells #[.int .i64 (j : Int), .int .i64 (u2 : Int)] 3)) (some ⟨w12.heap.size, 0, none⟩) 2 xf) := Lib.hid (by rw [hxf]; exact ints_lit w12 [(j : Int), (u2 : Int)])
                clear hxf
                go_wp2_with fail
                refine (one_any b (q2 + 1 + 1 + 1) (some ⟨w12.heap.size, 0, none⟩) 2 2 xf _ (HQ12.out.step (Keeps.alloc _ _)).rd (by omega) (by omega) (by omega) HXF.out (fun d off e => by cases e; have := (HY12.out.block).2; have := HY12.out.block.1; omega)).mono ?_
                rintro e w13 ⟨i2, hi2, rfl, hR13, hG13⟩
                generalize xf i2 = v2 at *
                have HQ13 := Lib.hid ((HQ12.out.step (Keeps.alloc _ _)).pick hG13 hR13)
                have HX13 : Hid (OwnInts w13 L (some ⟨gx2, 0, none⟩) (j + 1) cx2 (lx ++ [v1])) := Lib.hid (own_kept (HX12.out.keeps (Keeps.alloc _ _)) hG13 (fun d hd e => by have := (own_block HX12.out d hd).1; have e2 : b = d := (by simpa using e); omega))
                have HY13 : Hid (OwnInts w13 L (some ⟨gy, 0, none⟩) j cy ly) := Lib.hid (own_kept (HY12.out.keeps (Keeps.alloc _ _)) hG13 (fun d hd e => by have := (own_block HY12.out d hd).1; have e2 : b = d := (by simpa using e); omega))
                clear hR13 hG13 HQ12 HX12 HY12
                have hs13 : L ≤ w13.heap.size := by have := HX13.out.block; omega
                go_wp2_with (first | (at_builtin; go_loud (refine wp_intH rfl _ _ rfl L (some ⟨gy, 0, none⟩) j cy ly _ rfl (HY13.out.keeps (Keeps.alloc _ _)) w13.heap.size v2 (by rw [(Blk.new w13 #[.int .i64 v2] 3).cell 0]; rfl) rfl (by omega) (by have := (Keeps.alloc w13 (.cells #[.int .i64 v2] 3)).size; omega) ?_; intro gy2 cy2 w14 hY14 hg14 hor14)))
                have hgy : L ≤ gy := HY13.out.block.1
                have hgx : L ≤ gx2 ∧ gx2 < w13.heap.size := HX13.out.block
                have HXY : Hid (RSt b V (y + 1) (k + 1) k k (q2 + 1 + 1 + 1 + 1) w (some ⟨gs, 0, none⟩) c6 (l ++ [(z : Int)]) A cA R1 B cB R2 #[.slice (some ⟨gs, 0, none⟩) (k + 1) c6, .slice A k cA, .slice B k cB] w14 ∧ OwnInts w14 L (some ⟨gx2, 0, none⟩) (j + 1) cx2 (lx ++ [v1]) ∧ OwnInts w14 L (some ⟨gy2, 0, none⟩) (j + 1) cy2 (ly ++ [v2])) := Lib.hid ⟨(HQ13.out.step (Keeps.alloc w13 (.cells #[.int .i64 v2] 3))).above HLOW.out.1 HLOW.out.2.1 HLOW.out.2.2 hg14 hgy, own_kept (HX13.out.keeps (Keeps.alloc _ _)) hg14 (fun d hd e => by have e1 : gx2 = d := (by simpa using hd); have e2 : gy = d := (by simpa using e); omega), hY14⟩
                have hxy3 : gx2 ≠ gy2 := by
                  rcases hor14 with e | e
                  · have e1 : gy = gy2 := by simpa using e
                    omega
                  · have := (Keeps.alloc w13 (.cells #[.int .i64 v2] 3)).size
                    omega
                clear hY14 hg14 hor14 HQ13 HX13 HY13 hgx hgy hs13 HXF
                go_wp2_with fail
                go_roundw
                case rel => exact ⟨j + 1, gx2, cx2, gy2, cy2, q2 + 1 + 1 + 1 + 1, _, _, by omega, by go_num, rfl, rfl, by omega, hxy3, HXY⟩
                case measure => simp [intOf]; omega
              · obtain rfl : j = y + 1 := by omega
                have HQ := Lib.hid HXY.out.1
                have HX := Lib.hid HXY.out.2.1
                have HY := Lib.hid HXY.out.2.2
                have HLX := Lib.hid HXY.out.2.1.len
                have HLY := Lib.hid HXY.out.2.2.len
                have hgx : L ≤ gx := HX.out.block.1
                have hgy : L ≤ gy := HY.out.block.1
                have hgs : gs < L := HLOW.out.2.2.1 gs rfl
                have hwL := HLOW.out.1
                have d1 : wr.cell? ⟨V, 1, none⟩ = some (.slice A k cA) := HQ.out.box.cell 1
                have hVlt := HQ.out.box.lt
                have hsz := HQ.out.gro.size
                clear HXY
                as_aux_lemma =>
                  go_upto_region 18 with (first | (at_builtin; go_loud (refine wp_crdH rfl _ _ rfl w.heap.size A k cA R1 _ rfl (HQ.out.first.keeps (Keeps.alloc _ _)) wr.heap.size ⟨gx, cx, cx, lx⟩ (by rw [(Blk.new wr #[.slice (some ⟨gx, 0, none⟩) (y + 1) cx] 45).cell 0]; unfold Hdr.v; rw [HLX.out]; rfl) (by rw [HLX.out]; exact (HX.out.mono hwL).keeps (Keeps.alloc _ _)) rfl (by omega) (by have := (Keeps.alloc wr (.cells #[.slice (some ⟨gx, 0, none⟩) (y + 1) cx] 45)).size; omega) ?_; intro g15 c15 w15 hC15 hg15 hor15; have hQ15 := (HQ.out.step (Keeps.alloc wr (.cells #[.slice (some ⟨gx, 0, none⟩) (y + 1) cx] 45))).row1 hC15 HLX.out (by simp; omega) hg15 (by rcases hor15 with e | e; exact .inl e; exact .inr (by omega)); have hY15 : OwnInts w15 L (some ⟨gy, 0, none⟩) (y + 1) cy ly := own_kept (HY.out.keeps (Keeps.alloc wr (.cells #[.slice (some ⟨gx, 0, none⟩) (y + 1) cx] 45))) hg15 (fun d hd e => own_type HY.out HQ.out.first.top (by decide) d hd e); have e15 : w15.cell? ⟨V, 1, none⟩ = some (.slice A k cA) := hQ15.box.cell 1; have f15 := hQ15.box.frozen 1)))
                  have HQ16 : Hid (RSt b V (y + 1) (k + 1) (k + 1) k q2 w (some ⟨gs, 0, none⟩) c6 (l ++ [(z : Int)]) (some ⟨g15, 0, none⟩) c15 (R1 ++ [⟨gx, cx, cx, lx⟩]) B cB R2 #[.slice (some ⟨gs, 0, none⟩) (k + 1) c6, .slice (some ⟨g15, 0, none⟩) (k + 1) c15, .slice B k cB] (w15.setCell ⟨V, 1, none⟩ (.slice (some ⟨g15, 0, none⟩) (k + 1) c15))) := Lib.hid (hQ15.store 1 _)
                  have HY16 : Hid (OwnInts (w15.setCell ⟨V, 1, none⟩ (.slice (some ⟨g15, 0, none⟩) (k + 1) c15)) L (some ⟨gy, 0, none⟩) (y + 1) cy ly) := Lib.hid (hY15.grown (grown_set _ _ _ _) hQ15.box (by decide))
                  clear hC15 hg15 hor15 hQ15 hY15 e15 f15 d1 HQ HX HY hVlt hsz
                  generalize w15.setCell ⟨V, 1, none⟩ (.slice (some ⟨g15, 0, none⟩) (k + 1) c15) = w16 at *
                  have d2 : w16.cell? ⟨V, 2, none⟩ = some (.slice B k cB) := HQ16.out.box.cell 2
                  have hVlt := HQ16.out.box.lt
                  have hsz := HQ16.out.gro.size
                  go_wp2_with (first | (at_builtin; go_loud (refine wp_crdH rfl _ _ rfl w.heap.size B k cB R2 _ rfl (HQ16.out.second.keeps (Keeps.alloc _ _)) w16.heap.size ⟨gy, cy, cy, ly⟩ (by rw [(Blk.new w16 #[.slice (some ⟨gy, 0, none⟩) (y + 1) cy] 45).cell 0]; unfold Hdr.v; rw [HLY.out]; rfl) (by rw [HLY.out]; exact (HY16.out.mono hwL).keeps (Keeps.alloc _ _)) rfl (by omega) (by have := (Keeps.alloc w16 (.cells #[.slice (some ⟨gy, 0, none⟩) (y + 1) cy] 45)).size; omega) ?_; intro g17 c17 w17 hC17 hg17 hor17; have hQ17 := (HQ16.out.step (Keeps.alloc w16 (.cells #[.slice (some ⟨gy, 0, none⟩) (y + 1) cy] 45))).row2 hC17 HLY.out (by simp; omega) hg17 (by rcases hor17 with e | e; exact .inl e; exact .inr (by omega)); have e17 : w17.cell? ⟨V, 2, none⟩ = some (.slice B k cB) := hQ17.box.cell 2; have f17 := hQ17.box.frozen 2)))
                  have HQ18 : Hid (RSt b V (y + 1) (k + 1) (k + 1) (k + 1) q2 w (some ⟨gs, 0, none⟩) c6 (l ++ [(z : Int)]) (some ⟨g15, 0, none⟩) c15 (R1 ++ [⟨gx, cx, cx, lx⟩]) (some ⟨g17, 0, none⟩) c17 (R2 ++ [⟨gy, cy, cy, ly⟩]) #[.slice (some ⟨gs, 0, none⟩) (k + 1) c6, .slice (some ⟨g15, 0, none⟩) (k + 1) c15, .slice (some ⟨g17, 0, none⟩) (k + 1) c17] (w17.setCell ⟨V, 2, none⟩ (.slice (some ⟨g17, 0, none⟩) (k + 1) c17))) := Lib.hid (hQ17.store 2 _)
                  clear hC17 hg17 hor17 hQ17 e17 f17 d2 HQ16 HY16 hVlt hsz
                  go_wp2_with fail
                  go_roundw
                  case rel => exact ⟨k + 1, q2, _, _, _, _, _, _, _, _, _, by omega, by go_num, by omega, HQ18⟩
                  case measure => simp [intOf]; omega
      · obtain rfl : k = y + 1 := by omega
        obtain ⟨gS, rfl⟩ := HQ.out.says.at (by omega)
        obtain ⟨gA, rfl, _, _⟩ := HQ.out.first.at (by omega)
        obtain ⟨gB, rfl, _, _⟩ := HQ.out.second.at (by omega)
        have hVlt := HQ.out.box.lt
        go_wp2_with fail
        refine (pick_any b q 30 wr HQ.out.rd (by omega)).mono ?_
        rintro e w5 ⟨t, rfl, ht, hR5, hG5⟩
        have HQ5 := Lib.hid (HQ.out.pick hG5 hR5)
        clear hR5 hG5 HQ
        have hV5 := HQ5.out.box.lt
        have hv := HQ5.out.vlo
        by_cases h0 : t = 0
        · subst h0
          have d0 : w5.cell? ⟨V, 0, none⟩ = some (.slice (some ⟨gS, 0, none⟩) (y + 1) cS) := HQ5.out.box.cell 0
          have c0 := HQ5.out.says.cell 0 (by omega)
          have f0 := HQ5.out.says.frozen 0
          have hyp : (0 : Int) < (y : Int) + 1 := by omega
          go_upto_region 26 with fail
          have HQz := Lib.hid (HQ5.out.sayset 0 2)
          clear d0 c0 f0 HQ5 hv hV5
          generalize w5.setCell ⟨gS, 0, none⟩ (.int .i64 2) = wz at *
          have d0 : wz.cell? ⟨V, 0, none⟩ = some (.slice (some ⟨gS, 0, none⟩) (y + 1) cS) := HQz.out.box.cell 0
          have d1 : wz.cell? ⟨V, 1, none⟩ = some (.slice (some ⟨gA, 0, none⟩) (y + 1) cA) := HQz.out.box.cell 1
          have d2 : wz.cell? ⟨V, 2, none⟩ = some (.slice (some ⟨gB, 0, none⟩) (y + 1) cB) := HQz.out.box.cell 2
          have e0 : wz.cell? ⟨w.heap.size, 0, none⟩ = some (.slice none 0 0) := HQz.out.res.cell 0
          have e1 : wz.cell? ⟨w.heap.size, 1, none⟩ = some (.slice none 0 0) := HQz.out.res.cell 1
          have e2 : wz.cell? ⟨w.heap.size, 2, none⟩ = some (.slice none 0 0) := HQz.out.res.cell 2
          have f0 := HQz.out.res.frozen 0
          have f1 := HQz.out.res.frozen 1
          have f2 := HQz.out.res.frozen 2
          have hv := HQz.out.vlo
          have hvl := HQz.out.box.lt
          have hwz : w.heap.size < wz.heap.size := by omega
          go_wp2
          have y1 := ((HQz.out.res.set 0 (.slice (some ⟨gS, 0, none⟩) (y + 1) cS)).set 1 (.slice (some ⟨gA, 0, none⟩) (y + 1) cA)).set 2 (.slice (some ⟨gB, 0, none⟩) (y + 1) cB)
          have c0 := y1.cell 0
          have c1 := y1.cell 1
          have c2 := y1.cell 2
          have hgr : Gro b w (((wz.setCell ⟨w.heap.size, 0, none⟩ (.slice (some ⟨gS, 0, none⟩) (y + 1) cS)).setCell ⟨w.heap.size, 1, none⟩ (.slice (some ⟨gA, 0, none⟩) (y + 1) cA)).setCell ⟨w.heap.size, 2, none⟩ (.slice (some ⟨gB, 0, none⟩) (y + 1) cB)) := ((HQz.out.gro.setAbove (by omega) _).setAbove (by omega) _).setAbove (by omega) _
          have hrd := ((HQz.out.rd.set_other (d := w.heap.size) (o := 0) hbw (.slice (some ⟨gS, 0, none⟩) (y + 1) cS)).set_other (d := w.heap.size) (o := 1) hbw (.slice (some ⟨gA, 0, none⟩) (y + 1) cA)).set_other (d := w.heap.size) (o := 2) hbw (.slice (some ⟨gB, 0, none⟩) (y + 1) cB)
          refine bodyPost_ret (v := .agg #[.slice (some ⟨gS, 0, none⟩) (y + 1) cS, .slice (some ⟨gA, 0, none⟩) (y + 1) cA, .slice (some ⟨gB, 0, none⟩) (y + 1) cB]) (by simp [results, Tryz.results50, go_sem, c0, c1, c2]) rfl ⟨_, (some ⟨gS, 0, none⟩), (some ⟨gA, 0, none⟩), (some ⟨gB, 0, none⟩), (y + 1), cS, (y + 1), cA, (y + 1), cB, _, _, _, _, _, _, rfl, rfl, fun W' hs => (HQz.out.rulAt (by omega) (by omega) (by omega) (by omega) W' (fun i a1 a2 => by rw [hs i (by omega) (by simp [World.setCell]; omega), Below.heap_setCell _ _ _ _ (by simp only; omega), Below.heap_setCell _ _ _ _ (by simp only; omega), Below.heap_setCell _ _ _ _ (by simp only; omega)])), by omega, by omega, hrd, by omega, hgr⟩
        · by_cases h1 : t = 1
          · subst h1
            have d1 : w5.cell? ⟨V, 1, none⟩ = some (.slice (some ⟨gA, 0, none⟩) (y + 1) cA) := HQ5.out.box.cell 1
            have c0 := HQ5.out.first.cellD 0 (by omega)
            have hm : R1.getD 0 default ∈ R1 := getD_mem (by rw [HQ5.out.first.len]; omega)
            have hlen := HQ5.out.lens _ (List.mem_append_left R2 hm)
            have hro := HQ5.out.first.rowD 0 (by omega)
            unfold Hdr.v at c0
            rw [hlen] at c0 hro
            have cx := hro.cell 0 (by omega)
            have fx := hro.frozen 0
            have HXM : Hid (∃ z ∈ R1 ++ R2, z.g = (R1.getD 0 default).g) := Lib.hid ⟨_, List.mem_append_left _ hm, rfl⟩
            generalize (R1.getD 0 default).g = xg at *
            generalize (R1.getD 0 default).c = xc at *
            have hyp : (0 : Int) < (y : Int) + 1 := by omega
            clear hm hlen hro
            go_upto_region 26 with fail
            have HQz := Lib.hid (HQ5.out.cellset HXM.out 0 (1 + (y : Int)))
            clear d1 c0 cx fx HQ5 hv hV5 HXM
            generalize w5.setCell ⟨xg, 0, none⟩ (.int .i64 (1 + (y : Int))) = wz at *
            have d0 : wz.cell? ⟨V, 0, none⟩ = some (.slice (some ⟨gS, 0, none⟩) (y + 1) cS) := HQz.out.box.cell 0
            have d1 : wz.cell? ⟨V, 1, none⟩ = some (.slice (some ⟨gA, 0, none⟩) (y + 1) cA) := HQz.out.box.cell 1
            have d2 : wz.cell? ⟨V, 2, none⟩ = some (.slice (some ⟨gB, 0, none⟩) (y + 1) cB) := HQz.out.box.cell 2
            have e0 : wz.cell? ⟨w.heap.size, 0, none⟩ = some (.slice none 0 0) := HQz.out.res.cell 0
            have e1 : wz.cell? ⟨w.heap.size, 1, none⟩ = some (.slice none 0 0) := HQz.out.res.cell 1
            have e2 : wz.cell? ⟨w.heap.size, 2, none⟩ = some (.slice none 0 0) := HQz.out.res.cell 2
            have f0 := HQz.out.res.frozen 0
            have f1 := HQz.out.res.frozen 1
            have f2 := HQz.out.res.frozen 2
            have hv := HQz.out.vlo
            have hvl := HQz.out.box.lt
            have hwz : w.heap.size < wz.heap.size := by omega
            go_wp2
            have y1 := ((HQz.out.res.set 0 (.slice (some ⟨gS, 0, none⟩) (y + 1) cS)).set 1 (.slice (some ⟨gA, 0, none⟩) (y + 1) cA)).set 2 (.slice (some ⟨gB, 0, none⟩) (y + 1) cB)
            have c0 := y1.cell 0
            have c1 := y1.cell 1
            have c2 := y1.cell 2
            have hgr : Gro b w (((wz.setCell ⟨w.heap.size, 0, none⟩ (.slice (some ⟨gS, 0, none⟩) (y + 1) cS)).setCell ⟨w.heap.size, 1, none⟩ (.slice (some ⟨gA, 0, none⟩) (y + 1) cA)).setCell ⟨w.heap.size, 2, none⟩ (.slice (some ⟨gB, 0, none⟩) (y + 1) cB)) := ((HQz.out.gro.setAbove (by omega) _).setAbove (by omega) _).setAbove (by omega) _
            have hrd := ((HQz.out.rd.set_other (d := w.heap.size) (o := 0) hbw (.slice (some ⟨gS, 0, none⟩) (y + 1) cS)).set_other (d := w.heap.size) (o := 1) hbw (.slice (some ⟨gA, 0, none⟩) (y + 1) cA)).set_other (d := w.heap.size) (o := 2) hbw (.slice (some ⟨gB, 0, none⟩) (y + 1) cB)
            refine bodyPost_ret (v := .agg #[.slice (some ⟨gS, 0, none⟩) (y + 1) cS, .slice (some ⟨gA, 0, none⟩) (y + 1) cA, .slice (some ⟨gB, 0, none⟩) (y + 1) cB]) (by simp [results, Tryz.results50, go_sem, c0, c1, c2]) rfl ⟨_, (some ⟨gS, 0, none⟩), (some ⟨gA, 0, none⟩), (some ⟨gB, 0, none⟩), (y + 1), cS, (y + 1), cA, (y + 1), cB, _, _, _, _, _, _, rfl, rfl, fun W' hs => (HQz.out.rulAt (by omega) (by omega) (by omega) (by omega) W' (fun i a1 a2 => by rw [hs i (by omega) (by simp [World.setCell]; omega), Below.heap_setCell _ _ _ _ (by simp only; omega), Below.heap_setCell _ _ _ _ (by simp only; omega), Below.heap_setCell _ _ _ _ (by simp only; omega)])), by omega, by omega, hrd, by omega, hgr⟩
          · by_cases h2 : t = 2
            · subst h2
              have d2 : w5.cell? ⟨V, 2, none⟩ = some (.slice (some ⟨gB, 0, none⟩) (y + 1) cB) := HQ5.out.box.cell 2
              have fV := HQ5.out.box.frozen 2
              obtain ⟨_, _, _, hcb, hcb2, _, _⟩ := HQ5.out.second.top_blk
              have hcb3 : cB ≤ 9223372036854775807 := by unfold maxLen at hcb2; omega
              obtain ⟨d, rfl⟩ : ∃ d, cB = d + 1 := ⟨cB - 1, by omega⟩
              clear hcb2
              by_cases hd : d = 0
              · subst hd
                obtain rfl : y = 0 := by omega
                go_upto_region 26 with fail
                have HQz := Lib.hid (HQ5.out.store 2 (.slice (some ⟨gB, 0, none⟩) 0 0))
                clear d2 fV HQ5 hv hV5
                generalize w5.setCell ⟨V, 2, none⟩ (.slice (some ⟨gB, 0, none⟩) 0 0) = wz at *
                have d0 : wz.cell? ⟨V, 0, none⟩ = some (.slice (some ⟨gS, 0, none⟩) 1 cS) := HQz.out.box.cell 0
                have d1 : wz.cell? ⟨V, 1, none⟩ = some (.slice (some ⟨gA, 0, none⟩) 1 cA) := HQz.out.box.cell 1
                have d2 : wz.cell? ⟨V, 2, none⟩ = some (.slice (some ⟨gB, 0, none⟩) 0 0) := HQz.out.box.cell 2
                have e0 : wz.cell? ⟨w.heap.size, 0, none⟩ = some (.slice none 0 0) := HQz.out.res.cell 0
                have e1 : wz.cell? ⟨w.heap.size, 1, none⟩ = some (.slice none 0 0) := HQz.out.res.cell 1
                have e2 : wz.cell? ⟨w.heap.size, 2, none⟩ = some (.slice none 0 0) := HQz.out.res.cell 2
                have f0 := HQz.out.res.frozen 0
                have f1 := HQz.out.res.frozen 1
                have f2 := HQz.out.res.frozen 2
                have hv := HQz.out.vlo
                have hvl := HQz.out.box.lt
                have hwz : w.heap.size < wz.heap.size := by omega
                go_wp2
                have y1 := ((HQz.out.res.set 0 (.slice (some ⟨gS, 0, none⟩) 1 cS)).set 1 (.slice (some ⟨gA, 0, none⟩) 1 cA)).set 2 (.slice (some ⟨gB, 0, none⟩) 0 0)
                have c0 := y1.cell 0
                have c1 := y1.cell 1
                have c2 := y1.cell 2
                have hgr : Gro b w (((wz.setCell ⟨w.heap.size, 0, none⟩ (.slice (some ⟨gS, 0, none⟩) 1 cS)).setCell ⟨w.heap.size, 1, none⟩ (.slice (some ⟨gA, 0, none⟩) 1 cA)).setCell ⟨w.heap.size, 2, none⟩ (.slice (some ⟨gB, 0, none⟩) 0 0)) := ((HQz.out.gro.setAbove (by omega) _).setAbove (by omega) _).setAbove (by omega) _
                have hrd := ((HQz.out.rd.set_other (d := w.heap.size) (o := 0) hbw (.slice (some ⟨gS, 0, none⟩) 1 cS)).set_other (d := w.heap.size) (o := 1) hbw (.slice (some ⟨gA, 0, none⟩) 1 cA)).set_other (d := w.heap.size) (o := 2) hbw (.slice (some ⟨gB, 0, none⟩) 0 0)
                refine bodyPost_ret (v := .agg #[.slice (some ⟨gS, 0, none⟩) 1 cS, .slice (some ⟨gA, 0, none⟩) 1 cA, .slice (some ⟨gB, 0, none⟩) 0 0]) (by simp [results, Tryz.results50, go_sem, c0, c1, c2]) rfl ⟨_, (some ⟨gS, 0, none⟩), (some ⟨gA, 0, none⟩), (some ⟨gB, 0, none⟩), 1, cS, 1, cA, 0, 0, _, _, _, _, _, _, rfl, rfl, fun W' hs => rulAt_none (HQz.out.rulAt (by omega) (by omega) (by omega) (by omega) W' (fun i a1 a2 => by rw [hs i (by omega) (by simp [World.setCell]; omega), Below.heap_setCell _ _ _ _ (by simp only; omega), Below.heap_setCell _ _ _ _ (by simp only; omega), Below.heap_setCell _ _ _ _ (by simp only; omega)])), by omega, by omega, hrd, by omega, hgr⟩
              · go_upto_region 26 with fail
                have HQz := Lib.hid (HQ5.out.store 2 (.slice (some ⟨gB, 1, none⟩) y d))
                clear d2 fV HQ5 hv hV5
                generalize w5.setCell ⟨V, 2, none⟩ (.slice (some ⟨gB, 1, none⟩) y d) = wz at *
                have d0 : wz.cell? ⟨V, 0, none⟩ = some (.slice (some ⟨gS, 0, none⟩) (y + 1) cS) := HQz.out.box.cell 0
                have d1 : wz.cell? ⟨V, 1, none⟩ = some (.slice (some ⟨gA, 0, none⟩) (y + 1) cA) := HQz.out.box.cell 1
                have d2 : wz.cell? ⟨V, 2, none⟩ = some (.slice (some ⟨gB, 1, none⟩) y d) := HQz.out.box.cell 2
                have e0 : wz.cell? ⟨w.heap.size, 0, none⟩ = some (.slice none 0 0) := HQz.out.res.cell 0
                have e1 : wz.cell? ⟨w.heap.size, 1, none⟩ = some (.slice none 0 0) := HQz.out.res.cell 1
                have e2 : wz.cell? ⟨w.heap.size, 2, none⟩ = some (.slice none 0 0) := HQz.out.res.cell 2
                have f0 := HQz.out.res.frozen 0
                have f1 := HQz.out.res.frozen 1
                have f2 := HQz.out.res.frozen 2
                have hv := HQz.out.vlo
                have hvl := HQz.out.box.lt
                have hwz : w.heap.size < wz.heap.size := by omega
                go_wp2
                have y1 := ((HQz.out.res.set 0 (.slice (some ⟨gS, 0, none⟩) (y + 1) cS)).set 1 (.slice (some ⟨gA, 0, none⟩) (y + 1) cA)).set 2 (.slice (some ⟨gB, 1, none⟩) y d)
                have c0 := y1.cell 0
                have c1 := y1.cell 1
                have c2 := y1.cell 2
                have hgr : Gro b w (((wz.setCell ⟨w.heap.size, 0, none⟩ (.slice (some ⟨gS, 0, none⟩) (y + 1) cS)).setCell ⟨w.heap.size, 1, none⟩ (.slice (some ⟨gA, 0, none⟩) (y + 1) cA)).setCell ⟨w.heap.size, 2, none⟩ (.slice (some ⟨gB, 1, none⟩) y d)) := ((HQz.out.gro.setAbove (by omega) _).setAbove (by omega) _).setAbove (by omega) _
                have hrd := ((HQz.out.rd.set_other (d := w.heap.size) (o := 0) hbw (.slice (some ⟨gS, 0, none⟩) (y + 1) cS)).set_other (d := w.heap.size) (o := 1) hbw (.slice (some ⟨gA, 0, none⟩) (y + 1) cA)).set_other (d := w.heap.size) (o := 2) hbw (.slice (some ⟨gB, 1, none⟩) y d)
                refine bodyPost_ret (v := .agg #[.slice (some ⟨gS, 0, none⟩) (y + 1) cS, .slice (some ⟨gA, 0, none⟩) (y + 1) cA, .slice (some ⟨gB, 1, none⟩) y d]) (by simp [results, Tryz.results50, go_sem, c0, c1, c2]) rfl ⟨_, (some ⟨gS, 0, none⟩), (some ⟨gA, 0, none⟩), (some ⟨gB, 1, none⟩), (y + 1), cS, (y + 1), cA, y, d, _, _, _, _, _, _, rfl, rfl, fun W' hs => rulAt_tail (HQz.out.rulAt (by omega) (by omega) (by omega) (by omega) W' (fun i a1 a2 => by rw [hs i (by omega) (by simp [World.setCell]; omega), Below.heap_setCell _ _ _ _ (by simp only; omega), Below.heap_setCell _ _ _ _ (by simp only; omega), Below.heap_setCell _ _ _ _ (by simp only; omega)])), by omega, by omega, hrd, by omega, hgr⟩
            · have h0' : ((t : Int) == 0) = false := by simp; omega
              have h1' : ((t : Int) == 1) = false := by simp; omega
              have h2' : ((t : Int) == 2) = false := by simp; omega
              go_upto_region 26 with fail
              have HQz := HQ5
              clear HQ5 hv hV5
              obtain ⟨wz, hwz0⟩ : ∃ x, x = w5 := ⟨_, rfl⟩
              rw [← hwz0] at HQz ⊢
              clear hwz0
              have d0 : wz.cell? ⟨V, 0, none⟩ = some (.slice (some ⟨gS, 0, none⟩) (y + 1) cS) := HQz.out.box.cell 0
              have d1 : wz.cell? ⟨V, 1, none⟩ = some (.slice (some ⟨gA, 0, none⟩) (y + 1) cA) := HQz.out.box.cell 1
              have d2 : wz.cell? ⟨V, 2, none⟩ = some (.slice (some ⟨gB, 0, none⟩) (y + 1) cB) := HQz.out.box.cell 2
              have e0 : wz.cell? ⟨w.heap.size, 0, none⟩ = some (.slice none 0 0) := HQz.out.res.cell 0
              have e1 : wz.cell? ⟨w.heap.size, 1, none⟩ = some (.slice none 0 0) := HQz.out.res.cell 1
              have e2 : wz.cell? ⟨w.heap.size, 2, none⟩ = some (.slice none 0 0) := HQz.out.res.cell 2
              have f0 := HQz.out.res.frozen 0
              have f1 := HQz.out.res.frozen 1
              have f2 := HQz.out.res.frozen 2
              have hv := HQz.out.vlo
              have hvl := HQz.out.box.lt
              have hwz : w.heap.size < wz.heap.size := by omega
              go_wp2
              have y1 := ((HQz.out.res.set 0 (.slice (some ⟨gS, 0, none⟩) (y + 1) cS)).set 1 (.slice (some ⟨gA, 0, none⟩) (y + 1) cA)).set 2 (.slice (some ⟨gB, 0, none⟩) (y + 1) cB)
              have c0 := y1.cell 0
              have c1 := y1.cell 1
              have c2 := y1.cell 2
              have hgr : Gro b w (((wz.setCell ⟨w.heap.size, 0, none⟩ (.slice (some ⟨gS, 0, none⟩) (y + 1) cS)).setCell ⟨w.heap.size, 1, none⟩ (.slice (some ⟨gA, 0, none⟩) (y + 1) cA)).setCell ⟨w.heap.size, 2, none⟩ (.slice (some ⟨gB, 0, none⟩) (y + 1) cB)) := ((HQz.out.gro.setAbove (by omega) _).setAbove (by omega) _).setAbove (by omega) _
              have hrd := ((HQz.out.rd.set_other (d := w.heap.size) (o := 0) hbw (.slice (some ⟨gS, 0, none⟩) (y + 1) cS)).set_other (d := w.heap.size) (o := 1) hbw (.slice (some ⟨gA, 0, none⟩) (y + 1) cA)).set_other (d := w.heap.size) (o := 2) hbw (.slice (some ⟨gB, 0, none⟩) (y + 1) cB)
              refine bodyPost_ret (v := .agg #[.slice (some ⟨gS, 0, none⟩) (y + 1) cS, .slice (some ⟨gA, 0, none⟩) (y + 1) cA, .slice (some ⟨gB, 0, none⟩) (y + 1) cB]) (by simp [results, Tryz.results50, go_sem, c0, c1, c2]) rfl ⟨_, (some ⟨gS, 0, none⟩), (some ⟨gA, 0, none⟩), (some ⟨gB, 0, none⟩), (y + 1), cS, (y + 1), cA, (y + 1), cB, _, _, _, _, _, _, rfl, rfl, fun W' hs => (HQz.out.rulAt (by omega) (by omega) (by omega) (by omega) W' (fun i a1 a2 => by rw [hs i (by omega) (by simp [World.setCell]; omega), Below.heap_setCell _ _ _ _ (by simp only; omega), Below.heap_setCell _ _ _ _ (by simp only; omega), Below.heap_setCell _ _ _ _ (by simp only; omega)])), by omega, by omega, hrd, by omega, hgr⟩
end Go.Proofs.YtlniogfinofakaaGreatDoor
/-
  The drawn rules and crowd: whatever the code is. Condition: at most a thousand picks so far.
-/
namespace Go.Proofs.YtlniogfinofakaaGreatDoor
set_option maxRecDepth 100000
set_option linter.unusedVariables false
set_option maxRecDepth 100000
open Go.RowKit

/-- A crowd that is being drawn. -/
structure CSt (b V gc n j q : Nat) (w wA w1 : World) (l : List Int) (cs : Array Value) (wr : World) : Prop where
  res : Blk wr w.heap.size 54 #[.slice none 0 0, .slice none 0 0, .slice none 0 0]
  box : Blk wr V 54 cs
  crowd : OwnInts wr V (some ⟨gc, 0, none⟩) n n l
  bnd : ∀ x ∈ l, -1 ≤ x ∧ x ≤ (j : Int) + 6
  rd : Rd wr b q
  gro : Gro b w wr
  same : Same wA.heap.size w1.heap.size w1 wr
  blo : b < w.heap.size
  wlo : w.heap.size < wA.heap.size
  vhi : V = w1.heap.size
  alo : wA.heap.size ≤ w1.heap.size
section
variable {b V gc n j q q' : Nat} {w wA w1 : World} {l : List Int} {cs : Array Value} {wr w' : World}
theorem CSt.turn {row : Option Nat} (h : CSt b V gc n j q w wA w1 l cs wr) (hg : wr.grownBy w' row) (hd : ∀ d, row = some d → d ≠ w.heap.size ∧ d ≠ V ∧ d ≠ gc ∧ (d < wA.heap.size ∨ w1.heap.size ≤ d)) (hr : Rd w' b q') (hgr : Gro b w w') : CSt b V gc n j q' w wA w1 l cs w' :=
  ⟨h.res.grown hg (fun e => (hd _ e.symm).1 rfl), h.box.grown hg (fun e => (hd _ e.symm).2.1 rfl), own_kept h.crowd hg (fun k hk e => (hd k e).2.2.1 (by have e2 : gc = k := (by simpa using hk); exact e2.symm)), h.bnd, hr, hgr, fun i a1 a2 => (hg.block i (by have := h.box.lt; have := h.vhi; omega) (fun e => by have := (hd i e.symm).2.2.2; omega)).trans (h.same i a1 a2), h.blo, h.wlo, h.vhi, h.alo⟩
theorem CSt.pick (h : CSt b V gc n j q w wA w1 l cs wr) (hg : Gro b wr w') (hr : Rd w' b q') : CSt b V gc n j q' w wA w1 l cs w' := by
  refine h.turn hg (fun d e => ?_) hr (h.gro.step hg)
  obtain rfl : b = d := by simpa using e
  have h1 := h.blo
  have h2 := h.wlo
  have h3 := h.vhi
  have h4 := h.alo
  have h5 := h.crowd.block
  exact ⟨by omega, by omega, by omega, .inl (by omega)⟩
theorem CSt.step (h : CSt b V gc n j q w wA w1 l cs wr) (k : Keeps wr w') : CSt b V gc n j q w wA w1 l cs w' :=
  h.turn (row := none) ⟨k.os, k.tape, k.output, k.size, fun i hi _ => k.block i hi⟩ (fun d e => by cases e) (h.rd.gro k) (h.gro.step (Gro.ofKeeps k))
theorem CSt.set (h : CSt b V gc n j q w wA w1 l cs wr) (i : Nat) (v : Int) {j' : Nat} (hb : ∀ x ∈ l.set i v, -1 ≤ x ∧ x ≤ (j' : Int) + 6) : CSt b V gc n j' q w wA w1 (l.set i v) cs (wr.setCell ⟨gc, i, none⟩ (.int .i64 v)) := by
  have h1 := h.blo
  have h2 := h.wlo
  have h3 := h.vhi
  have h4 := h.alo
  have h5 := h.crowd.block
  have hg := grown_set wr gc i (.int .i64 v)
  have hS : (some (⟨gc, 0, none⟩ : Addr)).map (·.block) = some gc := rfl
  exact ⟨h.res.grown hg (fun e => own_other' h.crowd h.res (by decide) (by rw [e, hS])), h.box.grown hg (fun e => own_other' h.crowd h.box (by decide) (by rw [e, hS])), h.crowd.set i v, hb, h.rd.grown hg (fun d e => by have e2 : gc = d := (by simpa using e); omega), gro_above (d := 0) h.gro hg (fun d e => by have e2 : gc = d := (by simpa using e); omega), fun k a1 a2 => (Below.heap_setCell _ _ _ _ (by simp only; omega)).trans (h.same k a1 a2), h.blo, h.wlo, h.vhi, h.alo⟩
theorem CSt.at (h : CSt b V gc n j q w wA w1 l cs wr) (i : Nat) (hi : i < n) : -1 ≤ l.getD i 0 ∧ l.getD i 0 ≤ (j : Int) + 6 := h.bnd _ (mem_getD (by rw [h.crowd.len]; exact hi))
end
/-- Drawn rules and a drawn list of numbers. -/
def CrowdDrawn (b : Nat) (w : World) (e : Ending) (w' : World) : Prop :=
  ∃ (S A B : Option Addr) (nS cS nA cA nB cB g m c : Nat) (s : Nat → Int) (rA rB : Nat → Option Addr × Nat × Nat) (f gg : Nat → Nat → Int) (l : List Int), e = .returned (.tuple #[.agg #[.slice S nS cS, .slice A nA cA, .slice B nB cB], .slice (some ⟨g, 0, none⟩) m c]) ∧ (∀ W, (∀ i, w.heap.size < i → i < w'.heap.size → W.heap[i]? = w'.heap[i]?) → RulAt W S nS s A nA rA f B nB rB gg ∧ OwnInts W w.heap.size (some ⟨g, 0, none⟩) m c l) ∧ m ≤ 5 ∧ Gro b w w' ∧ w.heap.size < w'.heap.size
set_option maxHeartbeats 8000000 in
theorem someCrowd_any (b p : Nat) (w : World) (h : Rd w b p) (hp : p ≤ 900) :
    Calls Tryz.prog 24 #[.pointer (some ⟨b, 0, none⟩)] w (CrowdDrawn b w) := by
  have HR := Lib.hid h
  have hbw := HR.out.lt
  clear h
  have HB0 := Lib.hid (Blk.new w #[.slice none 0 0, .slice none 0 0, .slice none 0 0] 54)
  have HR0 := Lib.hid (HR.out.gro (Keeps.alloc w (.cells #[.slice none 0 0, .slice none 0 0, .slice none 0 0] 54)))
  have HG0 : Hid (Gro b w (w.alloc (.cells #[.slice none 0 0, .slice none 0 0, .slice none 0 0] 54))) := Lib.hid (Gro.ofKeeps (Keeps.alloc w _))
  have HS0 : Hid (w.heap.size < (w.alloc (.cells #[.slice none 0 0, .slice none 0 0, .slice none 0 0] 54)).heap.size) := Lib.hid (by simp)
  go_enter Tryz.func24, Tryz.ntmps24
  go_wp2_with fail
  generalize w.alloc (.cells #[.slice none 0 0, .slice none 0 0, .slice none 0 0] 54) = wA at *
  refine (someRules_any b p wA HR0.out (by omega)).mono ?_
  rintro e w1 ⟨v, S, A, B, nS, cS, nA, cA, nB, cB, s, rA, rB, f, gg, q, rfl, hD⟩
  obtain rfl := hD.val
  have hn1 := hD.one
  have hn4 := hD.four
  have hq := hD.few
  have HAT := Lib.hid hD.at'
  have HW1 : Hid (wA.heap.size ≤ w1.heap.size) := Lib.hid hD.gro.size
  have HC : Hid (CSt b w1.heap.size (w1.heap.size + 1) nS 0 q w wA w1 (List.replicate nS 0) #[.slice S nS cS, .slice A nA cA, .slice B nB cB] ((w1.alloc (.cells #[.slice S nS cS, .slice A nA cA, .slice B nB cB] 54)).alloc (.cells (madeCells #[.int .i64 0] nS) 3))) := Lib.hid (by
    have hk := (Keeps.alloc w1 (.cells #[.slice S nS cS, .slice A nA cA, .slice B nB cB] 54)).step (Keeps.alloc _ (.cells (madeCells #[.int .i64 0] nS) 3))
    refine ⟨(HB0.out.grown hD.gro (by simp; omega)).keeps hk, (Blk.new w1 _ _).keeps (Keeps.alloc _ _), ?_, fun x hx => ?_, hD.rd.gro hk, (HG0.out.step hD.gro).step (Gro.ofKeeps hk), fun i a1 a2 => hk.block i a2, hbw, HS0.out, rfl, HW1.out⟩
    · have h := OwnInts.make (w1.alloc (.cells #[.slice S nS cS, .slice A nA cA, .slice B nB cB] 54)) w1.heap.size nS (by simp) (by omega)
      rw [World.size_alloc] at h
      exact h
    · have := List.eq_of_mem_replicate hx
      omega)
  have hmk := make_ints nS (by omega)
  clear hD HB0 HR0 HG0 HS0
  go_wp2_with fail
  have HZ2 : Hid (w1.heap.size + 1 + 1 = ((w1.alloc (.cells #[.slice S nS cS, .slice A nA cA, .slice B nB cB] 54)).alloc (.cells (madeCells #[.int .i64 0] nS) 3)).heap.size) := Lib.hid (by simp)
  generalize (w1.alloc (.cells #[.slice S nS cS, .slice A nA cA, .slice B nB cB] 54)).alloc (.cells (madeCells #[.int .i64 0] nS) 3) = w2 at *
  refine (one_lit b q [4, 3, 5, 2, 1, 0] 0 5 _ _ _ w2 (by decide) (by decide) (by decide) (by omega) HC.out.rd rfl HZ2.out rfl).mono ?_
  rintro e w3 ⟨N, rfl, hN1, hN2, hR3, hG3⟩
  obtain ⟨N, rfl⟩ := Int.eq_ofNat_of_zero_le hN1
  have HC3 := Lib.hid ((HC.out.step (Keeps.alloc w2 (.cells ([4, 3, 5, 2, 1, 0].map (Value.int .i64)).toArray 3))).pick hG3 hR3)
  have hN5 : N ≤ 5 := by omega
  clear hR3 hG3 HC hN1 hN2 hmk HZ2
  generalize hV : w1.heap.size = V at *
  clear hV
  go_wp2_with fail
  go_loopw [6] (fun i wr => ∃ (j k q' : Nat) (l : List Int), i = .int .i64 k ∧ j + k = N ∧ q' ≤ q + 1 + 3 * j ∧ Hid (CSt b V (V + 1) nS j q' w wA w1 l #[.slice S nS cS, .slice A nA cA, .slice B nB cB] wr)) (fun i _ => (intOf i).toNat)
  case atStart => exact ⟨0, N, q + 1, _, rfl, by omega, by omega, HC3⟩
  case round =>
    clear HC3
    obtain ⟨j, k, q', l, rfl, hjk, hq', HC⟩ := hrel
    by_cases hk : k = 0
    · subst hk
      go_wp2_with fail
      refine (pick_any b q' 30 wr HC.out.rd (by omega)).mono ?_
      rintro e w5 ⟨t, rfl, ht, hR5, hG5⟩
      have HC5 := Lib.hid (HC.out.pick hG5 hR5)
      clear hR5 hG5 HC
      by_cases h0 : t = 0
      · subst h0
        have HSZ := Lib.hid HC5.out.box.lt
        have hcx := HC5.out.crowd.cell 0 (by omega)
        have hni : (0 : Int) < (nS : Int) := by omega
        go_wp2_with fail
        refine (one_lit b (q' + 1) [-1, 6] (-1) 6 _ _ _ w5 (by decide) (by decide) (by decide) (by omega) HC5.out.rd rfl rfl rfl).mono ?_
        rintro e w6 ⟨v, rfl, hv1, hv2, hR6, hG6⟩
        have HC6 := Lib.hid ((HC5.out.step (Keeps.alloc w5 (.cells ([-1, 6].map (Value.int .i64)).toArray 3))).pick hG6 hR6)
        clear hR6 hG6 hcx
        have c0 := HC6.out.crowd.cell 0 (by omega)
        have f0 := HC6.out.crowd.frozen 0
        go_upto_region 15 with fail
        have HCz := Lib.hid (HC6.out.set 0 v (j' := j) (fun z hz => by
          rcases List.mem_or_eq_of_mem_set hz with h | h
          · exact HC6.out.bnd z h
          · omega))
        clear c0 f0 HC6 HC5 HSZ
        generalize w6.setCell ⟨V + 1, 0, none⟩ (.int .i64 v) = wz at *
        have e0 : wz.cell? ⟨w.heap.size, 0, none⟩ = some (.slice none 0 0) := HCz.out.res.cell 0
        have e1 : wz.cell? ⟨w.heap.size, 1, none⟩ = some (.slice none 0 0) := HCz.out.res.cell 1
        have e2 : wz.cell? ⟨w.heap.size, 2, none⟩ = some (.slice none 0 0) := HCz.out.res.cell 2
        have d0 : wz.cell? ⟨V, 0, none⟩ = some (.slice S nS cS) := HCz.out.box.cell 0
        have d1 : wz.cell? ⟨V, 1, none⟩ = some (.slice A nA cA) := HCz.out.box.cell 1
        have d2 : wz.cell? ⟨V, 2, none⟩ = some (.slice B nB cB) := HCz.out.box.cell 2
        have f0 := HCz.out.res.frozen 0
        have f1 := HCz.out.res.frozen 1
        have f2 := HCz.out.res.frozen 2
        have hwz := HCz.out.res.lt
        have hwa := HCz.out.wlo
        have hal := HCz.out.alo
        have hvl := HCz.out.box.lt
        have hgc := HCz.out.crowd.block
        go_wp2
        have hvh := HCz.out.vhi
        have y1 := ((HCz.out.res.set 0 (.slice S nS cS)).set 1 (.slice A nA cA)).set 2 (.slice B nB cB)
        have z1 := HCz.out.res.set 0 (.slice S nS cS)
        have z2 := z1.set 1 (.slice A nA cA)
        have c0 := y1.cell 0
        have c1 := y1.cell 1
        have c2 := y1.cell 2
        have hgr : Gro b w (((wz.setCell ⟨w.heap.size, 0, none⟩ (.slice S nS cS)).setCell ⟨w.heap.size, 1, none⟩ (.slice A nA cA)).setCell ⟨w.heap.size, 2, none⟩ (.slice B nB cB)) := ((HCz.out.gro.setAbove (by omega) _).setAbove (by omega) _).setAbove (by omega) _
        have hrul := fun (W' : World) (hs : ∀ i, w.heap.size < i → i < (((wz.setCell ⟨w.heap.size, 0, none⟩ (.slice S nS cS)).setCell ⟨w.heap.size, 1, none⟩ (.slice A nA cA)).setCell ⟨w.heap.size, 2, none⟩ (.slice B nB cB)).heap.size → W'.heap[i]? = (((wz.setCell ⟨w.heap.size, 0, none⟩ (.slice S nS cS)).setCell ⟨w.heap.size, 1, none⟩ (.slice A nA cA)).setCell ⟨w.heap.size, 2, none⟩ (.slice B nB cB)).heap[i]?) => HAT.out W' (fun i a1 a2 => by rw [hs i (by omega) (by simp [World.setCell]; omega), Below.heap_setCell _ _ _ _ (by simp only; omega), Below.heap_setCell _ _ _ _ (by simp only; omega), Below.heap_setCell _ _ _ _ (by simp only; omega)]; exact HCz.out.same i a1 (by omega))
        have hcr := (((HCz.out.crowd.grown (grown_set _ _ 0 (.slice S nS cS)) HCz.out.res (by decide)).grown (grown_set _ _ 1 (.slice A nA cA)) z1 (by decide)).grown (grown_set _ _ 2 (.slice B nB cB)) z2 (by decide))
        refine bodyPost_ret (v := .tuple #[.agg #[.slice S nS cS, .slice A nA cA, .slice B nB cB], .slice (some ⟨V + 1, 0, none⟩) nS nS]) (by simp [results, Tryz.results24, go_sem, c0, c1, c2]) rfl ⟨S, A, B, nS, cS, nA, cA, nB, cB, V + 1, nS, nS, s, rA, rB, f, gg, _, rfl, fun W' hs => ⟨hrul W' hs, (show OwnInts W' V _ _ _ _ from own_same' hcr (fun k hk => hs k (by have := own_block hcr k hk; omega) (own_block hcr k hk).2)).mono (by omega)⟩, by omega, hgr, by simp [World.setCell]; omega⟩
      · have h0' : ((t : Int) == 0) = false := by simp; omega
        by_cases h1 : t = 1
        · subst h1
          have d0 : w5.cell? ⟨V, 0, none⟩ = some (.slice S nS cS) := HC5.out.box.cell 0
          have d1 : w5.cell? ⟨V, 1, none⟩ = some (.slice A nA cA) := HC5.out.box.cell 1
          have d2 : w5.cell? ⟨V, 2, none⟩ = some (.slice B nB cB) := HC5.out.box.cell 2
          have f0 := HC5.out.res.frozen 0
          have f1 := HC5.out.res.frozen 1
          have f2 := HC5.out.res.frozen 2
          have e0 : w5.cell? ⟨w.heap.size, 0, none⟩ = some (.slice none 0 0) := HC5.out.res.cell 0
          have e1 : w5.cell? ⟨w.heap.size, 1, none⟩ = some (.slice none 0 0) := HC5.out.res.cell 1
          have e2 : w5.cell? ⟨w.heap.size, 2, none⟩ = some (.slice none 0 0) := HC5.out.res.cell 2
          have hwz := HC5.out.res.lt
          have hvl := HC5.out.box.lt
          have hgc := HC5.out.crowd.block
          have hVw := HC5.out.gro.size
          have hwa := HC5.out.wlo
          have hal := HC5.out.alo
          have hkk : Keeps w5 (w5.alloc (.cells #[.int .i64 0] 3)).drew := (Keeps.alloc _ _).step (Keeps.drew1 _)
          have HC6 := Lib.hid (HC5.out.step hkk)
          have HKS := Lib.hid hkk.size
          have HCL : Hid ((w5.alloc (.cells #[.int .i64 0] 3)).drew.cell? ⟨w5.heap.size, 0, none⟩ = some (.int .i64 0)) := Lib.hid ((Blk.new w5 #[.int .i64 0] 3).cell 0)
          go_upto_region 14 with fail
          go_region_law (first | (refine step_intH rfl (.tmp 53) (.tmp 54) rfl V (some ⟨V + 1, 0, none⟩) nS nS l _ rfl HC6.out.crowd w5.heap.size 0 HCL.out rfl (by omega) (by have := HKS.out; omega) ?_; intro gs c7 w7 hO7 hg7 hor7; have hb7 := HC6.out.res.grown hg7 (own_other' HC6.out.crowd HC6.out.res (by decide)); have hx7 := HC6.out.box.grown hg7 (own_other' HC6.out.crowd HC6.out.box (by decide)); have r0 : w7.cell? ⟨w.heap.size, 0, none⟩ = some (.slice none 0 0) := hb7.cell 0; have r1 : w7.cell? ⟨w.heap.size, 1, none⟩ = some (.slice none 0 0) := hb7.cell 1; have r2 : w7.cell? ⟨w.heap.size, 2, none⟩ = some (.slice none 0 0) := hb7.cell 2; have s0 := hb7.frozen 0; have s1 := hb7.frozen 1; have s2 := hb7.frozen 2; have t0 : w7.cell? ⟨V, 0, none⟩ = some (.slice S nS cS) := hx7.cell 0; have t1 : w7.cell? ⟨V, 1, none⟩ = some (.slice A nA cA) := hx7.cell 1; have t2 : w7.cell? ⟨V, 2, none⟩ = some (.slice B nB cB) := hx7.cell 2; have hz7 := hg7.size))
          all_goals
            simp only [Act.put, List.getElem_toArray, List.getElem_cons_succ, List.getElem_cons_zero, List.setIfInBounds_toArray, List.set_cons_succ, List.set_cons_zero]
            go_wp2
            have hvh := HC6.out.vhi
            have hz8 : w5.heap.size ≤ w7.heap.size := Nat.le_trans HKS.out hz7
            have y1 := ((hb7.set 0 (.slice S nS cS)).set 1 (.slice A nA cA)).set 2 (.slice B nB cB)
            have z1 := hb7.set 0 (.slice S nS cS)
            have z2 := z1.set 1 (.slice A nA cA)
            have k0 := y1.cell 0
            have k1 := y1.cell 1
            have k2 := y1.cell 2
            have hrow : ∀ d, (some (⟨V + 1, 0, none⟩ : Addr)).map (·.block) = some d → d = V + 1 := fun d e => by simpa using e.symm
            have hg6 := gro_above (d := 0) HC6.out.gro hg7 (fun d e => by have := hrow d e; omega)
            have hgr : Gro b w (((w7.setCell ⟨w.heap.size, 0, none⟩ (.slice S nS cS)).setCell ⟨w.heap.size, 1, none⟩ (.slice A nA cA)).setCell ⟨w.heap.size, 2, none⟩ (.slice B nB cB)) := ((hg6.setAbove (by omega) _).setAbove (by omega) _).setAbove (by omega) _
            have hrul := fun (W' : World) (hs : ∀ i, w.heap.size < i → i < (((w7.setCell ⟨w.heap.size, 0, none⟩ (.slice S nS cS)).setCell ⟨w.heap.size, 1, none⟩ (.slice A nA cA)).setCell ⟨w.heap.size, 2, none⟩ (.slice B nB cB)).heap.size → W'.heap[i]? = (((w7.setCell ⟨w.heap.size, 0, none⟩ (.slice S nS cS)).setCell ⟨w.heap.size, 1, none⟩ (.slice A nA cA)).setCell ⟨w.heap.size, 2, none⟩ (.slice B nB cB)).heap[i]?) => HAT.out W' (fun i a1 a2 => by rw [hs i (by omega) (by simp [World.setCell]; omega), Below.heap_setCell _ _ _ _ (by simp only; omega), Below.heap_setCell _ _ _ _ (by simp only; omega), Below.heap_setCell _ _ _ _ (by simp only; omega)]; exact (hg7.block i (by have := HKS.out; omega) (fun e => by have := hrow i e.symm; omega)).trans (HC6.out.same i a1 (by omega)))
            have hcr := (((hO7.grown (grown_set _ _ 0 (.slice S nS cS)) hb7 (by decide)).grown (grown_set _ _ 1 (.slice A nA cA)) z1 (by decide)).grown (grown_set _ _ 2 (.slice B nB cB)) z2 (by decide))
            refine bodyPost_ret (v := .tuple #[.agg #[.slice S nS cS, .slice A nA cA, .slice B nB cB], .slice (some ⟨gs, 0, none⟩) (nS + 1) c7]) (by simp [results, Tryz.results24, go_sem, k0, k1, k2]) rfl ⟨S, A, B, nS, cS, nA, cA, nB, cB, gs, nS + 1, c7, s, rA, rB, f, gg, _, rfl, fun W' hs => ⟨hrul W' hs, (show OwnInts W' V _ _ _ _ from own_same' hcr (fun k hk => hs k (by have := own_block hcr k hk; omega) (own_block hcr k hk).2)).mono (by omega)⟩, by omega, hgr, by simp [World.setCell]; omega⟩
        · have h1' : ((t : Int) == 1) = false := by simp; omega
          go_upto_region 15 with fail
          have HCz := HC5
          clear HC5
          obtain ⟨wz, hwz0⟩ : ∃ x, x = w5 := ⟨_, rfl⟩
          rw [← hwz0] at HCz ⊢
          clear hwz0
          have e0 : wz.cell? ⟨w.heap.size, 0, none⟩ = some (.slice none 0 0) := HCz.out.res.cell 0
          have e1 : wz.cell? ⟨w.heap.size, 1, none⟩ = some (.slice none 0 0) := HCz.out.res.cell 1
          have e2 : wz.cell? ⟨w.heap.size, 2, none⟩ = some (.slice none 0 0) := HCz.out.res.cell 2
          have d0 : wz.cell? ⟨V, 0, none⟩ = some (.slice S nS cS) := HCz.out.box.cell 0
          have d1 : wz.cell? ⟨V, 1, none⟩ = some (.slice A nA cA) := HCz.out.box.cell 1
          have d2 : wz.cell? ⟨V, 2, none⟩ = some (.slice B nB cB) := HCz.out.box.cell 2
          have f0 := HCz.out.res.frozen 0
          have f1 := HCz.out.res.frozen 1
          have f2 := HCz.out.res.frozen 2
          have hwz := HCz.out.res.lt
          have hwa := HCz.out.wlo
          have hal := HCz.out.alo
          have hvl := HCz.out.box.lt
          have hgc := HCz.out.crowd.block
          go_wp2
          have hvh := HCz.out.vhi
          have y1 := ((HCz.out.res.set 0 (.slice S nS cS)).set 1 (.slice A nA cA)).set 2 (.slice B nB cB)
          have z1 := HCz.out.res.set 0 (.slice S nS cS)
          have z2 := z1.set 1 (.slice A nA cA)
          have c0 := y1.cell 0
          have c1 := y1.cell 1
          have c2 := y1.cell 2
          have hgr : Gro b w (((wz.setCell ⟨w.heap.size, 0, none⟩ (.slice S nS cS)).setCell ⟨w.heap.size, 1, none⟩ (.slice A nA cA)).setCell ⟨w.heap.size, 2, none⟩ (.slice B nB cB)) := ((HCz.out.gro.setAbove (by omega) _).setAbove (by omega) _).setAbove (by omega) _
          have hrul := fun (W' : World) (hs : ∀ i, w.heap.size < i → i < (((wz.setCell ⟨w.heap.size, 0, none⟩ (.slice S nS cS)).setCell ⟨w.heap.size, 1, none⟩ (.slice A nA cA)).setCell ⟨w.heap.size, 2, none⟩ (.slice B nB cB)).heap.size → W'.heap[i]? = (((wz.setCell ⟨w.heap.size, 0, none⟩ (.slice S nS cS)).setCell ⟨w.heap.size, 1, none⟩ (.slice A nA cA)).setCell ⟨w.heap.size, 2, none⟩ (.slice B nB cB)).heap[i]?) => HAT.out W' (fun i a1 a2 => by rw [hs i (by omega) (by simp [World.setCell]; omega), Below.heap_setCell _ _ _ _ (by simp only; omega), Below.heap_setCell _ _ _ _ (by simp only; omega), Below.heap_setCell _ _ _ _ (by simp only; omega)]; exact HCz.out.same i a1 (by omega))
          have hcr := (((HCz.out.crowd.grown (grown_set _ _ 0 (.slice S nS cS)) HCz.out.res (by decide)).grown (grown_set _ _ 1 (.slice A nA cA)) z1 (by decide)).grown (grown_set _ _ 2 (.slice B nB cB)) z2 (by decide))
          refine bodyPost_ret (v := .tuple #[.agg #[.slice S nS cS, .slice A nA cA, .slice B nB cB], .slice (some ⟨V + 1, 0, none⟩) nS nS]) (by simp [results, Tryz.results24, go_sem, c0, c1, c2]) rfl ⟨S, A, B, nS, cS, nA, cA, nB, cB, V + 1, nS, nS, s, rA, rB, f, gg, _, rfl, fun W' hs => ⟨hrul W' hs, (show OwnInts W' V _ _ _ _ from own_same' hcr (fun k hk => hs k (by have := own_block hcr k hk; omega) (own_block hcr k hk).2)).mono (by omega)⟩, by omega, hgr, by simp [World.setCell]; omega⟩
    · have hki : (0 : Int) < (k : Int) := by omega
      go_wp2_with fail
      refine (pick_any b q' nS wr HC.out.rd (by omega)).mono ?_
      rintro e w5 ⟨x, rfl, hx, hR5, hG5⟩
      have HC5 := Lib.hid (HC.out.pick hG5 hR5)
      clear hR5 hG5 HC
      go_wp2_with fail
      refine (pick_any b (q' + 1) 3 w5 HC5.out.rd (by omega)).mono ?_
      rintro e w6 ⟨t, rfl, ht, hR6, hG6⟩
      have HC6 := Lib.hid (HC5.out.pick hG6 hR6)
      clear hR6 hG6 HC5
      by_cases ht0 : t = 0
      · subst ht0
        have hxn : x < nS := by omega
        have hxi : (x : Int) < nS := by omega
        have hcx := HC6.out.crowd.cell x hxn
        have fx := HC6.out.crowd.frozen x
        have hbx := HC6.out.at x hxn
        have HST : Hid (∀ v : Int, v = l.getD x 0 → CSt b V (V + 1) nS (j + 1) (q' + 1 + 1) w wA w1 (l.set x (v + 1)) #[.slice S nS cS, .slice A nA cA, .slice B nB cB] (w6.setCell ⟨V + 1, x, none⟩ (.int .i64 (v + 1)))) := Lib.hid (fun v hv => HC6.out.set x (v + 1) (fun z hz => by
          rcases List.mem_or_eq_of_mem_set hz with h | h
          · have := HC6.out.bnd z h
            omega
          · omega))
        obtain ⟨vx, hvx⟩ : ∃ v, v = l.getD x 0 := ⟨_, rfl⟩
        rw [← hvx] at hcx hbx
        have HC7 := Lib.hid (HST.out vx hvx)
        have hwx : wrap64 (vx + 1) = vx + 1 := by unfold wrap64; omega
        clear HST hvx HC6
        go_wp2_with fail
        go_roundw
        case rel => exact ⟨j + 1, k - 1, q' + 1 + 1, _, by go_num, by omega, by omega, HC7⟩
        case measure => simp [intOf]; omega
      · have hti : (0 : Int) < (t : Int) := by omega
        go_wp2_with fail
        refine (pick_any b (q' + 1 + 1) (min (nS : Int) 2) w6 HC6.out.rd (by omega)).mono ?_
        rintro e w7 ⟨x2, rfl, hx2, hR7, hG7⟩
        have HC8 := Lib.hid (HC6.out.pick hG7 hR7)
        clear hR7 hG7 HC6
        have hxn : x2 < nS := by omega
        have hxi : (x2 : Int) < nS := by omega
        have hcx := HC8.out.crowd.cell x2 hxn
        have fx := HC8.out.crowd.frozen x2
        have hbx := HC8.out.at x2 hxn
        have HST : Hid (∀ v : Int, v = l.getD x2 0 → CSt b V (V + 1) nS (j + 1) (q' + 1 + 1 + 1) w wA w1 (l.set x2 (v + 1)) #[.slice S nS cS, .slice A nA cA, .slice B nB cB] (w7.setCell ⟨V + 1, x2, none⟩ (.int .i64 (v + 1)))) := Lib.hid (fun v hv => HC8.out.set x2 (v + 1) (fun z hz => by
          rcases List.mem_or_eq_of_mem_set hz with h | h
          · have := HC8.out.bnd z h
            omega
          · omega))
        obtain ⟨vx, hvx⟩ : ∃ v, v = l.getD x2 0 := ⟨_, rfl⟩
        rw [← hvx] at hcx hbx
        have HC9 := Lib.hid (HST.out vx hvx)
        have hwx : wrap64 (vx + 1) = vx + 1 := by unfold wrap64; omega
        clear HST hvx HC8
        go_wp2_with fail
        go_roundw
        case rel => exact ⟨j + 1, k - 1, q' + 1 + 1 + 1, _, by go_num, by omega, by omega, HC9⟩
        case measure => simp [intOf]; omega
end Go.Proofs.YtlniogfinofakaaGreatDoor
/-
  someCrowd of the reference, with bounds and the reader's place behind it. Condition: the place is at most 900.
-/
namespace Go.Proofs.YtlniogfinofakaaGreatDoor
set_option maxRecDepth 100000
open Go.RowKit
set_option linter.unusedVariables false

/-- Drawn rules and a drawn list of numbers, none above 100, and the reader's place. -/
def CrowdDrawnD (b p : Nat) (w : World) (e : Ending) (w' : World) : Prop :=
  ∃ (S A B : Option Addr) (nS cS nA cA nB cB g m c : Nat) (s : Nat → Int) (rA rB : Nat → Option Addr × Nat × Nat) (f gg : Nat → Nat → Int) (l : List Int), e = .returned (.tuple #[.agg #[.slice S nS cS, .slice A nA cA, .slice B nB cB], .slice (some ⟨g, 0, none⟩) m c]) ∧ (∀ W, (∀ i, w.heap.size < i → i < w'.heap.size → W.heap[i]? = w'.heap[i]?) → RulAt W S nS s A nA rA f B nB rB gg ∧ OwnInts W w.heap.size (some ⟨g, 0, none⟩) m c l) ∧ m ≤ 5 ∧ Gro b w w' ∧ w.heap.size < w'.heap.size ∧ (∀ x ∈ l, x ≤ 100) ∧ ∃ q, q ≤ p + 150 ∧ Rd w' b q
set_option maxHeartbeats 8000000 in
theorem someCrowdD_any (b p : Nat) (w : World) (h : Rd w b p) (hp : p ≤ 900) :
    Calls Tryz.prog 24 #[.pointer (some ⟨b, 0, none⟩)] w (CrowdDrawnD b p w) := by
  have HR := Lib.hid h
  have hbw := HR.out.lt
  clear h
  have HB0 := Lib.hid (Blk.new w #[.slice none 0 0, .slice none 0 0, .slice none 0 0] 54)
  have HR0 := Lib.hid (HR.out.gro (Keeps.alloc w (.cells #[.slice none 0 0, .slice none 0 0, .slice none 0 0] 54)))
  have HG0 : Hid (Gro b w (w.alloc (.cells #[.slice none 0 0, .slice none 0 0, .slice none 0 0] 54))) := Lib.hid (Gro.ofKeeps (Keeps.alloc w _))
  have HS0 : Hid (w.heap.size < (w.alloc (.cells #[.slice none 0 0, .slice none 0 0, .slice none 0 0] 54)).heap.size) := Lib.hid (by simp)
  go_enter Tryz.func24, Tryz.ntmps24
  go_wp2_with fail
  generalize w.alloc (.cells #[.slice none 0 0, .slice none 0 0, .slice none 0 0] 54) = wA at *
  refine (someRules_any b p wA HR0.out (by omega)).mono ?_
  rintro e w1 ⟨v, S, A, B, nS, cS, nA, cA, nB, cB, s, rA, rB, f, gg, q, rfl, hD⟩
  obtain rfl := hD.val
  have hn1 := hD.one
  have hn4 := hD.four
  have hq := hD.few
  have HAT := Lib.hid hD.at'
  have HW1 : Hid (wA.heap.size ≤ w1.heap.size) := Lib.hid hD.gro.size
  have HC : Hid (CSt b w1.heap.size (w1.heap.size + 1) nS 0 q w wA w1 (List.replicate nS 0) #[.slice S nS cS, .slice A nA cA, .slice B nB cB] ((w1.alloc (.cells #[.slice S nS cS, .slice A nA cA, .slice B nB cB] 54)).alloc (.cells (madeCells #[.int .i64 0] nS) 3))) := Lib.hid (by
    have hk := (Keeps.alloc w1 (.cells #[.slice S nS cS, .slice A nA cA, .slice B nB cB] 54)).step (Keeps.alloc _ (.cells (madeCells #[.int .i64 0] nS) 3))
    refine ⟨(HB0.out.grown hD.gro (by simp; omega)).keeps hk, (Blk.new w1 _ _).keeps (Keeps.alloc _ _), ?_, fun x hx => ?_, hD.rd.gro hk, (HG0.out.step hD.gro).step (Gro.ofKeeps hk), fun i a1 a2 => hk.block i a2, hbw, HS0.out, rfl, HW1.out⟩
    · have h := OwnInts.make (w1.alloc (.cells #[.slice S nS cS, .slice A nA cA, .slice B nB cB] 54)) w1.heap.size nS (by simp) (by omega)
      rw [World.size_alloc] at h
      exact h
    · have := List.eq_of_mem_replicate hx
      omega)
  have hmk := make_ints nS (by omega)
  clear hD HB0 HR0 HG0 HS0
  go_wp2_with fail
  have HZ2 : Hid (w1.heap.size + 1 + 1 = ((w1.alloc (.cells #[.slice S nS cS, .slice A nA cA, .slice B nB cB] 54)).alloc (.cells (madeCells #[.int .i64 0] nS) 3)).heap.size) := Lib.hid (by simp)
  generalize (w1.alloc (.cells #[.slice S nS cS, .slice A nA cA, .slice B nB cB] 54)).alloc (.cells (madeCells #[.int .i64 0] nS) 3) = w2 at *
  refine (one_lit b q [4, 3, 5, 2, 1, 0] 0 5 _ _ _ w2 (by decide) (by decide) (by decide) (by omega) HC.out.rd rfl HZ2.out rfl).mono ?_
  rintro e w3 ⟨N, rfl, hN1, hN2, hR3, hG3⟩
  obtain ⟨N, rfl⟩ := Int.eq_ofNat_of_zero_le hN1
  have HC3 := Lib.hid ((HC.out.step (Keeps.alloc w2 (.cells ([4, 3, 5, 2, 1, 0].map (Value.int .i64)).toArray 3))).pick hG3 hR3)
  have hN5 : N ≤ 5 := by omega
  clear hR3 hG3 HC hN1 hN2 hmk HZ2
  generalize hV : w1.heap.size = V at *
  clear hV
  go_wp2_with fail
  go_loopw [6] (fun i wr => ∃ (j k q' : Nat) (l : List Int), i = .int .i64 k ∧ j + k = N ∧ q' ≤ q + 1 + 3 * j ∧ Hid (CSt b V (V + 1) nS j q' w wA w1 l #[.slice S nS cS, .slice A nA cA, .slice B nB cB] wr)) (fun i _ => (intOf i).toNat)
  case atStart => exact ⟨0, N, q + 1, _, rfl, by omega, by omega, HC3⟩
  case round =>
    clear HC3
    obtain ⟨j, k, q', l, rfl, hjk, hq', HC⟩ := hrel
    by_cases hk : k = 0
    · subst hk
      go_wp2_with fail
      refine (pick_any b q' 30 wr HC.out.rd (by omega)).mono ?_
      rintro e w5 ⟨t, rfl, ht, hR5, hG5⟩
      have HC5 := Lib.hid (HC.out.pick hG5 hR5)
      clear hR5 hG5 HC
      by_cases h0 : t = 0
      · subst h0
        have HSZ := Lib.hid HC5.out.box.lt
        have hcx := HC5.out.crowd.cell 0 (by omega)
        have hni : (0 : Int) < (nS : Int) := by omega
        go_wp2_with fail
        refine (one_lit b (q' + 1) [-1, 6] (-1) 6 _ _ _ w5 (by decide) (by decide) (by decide) (by omega) HC5.out.rd rfl rfl rfl).mono ?_
        rintro e w6 ⟨v, rfl, hv1, hv2, hR6, hG6⟩
        have HC6 := Lib.hid ((HC5.out.step (Keeps.alloc w5 (.cells ([-1, 6].map (Value.int .i64)).toArray 3))).pick hG6 hR6)
        clear hR6 hG6 hcx
        have c0 := HC6.out.crowd.cell 0 (by omega)
        have f0 := HC6.out.crowd.frozen 0
        go_upto_region 15 with fail
        have HCz := Lib.hid (HC6.out.set 0 v (j' := j) (fun z hz => by
          rcases List.mem_or_eq_of_mem_set hz with h | h
          · exact HC6.out.bnd z h
          · omega))
        clear c0 f0 HC6 HC5 HSZ
        generalize w6.setCell ⟨V + 1, 0, none⟩ (.int .i64 v) = wz at *
        have e0 : wz.cell? ⟨w.heap.size, 0, none⟩ = some (.slice none 0 0) := HCz.out.res.cell 0
        have e1 : wz.cell? ⟨w.heap.size, 1, none⟩ = some (.slice none 0 0) := HCz.out.res.cell 1
        have e2 : wz.cell? ⟨w.heap.size, 2, none⟩ = some (.slice none 0 0) := HCz.out.res.cell 2
        have d0 : wz.cell? ⟨V, 0, none⟩ = some (.slice S nS cS) := HCz.out.box.cell 0
        have d1 : wz.cell? ⟨V, 1, none⟩ = some (.slice A nA cA) := HCz.out.box.cell 1
        have d2 : wz.cell? ⟨V, 2, none⟩ = some (.slice B nB cB) := HCz.out.box.cell 2
        have f0 := HCz.out.res.frozen 0
        have f1 := HCz.out.res.frozen 1
        have f2 := HCz.out.res.frozen 2
        have hwz := HCz.out.res.lt
        have hwa := HCz.out.wlo
        have hal := HCz.out.alo
        have hvl := HCz.out.box.lt
        have hgc := HCz.out.crowd.block
        go_wp2
        have hvh := HCz.out.vhi
        have y1 := ((HCz.out.res.set 0 (.slice S nS cS)).set 1 (.slice A nA cA)).set 2 (.slice B nB cB)
        have z1 := HCz.out.res.set 0 (.slice S nS cS)
        have z2 := z1.set 1 (.slice A nA cA)
        have c0 := y1.cell 0
        have c1 := y1.cell 1
        have c2 := y1.cell 2
        have hgr : Gro b w (((wz.setCell ⟨w.heap.size, 0, none⟩ (.slice S nS cS)).setCell ⟨w.heap.size, 1, none⟩ (.slice A nA cA)).setCell ⟨w.heap.size, 2, none⟩ (.slice B nB cB)) := ((HCz.out.gro.setAbove (by omega) _).setAbove (by omega) _).setAbove (by omega) _
        have hrul := fun (W' : World) (hs : ∀ i, w.heap.size < i → i < (((wz.setCell ⟨w.heap.size, 0, none⟩ (.slice S nS cS)).setCell ⟨w.heap.size, 1, none⟩ (.slice A nA cA)).setCell ⟨w.heap.size, 2, none⟩ (.slice B nB cB)).heap.size → W'.heap[i]? = (((wz.setCell ⟨w.heap.size, 0, none⟩ (.slice S nS cS)).setCell ⟨w.heap.size, 1, none⟩ (.slice A nA cA)).setCell ⟨w.heap.size, 2, none⟩ (.slice B nB cB)).heap[i]?) => HAT.out W' (fun i a1 a2 => by rw [hs i (by omega) (by simp [World.setCell]; omega), Below.heap_setCell _ _ _ _ (by simp only; omega), Below.heap_setCell _ _ _ _ (by simp only; omega), Below.heap_setCell _ _ _ _ (by simp only; omega)]; exact HCz.out.same i a1 (by omega))
        have hcr := (((HCz.out.crowd.grown (grown_set _ _ 0 (.slice S nS cS)) HCz.out.res (by decide)).grown (grown_set _ _ 1 (.slice A nA cA)) z1 (by decide)).grown (grown_set _ _ 2 (.slice B nB cB)) z2 (by decide))
        refine bodyPost_ret (v := .tuple #[.agg #[.slice S nS cS, .slice A nA cA, .slice B nB cB], .slice (some ⟨V + 1, 0, none⟩) nS nS]) (by simp [results, Tryz.results24, go_sem, c0, c1, c2]) rfl ⟨S, A, B, nS, cS, nA, cA, nB, cB, V + 1, nS, nS, s, rA, rB, f, gg, _, rfl, fun W' hs => ⟨hrul W' hs, (show OwnInts W' V _ _ _ _ from own_same' hcr (fun k hk => hs k (by have := own_block hcr k hk; omega) (own_block hcr k hk).2)).mono (by omega)⟩, by omega, hgr, (by simp [World.setCell]; omega), (fun x hx => by have := HCz.out.bnd x hx; omega), ⟨_, by omega, ((HCz.out.rd.set_other HCz.out.blo _).set_other HCz.out.blo _).set_other HCz.out.blo _⟩⟩
      · have h0' : ((t : Int) == 0) = false := by simp; omega
        by_cases h1 : t = 1
        · subst h1
          have d0 : w5.cell? ⟨V, 0, none⟩ = some (.slice S nS cS) := HC5.out.box.cell 0
          have d1 : w5.cell? ⟨V, 1, none⟩ = some (.slice A nA cA) := HC5.out.box.cell 1
          have d2 : w5.cell? ⟨V, 2, none⟩ = some (.slice B nB cB) := HC5.out.box.cell 2
          have f0 := HC5.out.res.frozen 0
          have f1 := HC5.out.res.frozen 1
          have f2 := HC5.out.res.frozen 2
          have e0 : w5.cell? ⟨w.heap.size, 0, none⟩ = some (.slice none 0 0) := HC5.out.res.cell 0
          have e1 : w5.cell? ⟨w.heap.size, 1, none⟩ = some (.slice none 0 0) := HC5.out.res.cell 1
          have e2 : w5.cell? ⟨w.heap.size, 2, none⟩ = some (.slice none 0 0) := HC5.out.res.cell 2
          have hwz := HC5.out.res.lt
          have hvl := HC5.out.box.lt
          have hgc := HC5.out.crowd.block
          have hVw := HC5.out.gro.size
          have hwa := HC5.out.wlo
          have hal := HC5.out.alo
          have hkk : Keeps w5 (w5.alloc (.cells #[.int .i64 0] 3)).drew := (Keeps.alloc _ _).step (Keeps.drew1 _)
          have HC6 := Lib.hid (HC5.out.step hkk)
          have HKS := Lib.hid hkk.size
          have HCL : Hid ((w5.alloc (.cells #[.int .i64 0] 3)).drew.cell? ⟨w5.heap.size, 0, none⟩ = some (.int .i64 0)) := Lib.hid ((Blk.new w5 #[.int .i64 0] 3).cell 0)
          go_upto_region 14 with fail
          go_region_law (first | (refine step_intH rfl (.tmp 53) (.tmp 54) rfl V (some ⟨V + 1, 0, none⟩) nS nS l _ rfl HC6.out.crowd w5.heap.size 0 HCL.out rfl (by omega) (by have := HKS.out; omega) ?_; intro gs c7 w7 hO7 hg7 hor7; have hb7 := HC6.out.res.grown hg7 (own_other' HC6.out.crowd HC6.out.res (by decide)); have hx7 := HC6.out.box.grown hg7 (own_other' HC6.out.crowd HC6.out.box (by decide)); have r0 : w7.cell? ⟨w.heap.size, 0, none⟩ = some (.slice none 0 0) := hb7.cell 0; have r1 : w7.cell? ⟨w.heap.size, 1, none⟩ = some (.slice none 0 0) := hb7.cell 1; have r2 : w7.cell? ⟨w.heap.size, 2, none⟩ = some (.slice none 0 0) := hb7.cell 2; have s0 := hb7.frozen 0; have s1 := hb7.frozen 1; have s2 := hb7.frozen 2; have t0 : w7.cell? ⟨V, 0, none⟩ = some (.slice S nS cS) := hx7.cell 0; have t1 : w7.cell? ⟨V, 1, none⟩ = some (.slice A nA cA) := hx7.cell 1; have t2 : w7.cell? ⟨V, 2, none⟩ = some (.slice B nB cB) := hx7.cell 2; have hz7 := hg7.size))
          all_goals
            simp only [Act.put, List.getElem_toArray, List.getElem_cons_succ, List.getElem_cons_zero, List.setIfInBounds_toArray, List.set_cons_succ, List.set_cons_zero]
            go_wp2
            have hvh := HC6.out.vhi
            have hz8 : w5.heap.size ≤ w7.heap.size := Nat.le_trans HKS.out hz7
            have y1 := ((hb7.set 0 (.slice S nS cS)).set 1 (.slice A nA cA)).set 2 (.slice B nB cB)
            have z1 := hb7.set 0 (.slice S nS cS)
            have z2 := z1.set 1 (.slice A nA cA)
            have k0 := y1.cell 0
            have k1 := y1.cell 1
            have k2 := y1.cell 2
            have hrow : ∀ d, (some (⟨V + 1, 0, none⟩ : Addr)).map (·.block) = some d → d = V + 1 := fun d e => by simpa using e.symm
            have hg6 := gro_above (d := 0) HC6.out.gro hg7 (fun d e => by have := hrow d e; omega)
            have hgr : Gro b w (((w7.setCell ⟨w.heap.size, 0, none⟩ (.slice S nS cS)).setCell ⟨w.heap.size, 1, none⟩ (.slice A nA cA)).setCell ⟨w.heap.size, 2, none⟩ (.slice B nB cB)) := ((hg6.setAbove (by omega) _).setAbove (by omega) _).setAbove (by omega) _
            have hrul := fun (W' : World) (hs : ∀ i, w.heap.size < i → i < (((w7.setCell ⟨w.heap.size, 0, none⟩ (.slice S nS cS)).setCell ⟨w.heap.size, 1, none⟩ (.slice A nA cA)).setCell ⟨w.heap.size, 2, none⟩ (.slice B nB cB)).heap.size → W'.heap[i]? = (((w7.setCell ⟨w.heap.size, 0, none⟩ (.slice S nS cS)).setCell ⟨w.heap.size, 1, none⟩ (.slice A nA cA)).setCell ⟨w.heap.size, 2, none⟩ (.slice B nB cB)).heap[i]?) => HAT.out W' (fun i a1 a2 => by rw [hs i (by omega) (by simp [World.setCell]; omega), Below.heap_setCell _ _ _ _ (by simp only; omega), Below.heap_setCell _ _ _ _ (by simp only; omega), Below.heap_setCell _ _ _ _ (by simp only; omega)]; exact (hg7.block i (by have := HKS.out; omega) (fun e => by have := hrow i e.symm; omega)).trans (HC6.out.same i a1 (by omega)))
            have hcr := (((hO7.grown (grown_set _ _ 0 (.slice S nS cS)) hb7 (by decide)).grown (grown_set _ _ 1 (.slice A nA cA)) z1 (by decide)).grown (grown_set _ _ 2 (.slice B nB cB)) z2 (by decide))
            refine bodyPost_ret (v := .tuple #[.agg #[.slice S nS cS, .slice A nA cA, .slice B nB cB], .slice (some ⟨gs, 0, none⟩) (nS + 1) c7]) (by simp [results, Tryz.results24, go_sem, k0, k1, k2]) rfl ⟨S, A, B, nS, cS, nA, cA, nB, cB, gs, nS + 1, c7, s, rA, rB, f, gg, _, rfl, fun W' hs => ⟨hrul W' hs, (show OwnInts W' V _ _ _ _ from own_same' hcr (fun k hk => hs k (by have := own_block hcr k hk; omega) (own_block hcr k hk).2)).mono (by omega)⟩, by omega, hgr, (by simp [World.setCell]; omega), (fun x hx => by
              rcases List.mem_append.1 hx with hx | hx
              · have := HC6.out.bnd x hx; omega
              · rw [List.mem_singleton.1 hx]; omega), ⟨_, by omega, (((HC6.out.rd.grown hg7 (fun d e => by have := hrow d e; have := HC6.out.blo; omega)).set_other HC6.out.blo _).set_other HC6.out.blo _).set_other HC6.out.blo _⟩⟩
        · have h1' : ((t : Int) == 1) = false := by simp; omega
          go_upto_region 15 with fail
          have HCz := HC5
          clear HC5
          obtain ⟨wz, hwz0⟩ : ∃ x, x = w5 := ⟨_, rfl⟩
          rw [← hwz0] at HCz ⊢
          clear hwz0
          have e0 : wz.cell? ⟨w.heap.size, 0, none⟩ = some (.slice none 0 0) := HCz.out.res.cell 0
          have e1 : wz.cell? ⟨w.heap.size, 1, none⟩ = some (.slice none 0 0) := HCz.out.res.cell 1
          have e2 : wz.cell? ⟨w.heap.size, 2, none⟩ = some (.slice none 0 0) := HCz.out.res.cell 2
          have d0 : wz.cell? ⟨V, 0, none⟩ = some (.slice S nS cS) := HCz.out.box.cell 0
          have d1 : wz.cell? ⟨V, 1, none⟩ = some (.slice A nA cA) := HCz.out.box.cell 1
          have d2 : wz.cell? ⟨V, 2, none⟩ = some (.slice B nB cB) := HCz.out.box.cell 2
          have f0 := HCz.out.res.frozen 0
          have f1 := HCz.out.res.frozen 1
          have f2 := HCz.out.res.frozen 2
          have hwz := HCz.out.res.lt
          have hwa := HCz.out.wlo
          have hal := HCz.out.alo
          have hvl := HCz.out.box.lt
          have hgc := HCz.out.crowd.block
          go_wp2
          have hvh := HCz.out.vhi
          have y1 := ((HCz.out.res.set 0 (.slice S nS cS)).set 1 (.slice A nA cA)).set 2 (.slice B nB cB)
          have z1 := HCz.out.res.set 0 (.slice S nS cS)
          have z2 := z1.set 1 (.slice A nA cA)
          have c0 := y1.cell 0
          have c1 := y1.cell 1
          have c2 := y1.cell 2
          have hgr : Gro b w (((wz.setCell ⟨w.heap.size, 0, none⟩ (.slice S nS cS)).setCell ⟨w.heap.size, 1, none⟩ (.slice A nA cA)).setCell ⟨w.heap.size, 2, none⟩ (.slice B nB cB)) := ((HCz.out.gro.setAbove (by omega) _).setAbove (by omega) _).setAbove (by omega) _
          have hrul := fun (W' : World) (hs : ∀ i, w.heap.size < i → i < (((wz.setCell ⟨w.heap.size, 0, none⟩ (.slice S nS cS)).setCell ⟨w.heap.size, 1, none⟩ (.slice A nA cA)).setCell ⟨w.heap.size, 2, none⟩ (.slice B nB cB)).heap.size → W'.heap[i]? = (((wz.setCell ⟨w.heap.size, 0, none⟩ (.slice S nS cS)).setCell ⟨w.heap.size, 1, none⟩ (.slice A nA cA)).setCell ⟨w.heap.size, 2, none⟩ (.slice B nB cB)).heap[i]?) => HAT.out W' (fun i a1 a2 => by rw [hs i (by omega) (by simp [World.setCell]; omega), Below.heap_setCell _ _ _ _ (by simp only; omega), Below.heap_setCell _ _ _ _ (by simp only; omega), Below.heap_setCell _ _ _ _ (by simp only; omega)]; exact HCz.out.same i a1 (by omega))
          have hcr := (((HCz.out.crowd.grown (grown_set _ _ 0 (.slice S nS cS)) HCz.out.res (by decide)).grown (grown_set _ _ 1 (.slice A nA cA)) z1 (by decide)).grown (grown_set _ _ 2 (.slice B nB cB)) z2 (by decide))
          refine bodyPost_ret (v := .tuple #[.agg #[.slice S nS cS, .slice A nA cA, .slice B nB cB], .slice (some ⟨V + 1, 0, none⟩) nS nS]) (by simp [results, Tryz.results24, go_sem, c0, c1, c2]) rfl ⟨S, A, B, nS, cS, nA, cA, nB, cB, V + 1, nS, nS, s, rA, rB, f, gg, _, rfl, fun W' hs => ⟨hrul W' hs, (show OwnInts W' V _ _ _ _ from own_same' hcr (fun k hk => hs k (by have := own_block hcr k hk; omega) (own_block hcr k hk).2)).mono (by omega)⟩, by omega, hgr, (by simp [World.setCell]; omega), (fun x hx => by have := HCz.out.bnd x hx; omega), ⟨_, by omega, ((HCz.out.rd.set_other HCz.out.blo _).set_other HCz.out.blo _).set_other HCz.out.blo _⟩⟩
    · have hki : (0 : Int) < (k : Int) := by omega
      go_wp2_with fail
      refine (pick_any b q' nS wr HC.out.rd (by omega)).mono ?_
      rintro e w5 ⟨x, rfl, hx, hR5, hG5⟩
      have HC5 := Lib.hid (HC.out.pick hG5 hR5)
      clear hR5 hG5 HC
      go_wp2_with fail
      refine (pick_any b (q' + 1) 3 w5 HC5.out.rd (by omega)).mono ?_
      rintro e w6 ⟨t, rfl, ht, hR6, hG6⟩
      have HC6 := Lib.hid (HC5.out.pick hG6 hR6)
      clear hR6 hG6 HC5
      by_cases ht0 : t = 0
      · subst ht0
        have hxn : x < nS := by omega
        have hxi : (x : Int) < nS := by omega
        have hcx := HC6.out.crowd.cell x hxn
        have fx := HC6.out.crowd.frozen x
        have hbx := HC6.out.at x hxn
        have HST : Hid (∀ v : Int, v = l.getD x 0 → CSt b V (V + 1) nS (j + 1) (q' + 1 + 1) w wA w1 (l.set x (v + 1)) #[.slice S nS cS, .slice A nA cA, .slice B nB cB] (w6.setCell ⟨V + 1, x, none⟩ (.int .i64 (v + 1)))) := Lib.hid (fun v hv => HC6.out.set x (v + 1) (fun z hz => by
          rcases List.mem_or_eq_of_mem_set hz with h | h
          · have := HC6.out.bnd z h
            omega
          · omega))
        obtain ⟨vx, hvx⟩ : ∃ v, v = l.getD x 0 := ⟨_, rfl⟩
        rw [← hvx] at hcx hbx
        have HC7 := Lib.hid (HST.out vx hvx)
        have hwx : wrap64 (vx + 1) = vx + 1 := by unfold wrap64; omega
        clear HST hvx HC6
        go_wp2_with fail
        go_roundw
        case rel => exact ⟨j + 1, k - 1, q' + 1 + 1, _, by go_num, by omega, by omega, HC7⟩
        case measure => simp [intOf]; omega
      · have hti : (0 : Int) < (t : Int) := by omega
        go_wp2_with fail
        refine (pick_any b (q' + 1 + 1) (min (nS : Int) 2) w6 HC6.out.rd (by omega)).mono ?_
        rintro e w7 ⟨x2, rfl, hx2, hR7, hG7⟩
        have HC8 := Lib.hid (HC6.out.pick hG7 hR7)
        clear hR7 hG7 HC6
        have hxn : x2 < nS := by omega
        have hxi : (x2 : Int) < nS := by omega
        have hcx := HC8.out.crowd.cell x2 hxn
        have fx := HC8.out.crowd.frozen x2
        have hbx := HC8.out.at x2 hxn
        have HST : Hid (∀ v : Int, v = l.getD x2 0 → CSt b V (V + 1) nS (j + 1) (q' + 1 + 1 + 1) w wA w1 (l.set x2 (v + 1)) #[.slice S nS cS, .slice A nA cA, .slice B nB cB] (w7.setCell ⟨V + 1, x2, none⟩ (.int .i64 (v + 1)))) := Lib.hid (fun v hv => HC8.out.set x2 (v + 1) (fun z hz => by
          rcases List.mem_or_eq_of_mem_set hz with h | h
          · have := HC8.out.bnd z h
            omega
          · omega))
        obtain ⟨vx, hvx⟩ : ∃ v, v = l.getD x2 0 := ⟨_, rfl⟩
        rw [← hvx] at hcx hbx
        have HC9 := Lib.hid (HST.out vx hvx)
        have hwx : wrap64 (vx + 1) = vx + 1 := by unfold wrap64; omega
        clear HST hvx HC8
        go_wp2_with fail
        go_roundw
        case rel => exact ⟨j + 1, k - 1, q' + 1 + 1 + 1, _, by go_num, by omega, by omega, HC9⟩
        case measure => simp [intOf]; omega
end Go.Proofs.YtlniogfinofakaaGreatDoor
/-
  The reference's queue of lists: a slice of lists that begins anywhere in a block of the call's own; its head is cut off, and one is appended. No condition but bounds on lengths.
-/
namespace Go.Proofs.YtlniogfinofakaaGreatDoor
set_option maxRecDepth 100000
set_option maxRecDepth 100000
set_option linter.unusedVariables false
open Go.RowKit

/-- The call's own slice of n lists from place off of block g on. -/
def SubQ (w : World) (lo g off n c : Nat) (T : List Hdr) : Prop :=
  lo ≤ g ∧ n ≤ c ∧ c ≤ 9223372036854775807 ∧ T.length = n ∧ ∃ cs : Array Value, Blk w g 45 cs ∧ off + c ≤ cs.size ∧ ∀ i, i < n → cs[off + i]? = some (T.getD i default).v
section
variable {w w' : World} {lo g off n c : Nat} {T : List Hdr}
theorem SubQ.new (w : World) (lo : Nat) (x : Hdr) (h : lo ≤ w.heap.size) : SubQ (w.alloc (.cells #[x.v] 45)) lo w.heap.size 0 1 1 [x] :=
  ⟨h, Nat.le_refl _, by omega, rfl, _, Blk.new w _ _, by simp, fun i hi => by
    have : i = 0 := by omega
    subst this
    rfl⟩
theorem SubQ.keeps (h : SubQ w lo g off n c T) (k : Keeps w w') : SubQ w' lo g off n c T := by
  obtain ⟨h1, h2, h3, h4, cs, h5, h6⟩ := h
  exact ⟨h1, h2, h3, h4, cs, h5.keeps k, h6⟩
theorem SubQ.cell (h : SubQ w lo g off n c T) (i : Nat) (hi : i < n) : w.cell? ⟨g, off + i, none⟩ = some (T.getD i default).v := by
  obtain ⟨h1, h2, h3, h4, cs, h5, h6, h7⟩ := h
  rw [h5.cell]
  exact h7 i hi
theorem SubQ.blk (h : SubQ w lo g off n c T) : ∃ cs, Blk w g 45 cs := by
  obtain ⟨h1, h2, h3, h4, cs, h5, h6⟩ := h
  exact ⟨cs, h5⟩
theorem SubQ.lt (h : SubQ w lo g off n c T) : g < w.heap.size := h.2.2.2.2.choose_spec.1.lt
theorem SubQ.cap (h : SubQ w lo g off n c T) : n ≤ c ∧ c ≤ 9223372036854775807 := ⟨h.2.1, h.2.2.1⟩
theorem SubQ.len (h : SubQ w lo g off n c T) : T.length = n := h.2.2.2.1
theorem SubQ.pop {v : Hdr} {m d : Nat} (h : SubQ w lo g off (m + 1) (d + 1) (v :: T)) : SubQ w lo g (off + 1) m d T := by
  obtain ⟨h1, h2, h3, h4, cs, h5, h6, h7⟩ := h
  refine ⟨h1, by omega, by omega, by simpa using h4, cs, h5, by omega, fun i hi => ?_⟩
  have := h7 (i + 1) (by omega)
  rw [show off + 1 + i = off + (i + 1) by omega, this]
  simp
theorem SubQ.pop0 {v : Hdr} (h : SubQ w lo g off 1 1 (v :: T)) : SubQ w lo g off 0 0 T := by
  obtain ⟨h1, h2, h3, h4, cs, h5, h6, h7⟩ := h
  exact ⟨h1, by omega, by omega, by simpa using h4, cs, h5, by omega, fun i hi => absurd hi (Nat.not_lt_zero _)⟩
end
/-- 'q = append(q, x)'. -/
theorem wp_app_subq {ops : Array Oper} {rest : List Oper} {o : Oper} {a : Act} {Q : Exit → Act → World → Prop}
    (hgd : o.guard = none) (s y : Operand) (ho : o.op = .call { callee := .builtin .append, args := #[s, y], argTypes := #[52, 52] })
    (lo g off n c : Nat) (l : List Hdr) (w : World) (hs : a.eval s = .slice (some ⟨g, off, none⟩) n c) (hown : SubQ w lo g off n c l)
    (x : Hdr) (v : Value) (hv : v = x.v) (b0 : Nat) (hx : a.eval y = .slice (some ⟨b0, 0, none⟩) 1 1) (hb0 : b0 = w.heap.size) (hn : n + 1 ≤ 1099511627776) (hbase : lo ≤ w.heap.size)
    (h : ∀ (g' off' c' : Nat) (w' : World), SubQ w' lo g' off' (n + 1) c' (l ++ [x]) → w.grownBy w' (some g) → (g' = g ∨ w.heap.size ≤ g') → wpList Tryz.prog ops Q rest (a.put o.dst (.slice (some ⟨g', off', none⟩) (n + 1) c')) w') :
    wpList Tryz.prog ops Q (o :: rest) a (w.alloc (.cells #[v] 45)) := by
  subst hb0
  subst hv
  obtain ⟨i0, hi, hz0, hz1, hz2⟩ := info_parts info_ints
  obtain ⟨h1, h2, h3, h4, cs, h5, h6, h7⟩ := hown
  have hk := Keeps.alloc w (.cells #[x.v] 45)
  have h5' := h5.keeps hk
  have glt := h5.lt
  have hnews : ∀ (j : Nat) (u : Value), ([x.v] : List Value)[j]? = some u → (w.alloc (.cells #[x.v] 45)).cell? ((⟨w.heap.size, 0, none⟩ : Addr).add j) = some u := cell_one_new w _ _
  refine wpList_plain hgd fun K hK' => ?_
  by_cases hroom : n + 1 ≤ c
  · have hrun := run_append_room_cells (P := Tryz.prog) (w.alloc (.cells #[x.v] 45)) 52 o.type 45 i0 Tryz.underlying52 hi g off n c ⟨w.heap.size, 0, none⟩ 1 1 [x.v] (by rw [hz1]; rfl) hnews (by simp; rfl) hroom
      (fun j hj => by
        simp at hj; subst hj
        rw [hz1, h5'.cell]
        simp; omega) (fun j _ => h5'.frozen _)
    rw [hz1, Nat.mul_one] at hrun
    unfold Oper.wp
    simp [execOp, ho, resolve, invoke, builtin, hs, hx, hrun, Result.andThen]
    refine hK' _ _ (h g off c _ ⟨h1, hroom, h3, by simp [h4], _, h5'.set (off + n) x.v, by simpa using h6, fun i hi' => ?_⟩ ?_ (.inl rfl))
    · by_cases e : i = n
      · subst e
        rw [Array.getElem?_setIfInBounds_self_of_lt (by omega), List.getD_eq_getElem?_getD, List.getElem?_append_right (by omega)]
        simp [h4]
      · rw [Array.getElem?_setIfInBounds_ne (by omega), h7 i (by omega), List.getD_eq_getElem?_getD, List.getD_eq_getElem?_getD, List.getElem?_append_left (by omega)]
    · have g1 := grown_set (w.alloc (.cells #[x.v] 45)) g (off + n) x.v
      exact ⟨g1.os, g1.tape, g1.output, Nat.le_trans hk.size g1.size, fun i hi' hne => (g1.block i (Nat.lt_of_lt_of_le hi' hk.size) hne).trans (hk.block i hi')⟩
  · obtain ⟨v', w', hrun, hown', hg'⟩ := run_append_arg_grows (P := Tryz.prog) (w.alloc (.cells #[x.v] 45)) 52 o.type 45 i0 _ 1 24 Tryz.underlying52 hi hz0 hz1 hz2 rfl (by decide) ⟨g, off, none⟩ n c (l.map Hdr.v) (by simp [h4])
      (fun j u hj => by
        have hj' : j < n := by
          have := (List.getElem?_eq_some_iff.1 hj).1
          simp [h4] at this
          omega
        rw [Addr.add_lit, h5'.cell, h7 j hj', ← hj]
        simp [show j < l.length by omega]) ⟨w.heap.size, 0, none⟩ 1 1 [x.v] rfl hnews (by omega) (by unfold maxLen; omega) (by omega)
    unfold Oper.wp
    simp [execOp, ho, resolve, invoke, builtin, hs, hx, hrun, Result.andThen]
    rcases hown'.2 with ⟨_, h0⟩ | ⟨g', cap, cur, rfl, hge, hb, hle, hmx, hsz, htk⟩
    · omega
    · have hge' : w.heap.size ≤ g' := Nat.le_trans hk.size hge
      refine hK' _ _ (h g' 0 cap w' ⟨Nat.le_trans hbase hge', hle, by unfold maxLen at hmx; omega, by simp [h4], cur, hb, by omega, fun i hi' => ?_⟩ ?_ (.inr hge'))
      · rw [Nat.zero_add]
        have e1 : cur.toList[i]? = (cur.toList.take ((n + 1) * 1))[i]? := by rw [List.getElem?_take_of_lt (by omega)]
        rw [← Array.getElem?_toList, e1]
        have e2 := congrArg (fun (t : List Value) => t[i]?) htk
        (try dsimp only at e2)
        first | rw [e2] | (have e3 : (l.map Hdr.v ++ [x.v]).length = n + 1 := by simp [h4]
                           simp [h4] at e2 ⊢
                           rw [e2])
        rw [show (l.map Hdr.v ++ [x.v]) = (l ++ [x]).map (Hdr.v) by simp, List.getElem?_map, List.getD_eq_getElem?_getD]
        cases hh : (l ++ [x])[i]? with
        | none => rw [List.getElem?_eq_none_iff] at hh; simp [h4] at hh; omega
        | some u => rfl
      · exact ⟨hg'.os, hg'.tape, hg'.output, Nat.le_trans hk.size hg'.size, fun i hi' _ => (hg'.block i (Nat.lt_of_lt_of_le hi' hk.size) (by simp)).trans (hk.block i hi')⟩
end Go.Proofs.YtlniogfinofakaaGreatDoor
/-
  The reference's reached: a crowd and all that may come of it. Conditions: valid rules and a crowd.
-/
namespace Go.Proofs.YtlniogfinofakaaGreatDoor
set_option maxRecDepth 100000
set_option maxRecDepth 100000
set_option linter.unusedVariables false
open Go.RowKit

theorem Crn.grown {w w' : World} {lo g m q : Nat} {R : List Hdr} {cs : Array Value} (h : Crn w lo (some ⟨g, 0, none⟩) m R) (hg : w.grownBy w' (some q)) (hq : Blk w q 45 cs) (hne : m = 0 ∨ g ≠ q) : Crn w' lo (some ⟨g, 0, none⟩) m R := by
  refine ⟨h.len, ?_, fun z hz => (h.row z hz).grown hg hq (by decide)⟩
  rcases h.top with h0 | ⟨g', cur, e, h1, h2, h3⟩
  · exact .inl h0
  · cases e
    by_cases hm : m = 0
    · exact .inl hm
    · refine .inr ⟨g, cur, rfl, h1, h2.grown hg (fun e => ?_), h3⟩
      rcases hne with h4 | h4
      · exact hm h4
      · exact h4 (by simpa using e)
theorem Crn.lt {w : World} {lo g m : Nat} {R : List Hdr} (h : Crn w lo (some ⟨g, 0, none⟩) m R) (hm : m ≠ 0) : lo ≤ g ∧ g < w.heap.size := by
  rcases h.top with h0 | ⟨g', cur, e, h1, h2, h3⟩
  · exact absurd h0 hm
  · cases e; exact ⟨h1, h2.lt⟩
/-- What is reached so far, and the queue. -/
structure PSt (F G : Nat → Nat → Nat) (l : List Int) (w : World) (bx n : Nat) (cs : Array Value) (g m c : Nat) (R : List Hdr) (gq off nq cq : Nat) (T : List Hdr) (wr : World) : Prop where
  crn : Crn wr w.heap.size (some ⟨g, 0, none⟩) m R
  sl : SL (R.map (·.l))
  mc : m ≤ c
  c63 : c ≤ 9223372036854775807
  mem : l ∈ R.map (·.l)
  rch : ∀ x ∈ R.map (·.l), Rch F G n l x
  sub : SubQ wr w.heap.size gq off nq cq T
  row : ∀ t ∈ T, OwnInts wr w.heap.size (some ⟨t.g, 0, none⟩) t.l.length t.d t.l
  tin : ∀ t ∈ T, t.l ∈ R.map (·.l)
  ne : g ≠ gq
  nm : nq ≤ m
  box : Blk wr bx 54 cs
  keeps : Keeps w wr
section
variable {F G : Nat → Nat → Nat} {l : List Int} {w wr w' : World} {bx n g m c gq off nq cq : Nat} {cs : Array Value} {R T : List Hdr}
theorem PSt.step (h : PSt F G l w bx n cs g m c R gq off nq cq T wr) (k : Keeps wr w') : PSt F G l w bx n cs g m c R gq off nq cq T w' :=
  ⟨h.crn.keeps k, h.sl, h.mc, h.c63, h.mem, h.rch, h.sub.keeps k, fun t ht => (h.row t ht).keeps k, h.tin, h.ne, h.nm, h.box.keeps k, h.keeps.step k⟩
theorem PSt.crw (h : PSt F G l w bx n cs g m c R gq off nq cq T wr) (hR : Rul n F G) (hl : Crw n l) : ∀ x ∈ R.map (·.l), Crw n x := fun x hx => ((h.rch x hx).crw hR hl).1
theorem PSt.lens (h : PSt F G l w bx n cs g m c R gq off nq cq T wr) (hR : Rul n F G) (hl : Crw n l) : ∀ x ∈ R, x.l.length = n := fun x hx => (h.crw hR hl _ (List.mem_map_of_mem hx)).len
theorem PSt.le (h : PSt F G l w bx n cs g m c R gq off nq cq T wr) (hR : Rul n F G) (hl : Crw n l) (hn : n ≤ 4) : 1 ≤ m ∧ m ≤ 1296 := by
  have h1 := crowds_le hn h.sl.nodup (h.crw hR hl)
  have h2 := List.length_pos_of_mem h.mem
  rw [List.length_map, h.crn.len] at h1 h2
  exact ⟨h2, h1⟩
theorem PSt.pop {x : Hdr} {p d : Nat} (h : PSt F G l w bx n cs g m c R gq off (p + 1) (d + 1) (x :: T) wr) : PSt F G l w bx n cs g m c R gq (off + 1) p d T wr :=
  ⟨h.crn, h.sl, h.mc, h.c63, h.mem, h.rch, h.sub.pop, fun t ht => h.row t (List.mem_cons_of_mem _ ht), fun t ht => h.tin t (List.mem_cons_of_mem _ ht), h.ne, by have := h.nm; omega, h.box, h.keeps⟩
theorem PSt.pop0 {x : Hdr} (h : PSt F G l w bx n cs g m c R gq off 1 1 (x :: T) wr) : PSt F G l w bx n cs g m c R gq off 0 0 T wr :=
  ⟨h.crn, h.sl, h.mc, h.c63, h.mem, h.rch, h.sub.pop0, fun t ht => h.row t (List.mem_cons_of_mem _ ht), fun t ht => h.tin t (List.mem_cons_of_mem _ ht), h.ne, by omega, h.box, h.keeps⟩
theorem PSt.add (h : PSt F G l w bx n cs g m c R gq off nq cq T wr) {w6 w9 : World} (k : Keeps wr w6) {g' m' c' : Nat} {R' : List Hdr} {y : Hdr} (hC : Crn w6 w.heap.size (some ⟨g', 0, none⟩) m' R') (hc : R'.map (·.l) = insL y.l (R.map (·.l))) (hm : m < m') (hmc : m' ≤ c' ∧ c' ≤ 9223372036854775807) (hge : wr.heap.size ≤ g')
    (hy : OwnInts wr w.heap.size (some ⟨y.g, 0, none⟩) y.l.length y.d y.l) (hr : Rch F G n l y.l) {gq' off' cq' : Nat} (hS : SubQ w9 w.heap.size gq' off' (nq + 1) cq' (T ++ [y])) (hg : w6.grownBy w9 (some gq)) (hor : gq' = gq ∨ w6.heap.size ≤ gq') :
    PSt F G l w bx n cs g' m' c' R' gq' off' (nq + 1) cq' (T ++ [y]) w9 := by
  obtain ⟨ct, hq⟩ := (h.sub.keeps k).blk
  have hql := h.sub.lt
  have hks := k.size
  have hgl := (hC.lt (by omega)).2
  refine ⟨hC.grown hg hq (.inr (by omega)), by rw [hc]; exact sl_insL _ h.sl, hmc.1, hmc.2, by rw [hc, mem_insL]; exact .inr h.mem, fun x hx => ?_, hS, fun t ht => ?_, fun t ht => ?_, by omega, by have := h.nm; omega, (h.box.keeps k).grown hg (fun e => ?_), ?_⟩
  · rw [hc, mem_insL] at hx
    rcases hx with rfl | hx
    · exact hr
    · exact h.rch x hx
  · rcases List.mem_append.1 ht with e | e
    · exact ((h.row t e).keeps k).grown hg hq (by decide)
    · rw [List.mem_singleton] at e
      subst e
      exact (hy.keeps k).grown hg hq (by decide)
  · rw [hc, mem_insL]
    rcases List.mem_append.1 ht with e | e
    · exact .inr (h.tin t e)
    · rw [List.mem_singleton] at e
      subst e
      exact .inl rfl
  · have e2 : bx = gq := by simpa using e
    subst e2
    exact blk_ne (h.box.keeps k) hq (by decide) rfl
  · exact (h.keeps.step k).grownAt hg h.sub.1
/-- The nexts R2 of the crowd X that was taken, of which those ahead of j are there. -/
structure JSt (F G : Nat → Nat → Nat) (n lo4 g2 k2 j m0 n0 : Nat) (X : List Int) (R2 : List Hdr) (m : Nat) (R : List Hdr) (gq nq : Nat) (T : List Hdr) (wr : World) : Prop where
  crn : Crn wr lo4 (some ⟨g2, 0, none⟩) k2 R2
  ne : k2 = 0 ∨ g2 ≠ gq
  cl : ∀ x ∈ R.map (·.l), x ∈ T.map (·.l) ∨ x = X ∨ ∀ y ∈ nextL F G n x, y ∈ R.map (·.l)
  nin : ∀ q, q < j → (R2.getD q default).l ∈ R.map (·.l)
  xin : X ∈ R.map (·.l)
  cnt : m0 ≤ m ∧ nq + m0 ≤ n0 + m
variable {lo4 g2 k2 j m0 n0 : Nat} {X : List Int} {R2 : List Hdr}
theorem JSt.step (h : JSt F G n lo4 g2 k2 j m0 n0 X R2 m R gq nq T wr) (k : Keeps wr w') : JSt F G n lo4 g2 k2 j m0 n0 X R2 m R gq nq T w' :=
  ⟨h.crn.keeps k, h.ne, h.cl, h.nin, h.xin, h.cnt⟩
theorem JSt.skip (h : JSt F G n lo4 g2 k2 j m0 n0 X R2 m R gq nq T wr) (hy : (R2.getD j default).l ∈ R.map (·.l)) : JSt F G n lo4 g2 k2 (j + 1) m0 n0 X R2 m R gq nq T wr :=
  ⟨h.crn, h.ne, h.cl, fun q hq => by
    by_cases e : q = j
    · subst e; exact hy
    · exact h.nin q (by omega), h.xin, h.cnt⟩
theorem JSt.add (h : JSt F G n lo4 g2 k2 j m0 n0 X R2 m R gq nq T wr) (hP : PSt F G l w bx n cs g m c R gq off nq cq T wr) {w6 w9 : World} (k : Keeps wr w6) {m' : Nat} {R' : List Hdr} (hm : m' = m + 1) (hc : R'.map (·.l) = insL (R2.getD j default).l (R.map (·.l)))
    (hg : w6.grownBy w9 (some gq)) {gq' : Nat} (hor : gq' = gq ∨ w6.heap.size ≤ gq') : JSt F G n lo4 g2 k2 (j + 1) m0 n0 X R2 m' R' gq' (nq + 1) (T ++ [R2.getD j default]) w9 := by
  obtain ⟨ct, hq⟩ := (hP.sub.keeps k).blk
  have hks := k.size
  refine ⟨(h.crn.keeps k).grown hg hq h.ne, ?_, fun x hx => ?_, fun q hq' => ?_, ?_, by have := h.cnt; omega⟩
  · rcases h.ne with e | e
    · exact .inl e
    · by_cases hk : k2 = 0
      · exact .inl hk
      · have := (h.crn.lt hk).2
        exact .inr (by omega)
  · rw [hc, mem_insL] at hx
    rcases hx with rfl | hx
    · exact .inl (by rw [List.map_append]; exact List.mem_append_right _ (by simp))
    · rcases h.cl x hx with e | e | e
      · exact .inl (by rw [List.map_append]; exact List.mem_append_left _ e)
      · exact .inr (.inl e)
      · exact .inr (.inr fun y hy => by rw [hc, mem_insL]; exact .inr (e y hy))
  · rw [hc, mem_insL]
    by_cases e : q = j
    · subst e; exact .inl rfl
    · exact .inr (h.nin q (by omega))
  · rw [hc, mem_insL]; exact .inr h.xin
end
def slLen : Value → Nat
  | .slice _ n _ => n
  | _ => 0
set_option maxRecDepth 100000 in
set_option maxHeartbeats 8000000 in
theorem reached_any (S A B C : Option Addr) (n cS cA cB cC : Nat) (s : Nat → Int) (rA rB : Nat → Option Addr × Nat × Nat) (F G : Nat → Nat → Nat) (l : List Int) (w : World) (hR : RulN w S n s A rA F B rB G) (hl : Crw n l) (hC : Ints w C n (fun i => l.getD i 0)) :
    Calls Tryz.prog 53 #[.agg #[.slice S n cS, .slice A n cA, .slice B n cB], .slice C n cC] w fun e w' => ∃ R g m c, e = .returned (.slice (some ⟨g, 0, none⟩) m c) ∧ R.map (·.l) = rchL F G n l ∧ (∀ x ∈ R.map (·.l), Rch F G n l x) ∧ Crn w' w.heap.size (some ⟨g, 0, none⟩) m R ∧ (m ≤ c ∧ c ≤ 9223372036854775807) ∧ Keeps w w' := by
  have hn1 := hR.n1
  have hn4 := hR.n4
  have HR := Lib.hid hR
  have HW := Lib.hid hl
  have HWL := Lib.hid hl.len
  obtain ⟨dC, oC, rfl, _⟩ := hC 0 (by omega)
  have HC : Hid (∀ i, i < n → w.cell? ⟨dC, oC + i, none⟩ = some (.int .i64 (l.getD i 0))) := Lib.hid (fun i hi => by
    obtain ⟨_, _, e, hc⟩ := hC i hi
    cases e
    exact hc)
  clear hR hl hC
  have HB0 : Hid (Blk (w.alloc (.cells #[.slice S n cS, .slice A n cA, .slice B n cB] 54)) w.heap.size 54 #[.slice S n cS, .slice A n cA, .slice B n cB]) := Lib.hid (Blk.new w _ _)
  have HK0 : Hid (Keeps w (w.alloc (.cells #[.slice S n cS, .slice A n cA, .slice B n cB] 54))) := Lib.hid (Keeps.alloc w _)
  go_enter Tryz.func53, Tryz.ntmps53
  go_upto_region 1 with fail
  generalize w.alloc (.cells #[.slice S n cS, .slice A n cA, .slice B n cB] 54) = w1 at *
  go_upto_region 2 with (first | (at_builtin; go_loud (refine wp_spread_int rfl _ _ rfl w1.heap.size (some ⟨w1.heap.size, 0, none⟩) 0 0 [] _ rfl (OwnInts.made _ _ (Nat.le_refl _)) dC oC n cC (fun i => l.getD i 0) rfl (fun i hi => cell_keeps (Keeps.alloc _ _) (cell_keeps HK0.out (HC.out i hi))) (by omega) (by omega) (by simp) ?_; intro g8 c8 w2 hO2 hg2; have hO2 : OwnInts w2 w1.heap.size (some ⟨g8, 0, none⟩) n c8 l := (by have h := hO2; rw [Nat.zero_add, List.nil_append] at h; exact (il_list l n HWL.out) ▸ h); have hK2 : Keeps w1 w2 := (Keeps.alloc w1 _).grown (OwnInts.made w1 w1.heap.size (Nat.le_refl _)) (Nat.le_refl _) hg2; have HB2 := Lib.hid (HB0.out.keeps hK2); have HK2 := Lib.hid (HK0.out.step hK2); have HO2 := Lib.hid hO2; rw [Nat.zero_add]; clear hO2 hg2 hK2)))
  have HS1 : Hid (w.heap.size ≤ w1.heap.size) := Lib.hid HK0.out.size
  have HBT := Lib.hid (HB2.out.keeps (Keeps.alloc w2 (.cells #[.slice (some ⟨g8, 0, none⟩) n c8] 45)))
  have HKT := Lib.hid (HK2.out.step (Keeps.alloc w2 (.cells #[.slice (some ⟨g8, 0, none⟩) n c8] 45)))
  have HOT : Hid (Crn (w2.alloc (.cells #[.slice (some ⟨g8, 0, none⟩) n c8] 45)) w.heap.size (some ⟨w2.heap.size, 0, none⟩) 1 [⟨g8, c8, c8, l⟩]) := Lib.hid (by
    have hs2 := HK2.out.size
    have hs1 := HS1.out
    refine ⟨rfl, .inr ⟨w2.heap.size, _, rfl, hs2, Blk.new w2 _ _, ?_⟩, fun x hx => ?_⟩
    · simp only [List.map_cons, List.map_nil]
      unfold Hdr.v
      rw [HWL.out]
      rfl
    · rw [List.mem_singleton] at hx
      subst hx
      have := (HO2.out.mono hs1).keeps (Keeps.alloc w2 (.cells #[.slice (some ⟨g8, 0, none⟩) n c8] 45))
      rw [← HWL.out] at this
      rw [HWL.out] at this ⊢
      exact this)
  have HGT : Hid (w2.heap.size < (w2.alloc (.cells #[.slice (some ⟨g8, 0, none⟩) n c8] 45)).heap.size) := Lib.hid (by simp)
  clear HB0 HK0 HB2 HK2 HO2
  generalize w2.alloc (.cells #[.slice (some ⟨g8, 0, none⟩) n c8] 45) = w3 at *
  generalize w2.heap.size = gt at *
  as_aux_lemma =>
    go_wp2_with (first | (at_builtin; go_loud (refine wp_spread_int rfl _ _ rfl w3.heap.size (some ⟨w3.heap.size, 0, none⟩) 0 0 [] _ rfl (OwnInts.made _ _ (Nat.le_refl _)) dC oC n cC (fun i => l.getD i 0) rfl (fun i hi => cell_keeps (Keeps.alloc _ _) (cell_keeps HKT.out (HC.out i hi))) (by omega) (by omega) (by simp) ?_; intro g9 c9 w2 hO2 hg2; have hO2 : OwnInts w2 w3.heap.size (some ⟨g9, 0, none⟩) n c9 l := (by have h := hO2; rw [Nat.zero_add, List.nil_append] at h; exact (il_list l n HWL.out) ▸ h); have hK2 : Keeps w3 w2 := (Keeps.alloc w3 _).grown (OwnInts.made w3 w3.heap.size (Nat.le_refl _)) (Nat.le_refl _) hg2; have HK4 := Lib.hid hK2; have HO2 := Lib.hid hO2; rw [Nat.zero_add]; clear hO2 hg2 hK2)))
    have HP : Hid (PSt F G l w w.heap.size n #[.slice S n cS, .slice A n cA, .slice B n cB] gt 1 1 [⟨g8, c8, c8, l⟩] w2.heap.size 0 1 1 [⟨g9, c9, c9, l⟩] (w2.alloc (.cells #[.slice (some ⟨g9, 0, none⟩) n c9] 45)) ∧ ∀ x ∈ [(⟨g8, c8, c8, l⟩ : Hdr)].map (·.l), x ∈ [(⟨g9, c9, c9, l⟩ : Hdr)].map (·.l) ∨ ∀ y ∈ nextL F G n x, y ∈ [(⟨g8, c8, c8, l⟩ : Hdr)].map (·.l)) := Lib.hid (by
      have hk := HK4.out.step (Keeps.alloc w2 (.cells #[.slice (some ⟨g9, 0, none⟩) n c9] 45))
      have hs4 := HK4.out.size
      have hst := HKT.out.size
      have hgt := HGT.out
      refine ⟨⟨HOT.out.keeps hk, by unfold SL; simp, Nat.le_refl _, by omega, by simp, fun x hx => ?_, ?_, fun t ht => ?_, fun t ht => ?_, by omega, Nat.le_refl _, HBT.out.keeps hk, HKT.out.step hk⟩, fun x hx => .inl hx⟩
      · simp only [List.map_cons, List.map_nil, List.mem_singleton] at hx
        subst hx
        exact .refl
      · have h := SubQ.new w2 w.heap.size ⟨g9, c9, c9, l⟩ (by omega)
        unfold Hdr.v at h
        rw [HWL.out] at h
        exact h
      · rw [List.mem_singleton] at ht
        subst ht
        have h := (HO2.out.mono hst).keeps (Keeps.alloc w2 (.cells #[.slice (some ⟨g9, 0, none⟩) n c9] 45))
        rw [← HWL.out] at h
        rw [HWL.out] at h ⊢
        exact h
      · rw [List.mem_singleton] at ht
        subst ht
        simp)
    clear HBT HKT HOT HGT HK4 HO2
    go_loopw [5, 6] (fun o t wr => ∃ (g m c : Nat) (R : List Hdr) (gq off nq cq : Nat) (T : List Hdr), o = .slice (some ⟨g, 0, none⟩) m c ∧ t = .slice (some ⟨gq, off, none⟩) nq cq ∧ Hid (PSt F G l w w.heap.size n #[.slice S n cS, .slice A n cA, .slice B n cB] g m c R gq off nq cq T wr ∧ ∀ x ∈ R.map (·.l), x ∈ T.map (·.l) ∨ ∀ y ∈ nextL F G n x, y ∈ R.map (·.l))) (fun o t _ => 2 * (1297 - slLen o) + slLen t)
    case atStart => exact ⟨_, 1, 1, _, _, 0, 1, 1, _, rfl, rfl, HP⟩
    case round =>
      clear HP
      obtain ⟨g, m, c, R, gq, off, nq, cq, T, rfl, rfl, HP⟩ := hrel
      have hm := HP.out.1.le HR.out.rul HW.out hn4
      cases T with
      | nil =>
        obtain rfl : nq = 0 := HP.out.1.sub.len.symm
        have HEQ : Hid (R.map (·.l) = rchL F G n l) := Lib.hid ((rchL_eq (F := F) (G := G) (n := n) (c := l) HP.out.1.sl (fun x => ⟨HP.out.1.rch x, fun h => by
          induction h with
          | refl => exact HP.out.1.mem
          | step _ h5 ih =>
            rcases HP.out.2 _ ih with e | e
            · simp at e
            · exact e _ h5⟩)).symm)
        go_wp2_with fail
        go_ret
        exact ⟨R, g, m, c, rfl, HEQ.out, fun x hx => HP.out.1.rch _ (List.mem_map_of_mem hx), HP.out.1.crn, ⟨HP.out.1.mc, HP.out.1.c63⟩, HP.out.1.keeps⟩
      | cons X T =>
        obtain ⟨p, rfl⟩ : ∃ p, nq = p + 1 := ⟨nq - 1, by have := HP.out.1.sub.len; simp at this; omega⟩
        have hcap := HP.out.1.sub.cap
        obtain ⟨d, rfl⟩ : ∃ d, cq = d + 1 := ⟨cq - 1, by omega⟩
        have hq0 : (0 : Int) < ((p + 1 : Nat) : Int) := by omega
        have HXI : Hid (X.l ∈ R.map (·.l)) := Lib.hid (HP.out.1.tin X (List.mem_cons_self ..))
        have HX : Hid (Crw n X.l) := Lib.hid (HP.out.1.crw HR.out.rul HW.out _ HXI.out)
        have HRX : Hid (Rch F G n l X.l) := Lib.hid (HP.out.1.rch _ HXI.out)
        have hcell := HP.out.1.sub.cell 0 (by omega)
        rw [Nat.add_zero, List.getD_cons_zero] at hcell
        unfold Hdr.v at hcell
        rw [HX.out.len] at hcell
        have HXO := Lib.hid (HP.out.1.row X (List.mem_cons_self ..)).ints
        rw [HX.out.len] at HXO
        have CN : Hid (∀ W, Keeps wr W → Calls Tryz.prog 79 #[.agg #[.slice S n cS, .slice A n cA, .slice B n cB], .slice (some ⟨X.g, 0, none⟩) n X.c] W fun e w' => ∃ R g m c, e = .returned (.slice (some ⟨g, 0, none⟩) m c) ∧ R.map (·.l) = nextL F G n X.l ∧ Crn w' W.heap.size (some ⟨g, 0, none⟩) m R ∧ (m ≤ c ∧ c ≤ 9223372036854775807) ∧ Keeps W w') := Lib.hid (fun W hK => snextOf_any S A B (some ⟨X.g, 0, none⟩) n cS cA cB X.c s rA rB F G X.l W (HR.out.keeps (HP.out.1.keeps.step hK)) HX.out (HXO.out.keeps hK))
        have b0 : wr.cell? ⟨w.heap.size, 0, none⟩ = some (.slice S n cS) := HP.out.1.box.cell 0
        have b1 : wr.cell? ⟨w.heap.size, 1, none⟩ = some (.slice A n cA) := HP.out.1.box.cell 1
        have b2 : wr.cell? ⟨w.heap.size, 2, none⟩ = some (.slice B n cB) := HP.out.1.box.cell 2
        have HLO : Hid (gq < wr.heap.size) := Lib.hid HP.out.1.sub.lt
        have hlo4 := HP.out.1.keeps.size
        obtain ⟨xg, hxg⟩ : ∃ x, x = X.g := ⟨_, rfl⟩
        obtain ⟨xc, hxc⟩ : ∃ x, x = X.c := ⟨_, rfl⟩
        rw [← hxg, ← hxc] at hcell CN
        clear hxg hxc HXO
        go_upto_region 4 with fail
        go_region_law (first | (refine step_go 79 #[.tmp 21, .tmp 24] #[54, 45] rfl rfl (fun _ _ => rfl) (by simp [Act.eval]) (CN.out _ (Keeps.drew1 _)) ?_; rintro e w4 ⟨R2, g2, k2, c2, rfl, hc2, hR2, _, hk2⟩; refine ⟨_, rfl, ?_⟩))
        all_goals
          simp only [Act.put, List.getElem_toArray, List.getElem_cons_succ, List.getElem_cons_zero, List.setIfInBounds_toArray, List.set_cons_succ, List.set_cons_zero]
          have HC2 := Lib.hid hc2
          have HR2 := Lib.hid hR2
          have hk2l := hR2.len
          have HY2 : Hid (∀ j, j < k2 → (R2.getD j default).l ∈ nextL F G n X.l) := Lib.hid (fun j hj => by rw [← HC2.out]; exact getD_map (by omega))
          have hk2b : k2 ≤ 1296 := by
            have h1 := crowds_le (L := nextL F G n X.l) hn4 (sl_canL _).nodup (fun x hx => (next_crw HR.out.rul HX.out hx).1)
            rw [← HC2.out, List.length_map] at h1
            omega
          have HP4 : Hid (PSt F G l w w.heap.size n #[.slice S n cS, .slice A n cA, .slice B n cB] g m c R gq off (p + 1) (d + 1) (X :: T) w4 ∧ ∀ x ∈ R.map (·.l), x ∈ (X :: T).map (·.l) ∨ ∀ y ∈ nextL F G n x, y ∈ R.map (·.l)) := Lib.hid ⟨HP.out.1.step ((Keeps.drew1 _).step hk2), HP.out.2⟩
          have HNE : Hid (k2 = 0 ∨ g2 ≠ gq) := Lib.hid (by
            by_cases hk : k2 = 0
            · exact .inl hk
            · have h1 := (hR2.lt hk).1
              have h2 := HLO.out
              have h3 : wr.drew.heap.size = wr.heap.size := rfl
              exact .inr (by omega))
          obtain ⟨mm, hmm⟩ : ∃ x, x = m := ⟨_, rfl⟩
          obtain ⟨nn, hnn⟩ : ∃ x, x = p := ⟨_, rfl⟩
          have HJ4 : Hid (JSt F G n wr.heap.size g2 k2 0 mm nn X.l R2 m R gq p T w4) := Lib.hid ⟨HR2.out, HNE.out, fun x hx => by
            rcases HP4.out.2 x hx with e | e
            · rw [List.map_cons] at e
              rcases List.mem_cons.1 e with e | e
              · exact .inr (.inl e)
              · exact .inl e
            · exact .inr (.inr e), fun q hq => absurd hq (Nat.not_lt_zero _), HXI.out, by omega⟩
          have HMN := Lib.hid (And.intro hmm hnn)
          clear hc2 hR2 hk2 hk2l CN b0 b1 b2 HP hcell HNE HR2 HLO hmm hnn
          by_cases hd : d = 0
          case' pos =>
            subst hd
            obtain rfl : p = 0 := by have := HP4.out.1.sub.cap; omega
            have HP5 : Hid (PSt F G l w w.heap.size n #[.slice S n cS, .slice A n cA, .slice B n cB] g m c R gq off 0 0 T w4) := Lib.hid HP4.out.1.pop0
            clear HP4 hcap hq0
            simp only [Nat.zero_add, Int.cast_ofNat_Int, Int.zero_add]
            go_wp2_with fail
          case' neg =>
            have HP5 : Hid (PSt F G l w w.heap.size n #[.slice S n cS, .slice A n cA, .slice B n cB] g m c R gq (off + 1) p d T w4) := Lib.hid HP4.out.1.pop
            clear HP4 hq0
            go_wp2_with fail
          all_goals
            as_aux_lemma =>
              generalize hlo : wr.heap.size = lo4 at *
              go_loopw [8, 5, 6] (fun i o t wi => ∃ (j g m c : Nat) (R : List Hdr) (gq off nq cq : Nat) (T : List Hdr), j ≤ k2 ∧ i = .int .i64 j ∧ o = .slice (some ⟨g, 0, none⟩) m c ∧ t = .slice (some ⟨gq, off, none⟩) nq cq ∧ Hid (PSt F G l w w.heap.size n #[.slice S n cS, .slice A n cA, .slice B n cB] g m c R gq off nq cq T wi ∧ JSt F G n lo4 g2 k2 j mm nn X.l R2 m R gq nq T wi)) (fun i _ _ _ => k2 - (intOf i).toNat)
              case atStart => exact ⟨0, g, m, c, R, gq, _, _, _, T, by omega, rfl, rfl, rfl, Lib.hid ⟨HP5.out, HJ4.out⟩⟩
              case round =>
                clear HP5 HJ4 hm
                obtain ⟨j, g, m, c, R, gq, off, nq, cq, T, hj, rfl, rfl, rfl, HP⟩ := hrel
                have hm := HP.out.1.le HR.out.rul HW.out hn4
                by_cases hltj : j < k2
                · have hji : (j : Int) < k2 := by omega
                  have HYN := Lib.hid (HY2.out j hltj)
                  have HYC := Lib.hid (next_crw HR.out.rul HX.out HYN.out).1
                  have hcy := HP.out.2.crn.cell j hltj
                  have HYO := Lib.hid ((HP.out.2.crn.rowD j hltj).mono hlo4)
                  have HYL := Lib.hid HYC.out.len
                  have HYR : Hid (Rch F G n l (R2.getD j default).l) := Lib.hid (HRX.out.step HYN.out)
                  unfold Hdr.v at hcy
                  rw [HYL.out] at hcy
                  obtain ⟨y, hy⟩ : ∃ y, y = R2.getD j default := ⟨_, rfl⟩
                  rw [← hy] at hcy HYO HYL HYC HYN HYR
                  have HYE := Lib.hid hy
                  clear hy
                  have CI := Lib.hid (insert_any g m c w.heap.size n R y wr HP.out.1.crn HYO.out (by omega) HYL.out (HP.out.1.lens HR.out.rul HW.out) (by omega) HP.out.1.mc HP.out.1.c63 HP.out.1.keeps.size)
                  unfold Hdr.v at CI
                  rw [HYL.out] at CI
                  go_wp2_with fail
                  refine CI.out.mono ?_
                  rintro e w6 ⟨g', m', c', R', rfl, hc', hsub', hC', hmc', hk6, hor6⟩
                  have HML : Hid ((m' = m ∧ y.l ∈ R.map (·.l)) ∨ m' = m + 1) := Lib.hid (by
                    have h1 := congrArg List.length hc'
                    have h2 := insL_len y.l (R.map (·.l))
                    by_cases hin : y.l ∈ R.map (·.l)
                    · rw [insL_mem HP.out.1.sl hin] at h1
                      rw [List.length_map, hC'.len, List.length_map, HP.out.1.crn.len] at h1
                      exact .inl ⟨h1, hin⟩
                    · rw [insL_new hin] at h1
                      rw [List.length_map, hC'.len, List.length_map, HP.out.1.crn.len] at h1
                      exact .inr h1)
                  rcases HML.out with ⟨rfl, hin⟩ | rfl
                  · have HP7 : Hid (PSt F G l w w.heap.size n #[.slice S n cS, .slice A n cA, .slice B n cB] g m' c R gq off nq cq T w6 ∧ JSt F G n lo4 g2 k2 (j + 1) mm nn X.l R2 m' R gq nq T w6) := Lib.hid ⟨HP.out.1.step hk6, (HP.out.2.step hk6).skip (by rw [← HYE.out]; exact hin)⟩
                    clear HML CI hc' hsub' hC' hmc' hk6 hor6 hin HP hcy
                    go_wp2_with fail
                    go_roundw
                    case rel => exact ⟨j + 1, g, m', c, R, gq, off, nq, cq, T, by omega, by go_num, rfl, rfl, HP7⟩
                    case measure => simp [intOf]; omega
                  · have hmi : (m : Int) < ((m + 1 : Nat) : Int) := by omega
                    have hge : wr.heap.size ≤ g' := by
                      rcases hor6 with h | h
                      · exact h
                      · omega
                    have c6 := cell_keeps hk6 hcy
                    have HQ6 := Lib.hid (HP.out.1.sub.keeps hk6)
                    have hs6 : w.heap.size ≤ w6.heap.size := (HP.out.1.keeps.step hk6).size
                    have HC' := Lib.hid hC'
                    have HCC := Lib.hid (And.intro hc' hmc')
                    have HK6 := Lib.hid hk6
                    have hnm := HP.out.1.nm
                    clear HML CI hc' hsub' hC' hmc' hk6 hor6 hcy
                    go_wp2_with (first | (at_builtin; refine wp_app_subq rfl _ _ rfl w.heap.size gq off nq cq T w6 rfl HQ6.out y _ (by unfold Hdr.v; rw [HYL.out]) _ rfl rfl (by omega) hs6 ?_; intro gq9 off9 cq9 w9 hS9 hg9 hor9))
                    have HP9 : Hid (PSt F G l w w.heap.size n #[.slice S n cS, .slice A n cA, .slice B n cB] g' (m + 1) c' R' gq9 off9 (nq + 1) cq9 (T ++ [y]) w9 ∧ JSt F G n lo4 g2 k2 (j + 1) mm nn X.l R2 (m + 1) R' gq9 (nq + 1) (T ++ [y]) w9) := Lib.hid ⟨HP.out.1.add HK6.out HC'.out HCC.out.1 (by omega) HCC.out.2 hge HYO.out HYR.out hS9 hg9 hor9, by
                      have h := HP.out.2.add HP.out.1 HK6.out rfl (by rw [← HYE.out]; exact HCC.out.1) hg9 hor9
                      rw [← HYE.out] at h
                      exact h⟩
                    clear HP HC' HCC HK6 hS9 hg9 hor9 c6 HQ6 hge hmi
                    go_wp2_with fail
                    go_roundw
                    case rel => exact ⟨j + 1, g', m + 1, c', R', gq9, off9, nq + 1, cq9, T ++ [y], by omega, by go_num, rfl, rfl, HP9⟩
                    case measure => simp [intOf]; omega
                · obtain rfl : j = k2 := by omega
                  have HPF : Hid (∀ x ∈ R.map (·.l), x ∈ T.map (·.l) ∨ ∀ y ∈ nextL F G n x, y ∈ R.map (·.l)) := Lib.hid (fun x hx => by
                    rcases HP.out.2.cl x hx with e | e | e
                    · exact .inl e
                    · subst e
                      refine .inr fun y hy => ?_
                      rw [← HC2.out] at hy
                      obtain ⟨q, hq, rfl⟩ := mem_mapD hy
                      rw [HP.out.2.crn.len] at hq
                      exact HP.out.2.nin q hq
                    · exact .inr e)
                  have hcnt := HP.out.2.cnt
                  have hmn := HMN.out
                  go_wp2_with fail
                  go_roundw
                  case rel => exact ⟨g, m, c, R, gq, off, nq, cq, T, rfl, rfl, Lib.hid ⟨HP.out.1, HPF.out⟩⟩
                  case measure => simp [slLen]; omega
end Go.Proofs.YtlniogfinofakaaGreatDoor
/-
  NextOf and ReachedOf of both, for any rules and numbers. Conditions: bounds on lengths.
-/
namespace Go.Proofs.YtlniogfinofakaaGreatDoor
set_option maxRecDepth 100000
set_option maxRecDepth 100000
set_option linter.unusedVariables false
open Go.RowKit

def natF (f : Nat → Nat → Int) : Nat → Nat → Nat := fun i j => (f i j).toNat
theorem Crn.lower {w : World} {lo lo' m : Nat} {A : Option Addr} {R : List Hdr} (h : Crn w lo A m R) (hl : lo' ≤ lo) : Crn w lo' A m R := by
  refine ⟨h.len, ?_, fun x hx => (h.row x hx).mono hl⟩
  rcases h.top with h0 | ⟨g, cur, e, h1, h2, h3⟩
  · exact .inl h0
  · exact .inr ⟨g, cur, e, by omega, h2, h3⟩
end Go.Proofs.YtlniogfinofakaaGreatDoor
