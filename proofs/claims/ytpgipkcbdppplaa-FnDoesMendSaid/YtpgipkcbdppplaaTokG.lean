/-
  What the search of the program keeps: its maps, what is on the way, and what becomes of memory. Plain laws; a solution.
-/
import Derived.Test.YtpgipkcbdppplaaIter
import Derived.Test.YtpgipkcbdppplaaMemo
import Derived.Test.YtpgipkcbdppplaaTokW
namespace Go.Proofs.Ytpgipkcbdppplaa
set_option linter.unusedVariables false
open Go.RowKit

section
variable {w w' w2 : World} {b b1 b2 B n : Nat} {f : Nat → Int} {p : Nat → Prop}
theorem own_eq {R : Value → Option (DataW Unit × List MemPlace)} {D : DataW Unit} (h : w.ownsMap Try.prog 3 R b n D) (e : w'.heap[b]? = w.heap[b]?) : w'.ownsMap Try.prog 3 R b n D := by
  obtain ⟨es, clock, hb, F, hs, hD⟩ := h
  exact ⟨es, clock, e.trans hb, F, hs, hD⟩
theorem Memo.same (h : Memo w b B f) (e : w'.heap[b]? = w.heap[b]?) : Memo w' b B f := by
  obtain ⟨D, h1, h2⟩ := h
  exact ⟨D, own_eq h1 e, h2⟩
theorem MSet.same (h : MSet w b n p) (e : w'.heap[b]? = w.heap[b]?) : MSet w' b n p := by
  obtain ⟨D, h1, h2⟩ := h
  exact ⟨D, own_eq h1 e, h2⟩
/-- All is as it was but two blocks and what is new. -/
structure Two (b1 b2 : Nat) (w w' : World) : Prop where
  os : w'.os = w.os
  tape : w'.tape = w.tape
  output : w'.output = w.output
  size : w.heap.size ≤ w'.heap.size
  block : ∀ i, i < w.heap.size → i ≠ b1 → i ≠ b2 → w'.heap[i]? = w.heap[i]?
theorem Two.refl (b1 b2 : Nat) (w : World) : Two b1 b2 w w := ⟨rfl, rfl, rfl, Nat.le_refl _, fun _ _ _ _ => rfl⟩
theorem Two.trans (h : Two b1 b2 w w') (k : Two b1 b2 w' w2) : Two b1 b2 w w2 :=
  ⟨k.os.trans h.os, k.tape.trans h.tape, k.output.trans h.output, Nat.le_trans h.size k.size, fun i hi h1 h2 => (k.block i (Nat.lt_of_lt_of_le hi h.size) h1 h2).trans (h.block i hi h1 h2)⟩
theorem Two.ofKeeps (h : Keeps w w') : Two b1 b2 w w' := ⟨h.os, h.tape, h.output, h.size, fun i hi _ _ => h.block i hi⟩
theorem Two.left {row : Option Nat} (h : w.grownBy w' row) (hr : row = some b1) : Two b1 b2 w w' := ⟨h.os, h.tape, h.output, h.size, fun i hi h1 _ => h.block i hi (fun e => h1 (by rw [hr] at e; simpa using e))⟩
theorem Two.right {row : Option Nat} (h : w.grownBy w' row) (hr : row = some b2) : Two b1 b2 w w' := ⟨h.os, h.tape, h.output, h.size, fun i hi _ h2 => h.block i hi (fun e => h2 (by rw [hr] at e; simpa using e))⟩
theorem Two.blk {T : TypeId} {cs : Array Value} (h : Two b1 b2 w w') (hb : Blk w b T cs) (h1 : b ≠ b1) (h2 : b ≠ b2) : Blk w' b T cs := (h.block b hb.lt h1 h2).trans hb
theorem Two.setCell (h : Two b1 b2 w w') {a : Addr} (ha : w.heap.size ≤ a.block) (v : Value) : Two b1 b2 w (w'.setCell a v) :=
  ⟨h.os, h.tape, h.output, Nat.le_trans h.size (by simp), fun i hi h1 h2 => (Below.heap_setCell w' a v i (by omega)).trans (h.block i hi h1 h2)⟩
theorem Two.keepsTo (h : Two b1 b2 w w') (k : Keeps w' w2) : Two b1 b2 w w2 := h.trans (Two.ofKeeps k)
theorem map_ne {a : Addr} {v : Value} {D : DataW Unit} {R : Value → Option (DataW Unit × List MemPlace)} (h : w.ownsMap Try.prog 3 R b n D) (hc : w.cell? a = some v) : a.block ≠ b := fun e => by
  obtain ⟨o, ho, hcs⟩ := cells_of_cell hc
  obtain ⟨es, clock, hb, _⟩ := h
  rw [e, hb] at ho
  cases ho
  cases hcs
theorem Memo.ne (h : Memo w b B f) {a : Addr} {v : Value} (hc : w.cell? a = some v) : a.block ≠ b := by
  obtain ⟨D, h1, _⟩ := h
  exact map_ne h1 hc
theorem MSet.ne (h : MSet w b n p) {a : Addr} {v : Value} (hc : w.cell? a = some v) : a.block ≠ b := by
  obtain ⟨D, h1, _⟩ := h
  exact map_ne h1 hc
theorem Blk.one {T : TypeId} {cs : Array Value} (h : Blk w b T cs) (h0 : 0 < cs.size) : ∃ v, w.cell? ⟨b, 0, none⟩ = some v := ⟨cs[0], by rw [h.cell]; simp [h0]⟩
end
/-- What finds the most moves: its states, its maps. -/
structure WS (w : World) (bw b1 b2 k N : Nat) (f : Nat → Int) (O : Nat → Prop) : Prop where
  box : Blk w bw 61 #[.int .i64 k, .map (some b1), .map (some b2)]
  memo : Memo w b1 N f
  opens : MSet w b2 N O
  ne : b1 ≠ b2
  low : ∀ y, O y → y < N
section
variable {w w' : World} {bw b1 b2 k N n : Nat} {f : Nat → Int} {O : Nat → Prop} {s : Nat → Nat}
theorem WS.keeps (h : WS w bw b1 b2 k N f O) (kk : Keeps w w') : WS w' bw b1 b2 k N f O := ⟨h.box.keeps kk, h.memo.keeps kk, h.opens.keeps kk, h.ne, h.low⟩
theorem WS.bw1 (h : WS w bw b1 b2 k N f O) : bw ≠ b1 := by
  obtain ⟨v, hv⟩ := h.box.one (by simp)
  exact h.memo.ne hv
theorem WS.bw2 (h : WS w bw b1 b2 k N f O) : bw ≠ b2 := by
  obtain ⟨v, hv⟩ := h.box.one (by simp)
  exact h.opens.ne hv
theorem WS.set (h : WS w bw b1 b2 k N f O) {a : Addr} {v u : Value} (hc : w.cell? a = some u) (hb : a.block ≠ bw) : WS (w.setCell a v) bw b1 b2 k N f O :=
  ⟨h.box.set_other a v (fun e => hb e.symm), h.memo.same (Below.heap_setCell w a v _ (fun e => h.memo.ne hc e.symm)), h.opens.same (Below.heap_setCell w a v _ (fun e => h.opens.ne hc e.symm)), h.ne, h.low⟩
theorem WS.far (h : WS w bw b1 b2 k N f O) {a : Addr} (v : Value) (h0 : a.block ≠ bw) (h1 : a.block ≠ b1) (h2 : a.block ≠ b2) : WS (w.setCell a v) bw b1 b2 k N f O :=
  ⟨h.box.set_other a v (fun e => h0 e.symm), h.memo.same (Below.heap_setCell w a v _ (fun e => h1 e.symm)), h.opens.same (Below.heap_setCell w a v _ (fun e => h2 e.symm)), h.ne, h.low⟩
theorem WS.same (h : WS w bw b1 b2 k N f O) (h0 : w'.heap[bw]? = w.heap[bw]?) (h1 : w'.heap[b1]? = w.heap[b1]?) (h2 : w'.heap[b2]? = w.heap[b2]?) : WS w' bw b1 b2 k N f O :=
  ⟨h0.trans h.box, h.memo.same h1, h.opens.same h2, h.ne, h.low⟩
theorem WS.open (h : WS w bw b1 b2 k N f O) {x : Nat} (hx : x < N) {m : Nat} (hs : MSet w' b2 m (fun z => O z ∨ z = x)) (hg : w.grownBy w' (some b2)) : WS w' bw b1 b2 k N f (fun z => O z ∨ z = x) :=
  have hl : ∀ y, (O y ∨ y = x) → y < N := fun y hy => hy.elim (h.low y) (fun e => e ▸ hx)
  ⟨h.box.grown hg (by have := h.bw2; simpa using this), h.memo.kept hg (by have := h.ne; simpa using this), hs.few' N hl, h.ne, hl⟩
theorem WS.shut (h : WS w bw b1 b2 k N f (fun z => O z ∨ z = n)) (hn : ¬ O n) (hs : MSet w' b2 N (fun z => (O z ∨ z = n) ∧ z ≠ n)) (hg : w.grownBy w' (some b2)) : WS w' bw b1 b2 k N f O :=
  have e : (fun z => (O z ∨ z = n) ∧ z ≠ n) = O := funext fun z => propext ⟨fun h => h.1.elim id (fun e => absurd e h.2), fun h => ⟨.inl h, fun e => hn (e ▸ h)⟩⟩
  ⟨h.box.grown hg (by have := h.bw2; simpa using this), h.memo.kept hg (by have := h.ne; simpa using this), e ▸ hs, h.ne, fun y hy => h.low y (.inl hy)⟩
theorem WS.stored (h : WS w bw b1 b2 k N f O) (hm : Memo w' b1 N f) (hg : w.grownBy w' (some b1)) : WS w' bw b1 b2 k N f O := by
  refine ⟨h.box.grown hg (by have := h.bw1; simpa using this), hm, ?_, h.ne, h.low⟩
  obtain ⟨D, h1, h2⟩ := h.opens
  exact ⟨D, h1.kept hg (by have := h.ne.symm; simpa using this), h2⟩
theorem Two.cell (h : Two b1 b2 w w') (hW : WS w bw b1 b2 k N f O) {a : Addr} {v : Value} (hc : w.cell? a = some v) : w'.cell? a = some v := by
  rw [World.cell?_of_block (h.block a.block (World.block_lt_of_cell? w a hc) (hW.memo.ne hc) (hW.opens.ne hc))]
  exact hc
theorem Two.ints (h : Two b1 b2 w w') (hW : WS w bw b1 b2 k N f O) {a : Option Addr} {m : Nat} {x : Nat → Int} (hI : Ints w a m x) : Ints w' a m x := fun i hi => by
  obtain ⟨d, off, e, hc⟩ := hI i hi
  exact ⟨d, off, e, h.cell hW hc⟩
/-- At most d numbers are not on the way. -/
def Free (d N : Nat) (O : Nat → Prop) : Prop := ∀ (m : Nat) (y : Nat → Nat), (∀ i, i < m → y i < N ∧ ¬ O (y i)) → (∀ i j, i < m → j < m → y i = y j → i = j) → m ≤ d
theorem Free.start (N : Nat) (O : Nat → Prop) : Free N N O := fun m y h1 h2 => pigeonB N m y (fun i hi => (h1 i hi).1) h2
theorem Free.step {d : Nat} {x : Nat} (h : Free (d + 1) N O) (hx : x < N) (hO : ¬ O x) : Free d N (fun z => O z ∨ z = x) := fun m y h1 h2 => by
  have := h (m + 1) (fun i => if i = m then x else y i) (fun i hi => by
    by_cases e : i = m
    · rw [if_pos e]; exact ⟨hx, hO⟩
    · rw [if_neg e]
      have := h1 i (by omega)
      exact ⟨this.1, fun h => this.2 (.inl h)⟩) (fun i j hi hj e => by
    by_cases ei : i = m
    · by_cases ej : j = m
      · omega
      · rw [if_pos ei, if_neg ej] at e
        exact absurd (.inr e.symm) (h1 j (by omega)).2
    · by_cases ej : j = m
      · rw [if_neg ei, if_pos ej] at e
        exact absurd (.inr e) (h1 i (by omega)).2
      · rw [if_neg ei, if_neg ej] at e
        exact h2 i j (by omega) (by omega) e)
  omega
theorem Free.no {x : Nat} (h : Free 0 N O) (hx : x < N) : O x := by
  by_cases e : O x
  · exact e
  · have := h 1 (fun _ => x) (fun _ _ => ⟨hx, e⟩) (fun i j hi hj _ => by omega)
    omega
/-- What is on the way leads to x. -/
def Path (f : Nat → Int) (O : Nat → Prop) (x : Nat) : Prop := ∀ y, O y → 0 ≤ f y → 0 ≤ f x ∧ f x < f y
theorem Path.neg {x : Nat} (h : Path f O x) (hx : O x) : f x < 0 := by
  by_cases e : 0 ≤ f x
  · have := (h x hx e).2; omega
  · omega
def chS (k n : Nat) (s : Nat → Nat) (i : Nat) : Nat := codeN k (movF k s i) n
theorem Path.child (hf : Sol k n f) (hT : TokS k n s) (hc : 1 < cntB (tokB n s) n) (h : Path f O (codeN k s n)) {i : Nat} (hi : i < n) (ti : tokB n s i = true) : Path f (fun z => O z ∨ z = codeN k s n) (chS k n s i) := fun y hy h0 => by
  have key : 0 ≤ f (codeN k s n) → 0 ≤ f (chS k n s i) ∧ f (chS k n s i) < f (codeN k s n) := fun h0 => by
    rcases hf.opened s hT.lt hc with ⟨h1, _⟩ | ⟨_, h2, _⟩
    · omega
    · exact h2 i hi ti
  rcases hy with hy | rfl
  · have h1 := h y hy h0
    have h2 := key h1.1
    exact ⟨h2.1, by omega⟩
  · exact key h0
/-- The most of the first i moves, all with an end. -/
def PM (k n : Nat) (f : Nat → Int) (s : Nat → Nat) (i : Nat) (m : Int) : Prop :=
  0 ≤ m ∧ (∀ j, j < i → 0 ≤ f (chS k n s ((tks n s n).getD j 0)) ∧ f (chS k n s ((tks n s n).getD j 0)) < m) ∧ ((i = 0 ∧ m = 0) ∨ ∃ j, j < i ∧ f (chS k n s ((tks n s n).getD j 0)) + 1 = m)
theorem PM.start (k n : Nat) (f : Nat → Int) (s : Nat → Nat) : PM k n f s 0 0 := ⟨by omega, fun j hj => absurd hj (Nat.not_lt_zero _), .inl ⟨rfl, rfl⟩⟩
theorem PM.next {i : Nat} {m v : Int} (h : PM k n f s i m) (hv : v = f (chS k n s ((tks n s n).getD i 0))) (h0 : 0 ≤ v) : PM k n f s (i + 1) (max m (v + 1)) := by
  subst hv
  obtain ⟨h1, h2, h3⟩ := h
  refine ⟨by omega, fun j hj => ?_, .inr ?_⟩
  · by_cases e : j = i
    · subst e; omega
    · have := h2 j (by omega); omega
  · by_cases hle : m ≤ f (chS k n s ((tks n s n).getD i 0)) + 1
    · exact ⟨i, by omega, by omega⟩
    · rcases h3 with h3 | ⟨j, hj, h3⟩
      · omega
      · exact ⟨j, by omega, by omega⟩
theorem PM.last (hf : Sol k n f) (hT : TokS k n s) (hc : 1 < cntB (tokB n s) n) {m : Int} (h : PM k n f s (tks n s n).length m) : m = f (codeN k s n) ∧ 0 ≤ f (codeN k s n) := by
  obtain ⟨h1, h2, h3⟩ := h
  have hlen : (tks n s n).length = cntB (tokB n s) n := tks_len n s n
  have hall : ∀ i, i < n → tokB n s i = true → 0 ≤ f (chS k n s i) ∧ f (chS k n s i) < m := fun i hi ti => by
    obtain ⟨j, hj, e⟩ := List.getElem_of_mem ((tks_mem n s i).2 ⟨hi, ti⟩)
    have := h2 j hj
    rw [List.getD_eq_getElem?_getD, List.getElem?_eq_getElem hj, Option.getD_some, e] at this
    exact this
  rcases h3 with ⟨h3, _⟩ | ⟨j, hj, h3⟩
  · omega
  · obtain ⟨hi, ti⟩ := tks_at n s j hj
    rcases hf.opened s hT.lt hc with ⟨_, i, hi', ti', h4⟩ | ⟨h4, h5, i, hi', ti', h6⟩
    · have h7 : f (chS k n s i) = -1 := h4
      have := hall i hi' ti'
      omega
    · have h7 := hall i hi' ti'
      have h8 : f (chS k n s ((tks n s n).getD j 0)) < f (codeN k s n) := (h5 _ hi ti).2
      have h9 : f (chS k n s i) = f (codeN k s n) - 1 := h6
      omega
theorem sol_neg (hf : Sol k n f) (hT : TokS k n s) (hc : 1 < cntB (tokB n s) n) {i : Nat} (hi : i < n) (ti : tokB n s i = true) (h : f (chS k n s i) = -1) : f (codeN k s n) = -1 := by
  rcases hf.opened s hT.lt hc with ⟨h4, _⟩ | ⟨_, h5, _⟩
  · exact h4
  · have h8 : 0 ≤ f (chS k n s i) := (h5 i hi ti).1
    omega
end
end Go.Proofs.Ytpgipkcbdppplaa
