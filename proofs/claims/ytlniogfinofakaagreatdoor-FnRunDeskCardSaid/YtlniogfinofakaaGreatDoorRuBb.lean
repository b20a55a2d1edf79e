/-
  A range over a function whose rounds are told something of what they are handed. No condition but what the law asks.
-/
import Derived.Test.YtlniogfinofakaaGreatDoorRuAd
import Derived.RangeFuncOwn
namespace Go.Proofs.YtlniogfinofakaaGreatDoor
set_option maxRecDepth 100000
set_option linter.unusedVariables false
open Go.RowKit

/-- All blocks from n₀ on that were there are as they were. -/
structure Above (n₀ : Nat) (W W' : World) : Prop where
  size : W.heap.size ≤ W'.heap.size
  same : ∀ i o, n₀ ≤ i → W.heap[i]? = some o → W'.heap[i]? = some o
theorem Above.refl (n₀ : Nat) (W : World) : Above n₀ W W := ⟨Nat.le_refl _, fun _ _ _ h => h⟩
theorem Above.trans {n₀ : Nat} {X Y Z : World} (h : Above n₀ X Y) (k : Above n₀ Y Z) : Above n₀ X Z := ⟨Nat.le_trans h.size k.size, fun i o hi hx => k.same i o hi (h.same i o hi hx)⟩
theorem Above.ofKeeps {n₀ : Nat} {X Y : World} (h : Keeps X Y) : Above n₀ X Y := ⟨h.size, fun i o _ hx => (h.block i (Array.getElem?_eq_some_iff.1 hx).1).trans hx⟩
theorem Above.setCell {n₀ : Nat} {X Y : World} (h : Above n₀ X Y) {p : Addr} (hp : p.block < n₀) (v : Value) : Above n₀ X (Y.setCell p v) :=
  h.trans ⟨by simp, fun i _ hi hx => (Below.heap_setCell Y p v i (by omega)).trans hx⟩
/-- Cells from n₀ on are as they were. -/
def CellsKept (n₀ : Nat) (W W' : World) : Prop := W.heap.size ≤ W'.heap.size ∧ ∀ i o, n₀ ≤ i → W.heap[i]? = some o → o.isCells = true → W'.heap[i]? = some o
/-- What the loop's own book-keeping does: what lies below n₀ stays, and all cells. -/
structure Moves (n₀ : Nat) (W W' : World) : Prop where
  os : W'.os = W.os
  tape : W'.tape = W.tape
  output : W'.output = W.output
  size : W.heap.size ≤ W'.heap.size
  same : ∀ i o, W.heap[i]? = some o → (i < n₀ ∨ o.isCells = true) → W'.heap[i]? = some o
theorem Moves.ofKeeps {n₀ : Nat} {W W' : World} (h : Keeps W W') : Moves n₀ W W' := ⟨h.os, h.tape, h.output, h.size, fun i _ hx _ => (h.block i (Array.getElem?_eq_some_iff.1 hx).1).trans hx⟩
theorem Moves.put {n₀ l : Nat} {W : World} {o : Obj} (hl : n₀ ≤ l) (h : W.heap[l]? = some o) (hc : o.isCells = false) (o' : Obj) : Moves n₀ W (W.putObj l o') :=
  ⟨rfl, rfl, rfl, by simp, fun i x hx hi => by
    by_cases e : i = l
    · subst e
      rw [h] at hx
      cases hx
      rcases hi with hi | hi
      · omega
      · rw [hc] at hi; cases hi
    · exact (World.putObj_heap_other e).trans hx⟩
/-- What an iterator owes: N rounds, in round i a value with Pr i. -/
def Iter (St : World → World → Prop) (gf : Nat) (lb : Array Value) (N n₀ : Nat) (Rdb : World → Prop) (Pr : Nat → Value → World → Prop) : Prop :=
  ∀ (l : Nat) (Y : Nat → World → Prop) (Yx : World → Prop) (W : World), n₀ ≤ W.heap.size →
    (∀ i W W', Y i W → St W W' → Y i W') → (∀ i W, Y i W → Rdb W) →
    (∀ i v W1, i < N → Y i W1 → Pr i v W1 → YieldAt Fence.wide 1 Tryz.prog l #[v] W1 fun e W' => (e = .returned (.bool true) ∧ Y (i + 1) W' ∧ CellsKept n₀ W1 W') ∨ (e = .returned (.bool false) ∧ Yx W')) →
    Y 0 W →
    CallsIn Fence.wide 2 Tryz.prog gf (#[.func (.yield l) #[] #[]] ++ lb) W fun e W' => (∃ v, e = .returned v) ∧ (Y N W' ∨ Yx W')
/-- How a round may be left. -/
def roundEnd (n₀ : Nat) (J : World → Prop) (Jx : World → Prop) (W : World) : Exit → Act → World → Prop
  | .normal, _, W' => Above n₀ W W' ∧ J W'
  | .ret, _, W' => Above n₀ W W' ∧ Jx W'
  | _, _, _ => False
theorem keeps_rest (W W' : World) (h : Keeps W W') (i : Nat) (o : Obj) (hx : W.heap[i]? = some o) (_ : o.isCells = false) : W'.heap[i]? = some o := (h.block i (Array.getElem?_eq_some_iff.1 hx).1).trans hx
/-- What lies below n₀ is as it was, and what is no cells. -/
structure Spare (n₀ : Nat) (W W' : World) : Prop where
  os : W'.os = W.os
  tape : W'.tape = W.tape
  output : W'.output = W.output
  size : W.heap.size ≤ W'.heap.size
  same : ∀ i o, W.heap[i]? = some o → (i < n₀ ∨ o.isCells = false) → W'.heap[i]? = some o
theorem Spare.ofKeeps {n₀ : Nat} {W W' : World} (h : Keeps W W') : Spare n₀ W W' := ⟨h.os, h.tape, h.output, h.size, fun i _ hx _ => (h.block i (Array.getElem?_eq_some_iff.1 hx).1).trans hx⟩
theorem Spare.set {n₀ : Nat} (W : World) {a : Addr} (v : Value) (ha : n₀ ≤ a.block) (hc : ∃ o, W.heap[a.block]? = some o ∧ o.isCells = true) : Spare n₀ W (W.setCell a v) :=
  ⟨rfl, rfl, rfl, by simp, fun i o hx hi => by
    by_cases e : i = a.block
    · subst e
      obtain ⟨o', h1, h2⟩ := hc
      rw [h1] at hx
      cases hx
      rcases hi with hi | hi
      · omega
      · rw [h2] at hi; cases hi
    · exact (Below.heap_setCell W a v i e).trans hx⟩
theorem wp_over {g : Operand} {p : Tmp} {assign body : Code} {Q : Exit → Act → World → Prop} {a : Act} {w : World} {gf : Nat} {lb : Array Value} (hg : a.eval g = .func (.func gf) #[] lb) (eg : ∀ args w, (callFunc gf args).run Tryz.prog w = .ok (.enter gf args) w)
    {N : Nat} {Rdb : World → Prop} {Pr : Nat → Value → World → Prop} {St : World → World → Prop} (hit : Iter St gf lb N w.heap.size Rdb Pr) (hS1 : ∀ W W', St W W' → ∀ (i : Nat) (o : Obj), W.heap[i]? = some o → o.isCells = false → W'.heap[i]? = some o)
    (J : Nat → World → Prop) (Jx : World → Prop) (hJ : ∀ i W W', J i W → Moves w.heap.size W W' → J i W') (hJx : ∀ W W', Jx W → Moves w.heap.size W W' → Jx W') (hS2 : ∀ i W W', J i W → St W W' → J i W') (hJR : ∀ i W, J i W → Rdb W)
    (hPr : ∀ i v W W', Pr i v W → Moves w.heap.size W W' → Pr i v W') (h0 : J 0 w) (a₁ : Value → Act)
    (hassign : ∀ (l : Nat) (i : Nat) (v : Value) (W : World) (K : Act → World → Prop), Pr i v W → K (a₁ v) W → assign.wpIn (Fence.wide.inRound l) 1 Tryz.prog (Exit.then K (fun _ _ _ => False)) { tmps := ((#[p] : Array Tmp).zip #[v]).foldl (fun t (p, v) => t.setIfInBounds p v) a.tmps, defers := [] } W)
    (hbody : ∀ (l i : Nat) (v : Value) (W : World), i < N → w.heap.size ≤ W.heap.size → J i W → Pr i v W → body.wpIn (Fence.wide.inRound l) 1 Tryz.prog (roundEnd w.heap.size (J (i + 1)) Jx W) (a₁ v) W)
    (hdone : ∀ (W : World), J N W → W.heap[w.heap.size]? = some (.deferred (some [])) → Q .normal { a with defers := { target := .collected w.heap.size, args := #[] } :: a.defers } W)
    (hstop : ∀ (W : World), Jx W → W.heap[w.heap.size]? = some (.deferred (some [])) → Code.ret.wpIn Fence.wide 3 Tryz.prog Q { a with defers := { target := .collected w.heap.size, args := #[] } :: a.defers } W) :
    (Code.rangeFunc g #[p] assign body).wp Tryz.prog Q a w := by
  refine (wpIn_wide (n := 3)).1 (wpIn_rangeFunc fun fn _ => ?_)
  obtain ⟨rec, hrec⟩ : ∃ rec : LoopState → Option Code → Loop, rec = fun st pe => { state := st, pending := pe, fn, tmps := a.tmps, params := #[p], assign, body, defers := w.heap.size } := ⟨_, rfl⟩
  obtain ⟨W1, hW1⟩ : ∃ W1, (w.alloc (.deferred (some []))).alloc (.loop (rec .ready none)) = W1 := ⟨_, rfl⟩
  have kL : Keeps w W1 := by rw [← hW1]; exact (Keeps.alloc w _).step (Keeps.alloc _ _)
  have hL : W1.heap[w.heap.size + 1]? = some (.loop (rec .ready none)) := by
    have := World.alloc_heap_new (w.alloc (.deferred (some []))) (.loop (rec .ready none))
    rw [← hW1]
    rwa [World.size_alloc] at this
  have hD : W1.heap[w.heap.size]? = some (.deferred (some [])) := by
    rw [← hW1]
    exact (Below.heap_alloc _ _ _ (by simp)).trans (World.alloc_heap_new w _)
  refine ⟨w.heap.size + 1, [{ target := .collected w.heap.size, args := #[] }], W1, { target := .fn (.func gf) lb, args := #[.func (.yield (w.heap.size + 1)) #[] #[]] }, W1, gf, #[.func (.yield (w.heap.size + 1)) #[] #[]] ++ lb, W1, ?_, ?_, fun _ _ => trivial, ?_, fun _ => by omega, ?_⟩
  · rw [← hW1, hrec]; exact run_enterLoop_outer _ _ _ _ _
  · simp only [resolve, hg]
    simp [go_sem]
  · simp [invoke, go_sem, eg]
  · refine (hit (w.heap.size + 1) (fun i W => J i W ∧ W.heap[w.heap.size + 1]? = some (.loop (rec .ready none)) ∧ W.heap[w.heap.size]? = some (.deferred (some []))) (fun W => Jx W ∧ W.heap[w.heap.size + 1]? = some (.loop (rec .done (some .ret))) ∧ W.heap[w.heap.size]? = some (.deferred (some []))) W1 kL.size
      (fun i W W' h k => ⟨hS2 i W W' h.1 k, hS1 W W' k _ _ h.2.1 rfl, hS1 W W' k _ _ h.2.2 rfl⟩) (fun i W h => hJR i W h.1) ?_ ⟨hJ 0 _ _ h0 (Moves.ofKeeps kL), hL, hD⟩).mono ?_
    · rintro i v W hi ⟨hj, hl, hd⟩ hp
      have hy := run_yield (P := Tryz.prog) (args := #[v]) hl (by rw [hrec]; rfl)
      rw [hrec] at hy
      refine ⟨fn, _, assign, body, hy, roundIn_of_wpIn trivial (hassign _ i v W _ hp ?_)⟩
      refine ⟨_, run_beginRound hl (by rw [hrec]), ?_⟩
      have hlt : w.heap.size + 1 < W.heap.size := (Array.getElem?_eq_some_iff.1 hl).1
      have mv : Moves w.heap.size W (W.putObj (w.heap.size + 1) (.loop { rec .ready none with state := .busy })) := Moves.put (by omega) hl rfl _
      have hl2 : (W.putObj (w.heap.size + 1) (.loop { rec .ready none with state := .busy })).heap[w.heap.size + 1]? = some (.loop { rec .ready none with state := .busy }) := World.putObj_heap_same hlt
      have hd2 : (W.putObj (w.heap.size + 1) (.loop { rec .ready none with state := .busy })).heap[w.heap.size]? = some (.deferred (some [])) := (World.putObj_heap_other (by omega)).trans hd
      refine wpIn_mono (hbody _ i v _ hi (by simp; omega) (hJ i _ _ hj mv) (hPr i v _ _ hp mv)) ?_
      have fin : ∀ (jump : Option Code) (W3 : World), Above w.heap.size (W.putObj (w.heap.size + 1) (.loop { rec .ready none with state := .busy })) W3 →
          (Instr.endRound (w.heap.size + 1) jump).run Tryz.prog W3 = .ok (.bool jump.isNone) (W3.putObj (w.heap.size + 1) (.loop (rec (if jump.isNone then .ready else .done) jump))) ∧
          Moves w.heap.size W3 (W3.putObj (w.heap.size + 1) (.loop (rec (if jump.isNone then .ready else .done) jump))) ∧
          (W3.putObj (w.heap.size + 1) (.loop (rec (if jump.isNone then .ready else .done) jump))).heap[w.heap.size + 1]? = some (.loop (rec (if jump.isNone then .ready else .done) jump)) ∧
          (W3.putObj (w.heap.size + 1) (.loop (rec (if jump.isNone then .ready else .done) jump))).heap[w.heap.size]? = some (.deferred (some [])) ∧
          CellsKept w.heap.size W (W3.putObj (w.heap.size + 1) (.loop (rec (if jump.isNone then .ready else .done) jump))) := fun jump W3 ab => by
        have hl3 := ab.same _ _ (by omega) hl2
        have hd3 := ab.same _ _ (Nat.le_refl _) hd2
        have hr := run_endRound (P := Tryz.prog) jump hl3
        refine ⟨by rw [hrec] at hr ⊢; exact hr, Moves.put (by omega) hl3 rfl _, World.putObj_heap_same (Array.getElem?_eq_some_iff.1 hl3).1, (World.putObj_heap_other (by omega)).trans hd3, ?_, fun j o hj hx hc => ?_⟩
        · have := ab.size
          simp at this ⊢
          exact this
        · have hne : j ≠ w.heap.size + 1 := fun e => by
            subst e
            rw [hl] at hx
            cases hx
            cases hc
          exact (World.putObj_heap_other hne).trans (ab.same j o hj ((World.putObj_heap_other hne).trans hx))
      rintro e a3 W3 hpst
      cases e with
      | normal =>
        obtain ⟨ab, hj3⟩ := hpst
        obtain ⟨h1, h2, h3, h4, h5⟩ := fin none W3 ab
        exact ⟨_, _, h1, .inl ⟨rfl, ⟨hJ _ _ _ hj3 h2, h3, h4⟩, h5⟩⟩
      | ret =>
        obtain ⟨ab, hj3⟩ := hpst
        obtain ⟨h1, h2, h3, h4, h5⟩ := fin (some .ret) W3 ab
        exact ⟨_, _, h1, .inr ⟨rfl, hJx _ _ hj3 h2, h3, h4⟩⟩
      | exit id => exact hpst.elim
      | goto t => exact hpst.elim
      | panic ch => exact hpst.elim
      | outgrown => exact hpst.elim
    · rintro e W2 ⟨⟨v, rfl⟩, ⟨hj, hl, hd⟩ | ⟨hj, hl, hd⟩⟩
      · exact ⟨none, _, by have := run_endLoop (P := Tryz.prog) hl (by rw [hrec]; simp); rw [hrec] at this; exact this, hdone _ (hJ _ _ _ hj (Moves.put (by omega) hl rfl _)) ((World.putObj_heap_other (by omega)).trans hd)⟩
      · exact ⟨some .ret, _, by have := run_endLoop (P := Tryz.prog) hl (by rw [hrec]; simp); rw [hrec] at this; exact this, hstop _ (hJx _ _ hj (Moves.put (by omega) hl rfl _)) ((World.putObj_heap_other (by omega)).trans hd)⟩
end Go.Proofs.YtlniogfinofakaaGreatDoor
