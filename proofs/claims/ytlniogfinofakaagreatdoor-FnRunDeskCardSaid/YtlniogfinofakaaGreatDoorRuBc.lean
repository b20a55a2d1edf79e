/-
  A range over a function whose iterator has a box of its own ahead of the loop and writes into it between rounds. No condition but what the law asks.
-/
import Derived.Test.YtlniogfinofakaaGreatDoorRuBb
import Derived.RangeFuncNested
import Derived.RangeFuncBound
import Derived.RangeFuncCalls
import Derived.RangeFuncLeaves
import Derived.WalkKit
import Derived.OwnWalkIn
import Derived.TacticsInMore
import Derived.LoopNIn
import Derived.LoopIn
import Derived.Test.YtlniogfinofakaaGreatDoorRuAd
namespace Go.Proofs.YtlniogfinofakaaGreatDoor
set_option maxRecDepth 100000
set_option linter.unusedVariables false
open Go.RowKit

theorem cell_keepsB {w w' : World} (h : Keeps w w') {a : Addr} {v : Value} (hc : w.cell? a = some v) : w'.cell? a = some v :=
  (World.cell?_of_block (h.block _ (World.block_lt_of_cell? w _ hc))).trans hc
/-- What is no cells is as it was, and the block bs. -/
structure AboveB (n₀ bs : Nat) (W W' : World) : Prop where
  size : W.heap.size ≤ W'.heap.size
  same : ∀ i o, (o.isCells = false ∨ i = bs) → W.heap[i]? = some o → W'.heap[i]? = some o
theorem AboveB.ofKeeps {n₀ bs : Nat} {X Y : World} (h : Keeps X Y) : AboveB n₀ bs X Y := ⟨h.size, fun i o _ hx => (h.block i (Array.getElem?_eq_some_iff.1 hx).1).trans hx⟩
theorem AboveB.trans {n₀ bs : Nat} {X Y Z : World} (h : AboveB n₀ bs X Y) (k : AboveB n₀ bs Y Z) : AboveB n₀ bs X Z := ⟨Nat.le_trans h.size k.size, fun i o hi hx => k.same i o hi (h.same i o hi hx)⟩
theorem AboveB.set {n₀ bs b j : Nat} {X : World} {T : TypeId} {cs : Array Value} (h : Blk X b T cs) (hb : b ≠ bs) (v : Value) : AboveB n₀ bs X (X.setCell ⟨b, j, none⟩ v) :=
  ⟨by simp, fun i o hi hx => by
    by_cases e : i = b
    · subst e
      rcases hi with hi | hi
      · have h2 : X.heap[i]? = some (.cells cs T (0, 0)) := h
        rw [h2] at hx
        cases hx
        cases hi
      · exact absurd hi hb
    · exact (Below.heap_setCell X ⟨b, j, none⟩ v i e).trans hx⟩
theorem AboveB.grown {n₀ bs : Nat} {X Y : World} {row : Option Nat} (k : X.grownBy Y row) (hr : ∀ d, row = some d → d ≠ bs ∧ ∃ cs T fr, X.heap[d]? = some (.cells cs T fr)) : AboveB n₀ bs X Y :=
  ⟨k.size, fun i o hi hx => by
    refine (k.block i (Array.getElem?_eq_some_iff.1 hx).1 (fun e => ?_)).trans hx
    obtain ⟨h1, cs, T, fr, h2⟩ := hr i e.symm
    rcases hi with hi | hi
    · rw [h2] at hx
      cases hx
      cases hi
    · exact h1 hi⟩
def CellsKeptB (n₀ bs : Nat) (W W' : World) : Prop := W.heap.size ≤ W'.heap.size ∧ ∀ i o, i = bs → W.heap[i]? = some o → o.isCells = true → W'.heap[i]? = some o
/-- What an iterator owes that begins with its box bs at o0: N rounds, in round i a value with Pr i. -/
def IterB (bs : Nat) (o0 : Obj) (St : World → World → Prop) (gf : Nat) (lb : Array Value) (N n₀ : Nat) (Rdb : World → Prop) (Pr : Nat → Value → World → Prop) : Prop :=
  ∀ (l : Nat) (Y : Nat → World → Prop) (Yx : World → Prop) (W : World), n₀ ≤ W.heap.size →
    (∀ i W W', Y i W → St W W' → Y i W') → (∀ i W, Y i W → Rdb W) →
    (∀ i v W1, i < N → Y i W1 → Pr i v W1 → YieldAt Fence.wide 1 Tryz.prog l #[v] W1 fun e W' => (e = .returned (.bool true) ∧ Y (i + 1) W' ∧ CellsKeptB n₀ bs W1 W') ∨ (e = .returned (.bool false) ∧ Yx W')) →
    Y 0 W → W.heap[bs]? = some o0 →
    CallsIn Fence.wide 2 Tryz.prog gf (#[.func (.yield l) #[] #[]] ++ lb) W fun e W' => (∃ v, e = .returned v) ∧ (Y N W' ∨ Yx W')
/-- How a round may be left. -/
def roundEndB (n₀ bs : Nat) (J : World → Prop) (Jx : World → Prop) (W : World) : Exit → Act → World → Prop
  | .normal, _, W' => AboveB n₀ bs W W' ∧ J W'
  | .ret, _, W' => AboveB n₀ bs W W' ∧ Jx W'
  | _, _, _ => False
/-- What lies below n₀ is as it was but for the box bs, and what is no cells. -/
structure SpareB (n₀ bs : Nat) (W W' : World) : Prop where
  os : W'.os = W.os
  tape : W'.tape = W.tape
  output : W'.output = W.output
  size : W.heap.size ≤ W'.heap.size
  same : ∀ i o, W.heap[i]? = some o → (i ≠ bs ∨ o.isCells = false) → W'.heap[i]? = some o
  box : ∀ (cs : Array Value) (T : TypeId), Blk W bs T cs → ∃ cs', Blk W' bs T cs'
theorem SpareB.ofKeeps {n₀ bs : Nat} {W W' : World} (h : Keeps W W') : SpareB n₀ bs W W' := ⟨h.os, h.tape, h.output, h.size, fun i _ hx _ => (h.block i (Array.getElem?_eq_some_iff.1 hx).1).trans hx, fun cs T hb => ⟨cs, hb.keeps h⟩⟩
theorem SpareB.set {n₀ bs : Nat} (W : World) (v : Value) (hc : ∃ o, W.heap[bs]? = some o ∧ o.isCells = true) : SpareB n₀ bs W (W.setCell ⟨bs, 0, none⟩ v) :=
  ⟨rfl, rfl, rfl, by simp, fun i o hx hi => by
    by_cases e : i = bs
    · subst e
      obtain ⟨o', h1, h2⟩ := hc
      rw [h1] at hx
      cases hx
      rcases hi with hi | hi
      · exact absurd rfl hi
      · rw [h2] at hi; cases hi
    · exact (Below.heap_setCell W ⟨bs, 0, none⟩ v i e).trans hx, fun cs T hb => ⟨_, hb.set 0 v⟩⟩
theorem SpareB.rest {n₀ bs : Nat} (W W' : World) (h : SpareB n₀ bs W W') (i : Nat) (o : Obj) (hx : W.heap[i]? = some o) (hc : o.isCells = false) : W'.heap[i]? = some o := h.same i o hx (.inr hc)
theorem wp_overB (bs : Nat) (o0 : Obj) {g : Operand} {p : Tmp} {assign body : Code} {Q : Exit → Act → World → Prop} {a : Act} {w : World} {gf : Nat} {lb : Array Value} (hg : a.eval g = .func (.func gf) #[] lb) (eg : ∀ args w, (callFunc gf args).run Tryz.prog w = .ok (.enter gf args) w)
    {N : Nat} {Rdb : World → Prop} {Pr : Nat → Value → World → Prop} {St : World → World → Prop} (hit : IterB bs o0 St gf lb N w.heap.size Rdb Pr) (hS1 : ∀ W W', St W W' → ∀ (i : Nat) (o : Obj), W.heap[i]? = some o → o.isCells = false → W'.heap[i]? = some o)
    (J : Nat → World → Prop) (Jx : World → Prop) (hJ : ∀ i W W', J i W → Moves w.heap.size W W' → J i W') (hJx : ∀ W W', Jx W → Moves w.heap.size W W' → Jx W') (hS2 : ∀ i W W', J i W → St W W' → J i W') (hJR : ∀ i W, J i W → Rdb W)
    (hPr : ∀ i v W W', Pr i v W → Moves w.heap.size W W' → Pr i v W') (h0 : J 0 w) (hbx : w.heap[bs]? = some o0) (a₁ : Value → Act)
    (hassign : ∀ (l : Nat) (i : Nat) (v : Value) (W : World) (K : Act → World → Prop), Pr i v W → K (a₁ v) W → assign.wpIn (Fence.wide.inRound l) 1 Tryz.prog (Exit.then K (fun _ _ _ => False)) { tmps := ((#[p] : Array Tmp).zip #[v]).foldl (fun t (p, v) => t.setIfInBounds p v) a.tmps, defers := [] } W)
    (hbody : ∀ (l i : Nat) (v : Value) (W : World), i < N → w.heap.size ≤ W.heap.size → J i W → Pr i v W → body.wpIn (Fence.wide.inRound l) 1 Tryz.prog (roundEndB w.heap.size bs (J (i + 1)) Jx W) (a₁ v) W)
    (hdone : ∀ (W : World), J N W → W.heap[w.heap.size]? = some (.deferred (some [])) → Q .normal { a with defers := { target := .collected w.heap.size, args := #[] } :: a.defers } W)
    (hstop : ∀ (W : World), Jx W → W.heap[w.heap.size]? = some (.deferred (some [])) → Code.ret.wpIn Fence.wide 3 Tryz.prog Q { a with defers := { target := .collected w.heap.size, args := #[] } :: a.defers } W) :
    (Code.rangeFunc g #[p] assign body).wp Tryz.prog Q a w := by
  refine (wpIn_wide (n := 3)).1 (wpIn_rangeFunc fun fn _ => ?_)
  obtain ⟨rec, hrec⟩ : ∃ rec : LoopState → Option Code → Loop, rec = fun st pe => { state := st, pending := pe, fn, tmps := a.tmps, params := #[p], assign, body, defers := w.heap.size } := ⟨_, rfl⟩
  obtain ⟨W1, hW1⟩ : ∃ W1, (w.alloc (.deferred (some []))).alloc (.loop (rec .ready none)) = W1 := ⟨_, rfl⟩
  have kL : Keeps w W1 := by rw [← hW1]; exact (Keeps.alloc w _).step (Keeps.alloc _ _)
  have hL : W1.heap[w.heap.size + 1]? = some (.loop (rec .ready none)) := by
    have := World.alloc_heap_new (w.alloc (.deferred (some []))) (.loop (rec .ready none))
    rw [← hW1]
    rwa [World.size_alloc] at this
  have hD : W1.heap[w.heap.size]? = some (.deferred (some [])) := by
    rw [← hW1]
    exact (Below.heap_alloc _ _ _ (by simp)).trans (World.alloc_heap_new w _)
  refine ⟨w.heap.size + 1, [{ target := .collected w.heap.size, args := #[] }], W1, { target := .fn (.func gf) lb, args := #[.func (.yield (w.heap.size + 1)) #[] #[]] }, W1, gf, #[.func (.yield (w.heap.size + 1)) #[] #[]] ++ lb, W1, ?_, ?_, fun _ _ => trivial, ?_, fun _ => by omega, ?_⟩
  · rw [← hW1, hrec]; exact run_enterLoop_outer _ _ _ _ _
  · simp only [resolve, hg]
    simp [go_sem]
  · simp [invoke, go_sem, eg]
  · refine (hit (w.heap.size + 1) (fun i W => J i W ∧ W.heap[w.heap.size + 1]? = some (.loop (rec .ready none)) ∧ W.heap[w.heap.size]? = some (.deferred (some []))) (fun W => Jx W ∧ W.heap[w.heap.size + 1]? = some (.loop (rec .done (some .ret))) ∧ W.heap[w.heap.size]? = some (.deferred (some []))) W1 kL.size
      (fun i W W' h k => ⟨hS2 i W W' h.1 k, hS1 W W' k _ _ h.2.1 rfl, hS1 W W' k _ _ h.2.2 rfl⟩) (fun i W h => hJR i W h.1) ?_ ⟨hJ 0 _ _ h0 (Moves.ofKeeps kL), hL, hD⟩ ((kL.block bs (Array.getElem?_eq_some_iff.1 hbx).1).trans hbx)).mono ?_
    · rintro i v W hi ⟨hj, hl, hd⟩ hp
      have hy := run_yield (P := Tryz.prog) (args := #[v]) hl (by rw [hrec]; rfl)
      rw [hrec] at hy
      refine ⟨fn, _, assign, body, hy, roundIn_of_wpIn trivial (hassign _ i v W _ hp ?_)⟩
      refine ⟨_, run_beginRound hl (by rw [hrec]), ?_⟩
      have hlt : w.heap.size + 1 < W.heap.size := (Array.getElem?_eq_some_iff.1 hl).1
      have mv : Moves w.heap.size W (W.putObj (w.heap.size + 1) (.loop { rec .ready none with state := .busy })) := Moves.put (by omega) hl rfl _
      have hl2 : (W.putObj (w.heap.size + 1) (.loop { rec .ready none with state := .busy })).heap[w.heap.size + 1]? = some (.loop { rec .ready none with state := .busy }) := World.putObj_heap_same hlt
      have hd2 : (W.putObj (w.heap.size + 1) (.loop { rec .ready none with state := .busy })).heap[w.heap.size]? = some (.deferred (some [])) := (World.putObj_heap_other (by omega)).trans hd
      refine wpIn_mono (hbody _ i v _ hi (by simp; omega) (hJ i _ _ hj mv) (hPr i v _ _ hp mv)) ?_
      have fin : ∀ (jump : Option Code) (W3 : World), AboveB w.heap.size bs (W.putObj (w.heap.size + 1) (.loop { rec .ready none with state := .busy })) W3 →
          (Instr.endRound (w.heap.size + 1) jump).run Tryz.prog W3 = .ok (.bool jump.isNone) (W3.putObj (w.heap.size + 1) (.loop (rec (if jump.isNone then .ready else .done) jump))) ∧
          Moves w.heap.size W3 (W3.putObj (w.heap.size + 1) (.loop (rec (if jump.isNone then .ready else .done) jump))) ∧
          (W3.putObj (w.heap.size + 1) (.loop (rec (if jump.isNone then .ready else .done) jump))).heap[w.heap.size + 1]? = some (.loop (rec (if jump.isNone then .ready else .done) jump)) ∧
          (W3.putObj (w.heap.size + 1) (.loop (rec (if jump.isNone then .ready else .done) jump))).heap[w.heap.size]? = some (.deferred (some [])) ∧
          CellsKeptB w.heap.size bs W (W3.putObj (w.heap.size + 1) (.loop (rec (if jump.isNone then .ready else .done) jump))) := fun jump W3 ab => by
        have hl3 := ab.same _ _ (.inl rfl) hl2
        have hd3 := ab.same _ _ (.inl rfl) hd2
        have hr := run_endRound (P := Tryz.prog) jump hl3
        refine ⟨by rw [hrec] at hr ⊢; exact hr, Moves.put (by omega) hl3 rfl _, World.putObj_heap_same (Array.getElem?_eq_some_iff.1 hl3).1, (World.putObj_heap_other (by omega)).trans hd3, ?_, fun j o hj hx hc => ?_⟩
        · have := ab.size
          simp at this ⊢
          exact this
        · have hne : j ≠ w.heap.size + 1 := fun e => by
            subst e
            rw [hl] at hx
            cases hx
            cases hc
          exact (World.putObj_heap_other hne).trans (ab.same j o (.inr hj) ((World.putObj_heap_other hne).trans hx))
      rintro e a3 W3 hpst
      cases e with
      | normal =>
        obtain ⟨ab, hj3⟩ := hpst
        obtain ⟨h1, h2, h3, h4, h5⟩ := fin none W3 ab
        exact ⟨_, _, h1, .inl ⟨rfl, ⟨hJ _ _ _ hj3 h2, h3, h4⟩, h5⟩⟩
      | ret =>
        obtain ⟨ab, hj3⟩ := hpst
        obtain ⟨h1, h2, h3, h4, h5⟩ := fin (some .ret) W3 ab
        exact ⟨_, _, h1, .inr ⟨rfl, hJx _ _ hj3 h2, h3, h4⟩⟩
      | exit id => exact hpst.elim
      | goto t => exact hpst.elim
      | panic ch => exact hpst.elim
      | outgrown => exact hpst.elim
    · rintro e W2 ⟨⟨v, rfl⟩, ⟨hj, hl, hd⟩ | ⟨hj, hl, hd⟩⟩
      · exact ⟨none, _, by have := run_endLoop (P := Tryz.prog) hl (by rw [hrec]; simp); rw [hrec] at this; exact this, hdone _ (hJ _ _ _ hj (Moves.put (by omega) hl rfl _)) ((World.putObj_heap_other (by omega)).trans hd)⟩
      · exact ⟨some .ret, _, by have := run_endLoop (P := Tryz.prog) hl (by rw [hrec]; simp); rw [hrec] at this; exact this, hstop _ (hJx _ _ hj (Moves.put (by omega) hl rfl _)) ((World.putObj_heap_other (by omega)).trans hd)⟩
end Go.Proofs.YtlniogfinofakaaGreatDoor
/-
  How a function ends that holds a range over a function, when nothing in it panics. No condition.
-/
namespace Go.Proofs.YtlniogfinofakaaGreatDoor
set_option maxRecDepth 100000
set_option linter.unusedVariables false
open Go.RowKit

/-- How such a function ends when nothing in it panics. -/
def leaveM (F : Fence) (n : Nat) (fn : Func) (R : Ending → World → Prop) : Exit → Act → World → Prop
  | .normal, a, w => bodyPostM F n Tryz.prog fn R .normal a w
  | .ret, a, w => bodyPostM F n Tryz.prog fn R .ret a w
  | _, _, _ => False
theorem leaveM_post {F : Fence} {n : Nat} {fn : Func} {R : Ending → World → Prop} (e : Exit) (a : Act) (w : World) (h : leaveM F n fn R e a w) : bodyPostM F n Tryz.prog fn R e a w := by
  cases e <;> first | exact h | exact h.elim
theorem postM_ret {F : Fence} {n : Nat} {fn : Func} {R : Ending → World → Prop} {a : Act} {w : World} {v : Value} {D : Nat} (hd : a.defers = [{ target := .collected D, args := #[] }]) (hK : w.heap[D]? = some (.deferred (some [])))
    (hr : (results fn a.tmps).run Tryz.prog (w.putObj D (.deferred none)) = .ok v (w.putObj D (.deferred none))) (h : R (.returned v) (w.putObj D (.deferred none))) : leaveM F n fn R .ret a w := by
  show LeavesInM F n Tryz.prog fn a.tmps R a.defers .returning w
  rw [hd]
  exact ⟨by simp, .inl ⟨_, _, rfl, run_takeDeferred hK, ⟨_, hr, h⟩⟩⟩
theorem postM_plain {F : Fence} {n : Nat} {fn : Func} {R : Ending → World → Prop} {a : Act} {w : World} {v : Value} (hd : a.defers = [])
    (hr : (results fn a.tmps).run Tryz.prog w = .ok v w) (h : R (.returned v) w) : leaveM F n fn R .ret a w := by
  show LeavesInM F n Tryz.prog fn a.tmps R a.defers .returning w
  rw [hd]
  exact ⟨_, hr, h⟩
end Go.Proofs.YtlniogfinofakaaGreatDoor
