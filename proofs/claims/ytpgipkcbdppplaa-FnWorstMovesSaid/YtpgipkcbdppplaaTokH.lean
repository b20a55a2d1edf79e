/-
  What finds the most moves (impl): its steps and its end. No condition.
-/
import Derived.Test.YtpgipkcbdppplaaTokG
import Derived.Test.YtpgipkcbdppplaaStep
namespace Go.Proofs.Ytpgipkcbdppplaa
set_option linter.unusedVariables false
open Go.RowKit

/-- How such a function ends when nothing in it panics. -/
def leaveM (F : Fence) (n : Nat) (fn : Func) (R : Ending → World → Prop) : Exit → Act → World → Prop
  | .normal, a, w => bodyPostM F n Try.prog fn R .normal a w
  | .ret, a, w => bodyPostM F n Try.prog fn R .ret a w
  | _, _, _ => False
theorem leaveM_post {F : Fence} {n : Nat} {fn : Func} {R : Ending → World → Prop} (e : Exit) (a : Act) (w : World) (h : leaveM F n fn R e a w) : bodyPostM F n Try.prog fn R e a w := by
  cases e <;> first | exact h | exact h.elim
theorem postM_ret {F : Fence} {n : Nat} {fn : Func} {R : Ending → World → Prop} {a : Act} {w : World} {v : Value} {D : Nat} (hd : a.defers = [{ target := .collected D, args := #[] }]) (hK : w.heap[D]? = some (.deferred (some [])))
    (hr : (results fn a.tmps).run Try.prog (w.putObj D (.deferred none)) = .ok v (w.putObj D (.deferred none))) (h : R (.returned v) (w.putObj D (.deferred none))) : leaveM F n fn R .ret a w := by
  show LeavesInM F n Try.prog fn a.tmps R a.defers .returning w
  rw [hd]
  exact ⟨by simp, .inl ⟨_, _, rfl, run_takeDeferred hK, ⟨_, hr, h⟩⟩⟩
theorem postM_plain {F : Fence} {n : Nat} {fn : Func} {R : Ending → World → Prop} {a : Act} {w : World} {v : Value} (hd : a.defers = [])
    (hr : (results fn a.tmps).run Try.prog w = .ok v w) (h : R (.returned v) w) : leaveM F n fn R .ret a w := by
  show LeavesInM F n Try.prog fn a.tmps R a.defers .returning w
  rw [hd]
  exact ⟨_, hr, h⟩
theorem results_two {fn : Func} {r s : Nat} (h : fn.results = #[.cell r 3, .cell s 4]) (tmps : Array Value) (w : World) {b4 b5 : Nat} {x : Int} {y : Bool} (h4 : tmps.getD r undef = .pointer (some ⟨b4, 0, none⟩)) (h5 : tmps.getD s undef = .pointer (some ⟨b5, 0, none⟩))
    (c4 : w.cell? ⟨b4, 0, none⟩ = some (.int .i64 x)) (c5 : w.cell? ⟨b5, 0, none⟩ = some (.bool y)) : (results fn tmps).run Try.prog w = .ok (.tuple #[.int .i64 x, .bool y]) w := by
  rw [Array.getD_eq_getD_getElem?] at h4 h5
  simp [results, h, h4, h5, go_sem, c4, c5]
theorem results_one {fn : Func} {s : Nat} (h : fn.results = #[.cell s 4]) (tmps : Array Value) (w : World) {b5 : Nat} {y : Bool} (h5 : tmps.getD s undef = .pointer (some ⟨b5, 0, none⟩))
    (c5 : w.cell? ⟨b5, 0, none⟩ = some (.bool y)) : (results fn tmps).run Try.prog w = .ok (.bool y) w := by
  rw [Array.getD_eq_getD_getElem?] at h5
  simp [results, h, h5, go_sem, c5]
theorem step_memoStore {w : World} {b B : Nat} {f : Nat → Int} {ops : Array Oper} {o : Oper} {a : Act} {K : Act → World → Prop} {Q : Exit → Act → World → Prop} {D : Prop} (hg : o.guard = none) (m x v : Operand) (hop : o.op = Op.mapUpdate 58 m x v ∨ o.op = Op.insert 58 m x v)
    (hm : a.eval m = .map (some b)) (h : Memo w b B f) (hB : B ≤ 1099511627776) (i j : Int) (hx : a.eval x = .int .i64 i) (hv : a.eval v = .int .i64 j) (y : Nat) (hi : i = (y : Int)) (hj : j = f y) (hy : y < B) (hwf : (Lit.int .i64 (f y)).wf = true) (hpos : 0 ≤ f y)
    (hK : ∀ w', Memo w' b B f → w.grownBy w' (some b) → K (a.put o.dst undef) w') : if Region.wanted o (yielded ops a.tmps) = true then Oper.wp Try.prog o a w K Q else D := by
  have hw : Region.wanted o (yielded ops a.tmps) = true := by simp [Region.wanted, hg]
  rw [if_pos hw]
  subst hi
  subst hj
  obtain ⟨w', hrun, h1, h2⟩ := memo_store h hB y hy hwf hpos
  unfold Oper.wp
  rcases hop with hop | hop
  · simp [execOp, hop, hm, hx, hv, hrun, Result.andThen]
    exact hK w' h1 h2
  · simp [execOp, hop, hm, hx, hv, hrun, Result.andThen]
    exact hK w' h1 h2
theorem moves_any (k n c : Nat) (a : Option Addr) (s : Nat → Nat) (w : World) (hI : Ints w a n (nf s)) :
    Calls Try.prog 44 #[.int .i64 k, .slice a n c] w fun e w' => ∃ sb kb : Nat, e = .returned (.func (.func 50) #[] #[.pointer (some ⟨sb, 0, none⟩), .pointer (some ⟨kb, 0, none⟩)]) ∧ RdMoves k n c sb kb a s w' ∧ w.heap.size ≤ sb ∧ w.heap.size ≤ kb ∧ Keeps w w' := by
  have HI := Lib.hid hI
  clear hI
  have HK : Hid (Keeps w ((w.alloc (.cells #[.int .i64 k] 3)).alloc (.cells #[.slice a n c] 23))) := Lib.hid ((Keeps.alloc w _).step (Keeps.alloc _ _))
  go_enter Try.func44, Try.ntmps44
  go_wp2_with fail
  go_ret
  refine ⟨w.heap.size + 1, w.heap.size, by simp, ⟨?_, ?_, HI.out.keeps HK.out⟩, by omega, Nat.le_refl _, HK.out⟩
  · simp
  · simp
theorem worstOf_any (k : Nat) (w : World) :
    Calls Try.prog 22 #[.int .i64 k] w fun e w' => ∃ bw : Nat, e = .returned (.pointer (some ⟨bw, 0, none⟩)) ∧ (∀ N f, WS w' bw w.heap.size (w.heap.size + 1) k N f (fun _ => False)) ∧ w.heap.size ≤ bw ∧ Keeps w w' := by
  have hmm := @run_makeMap Try.prog
  obtain ⟨w2, hw2⟩ : ∃ w2, w2 = (w.alloc (.map #[] 0)).alloc (.map #[] 0) := ⟨_, rfl⟩
  have HM : Hid (∀ N f, Memo w2 w.heap.size N f) := Lib.hid (fun N f => by rw [hw2]; exact (Memo.made w N f).keeps (Keeps.alloc _ _))
  have HS : Hid (∀ N, MSet w2 (w.heap.size + 1) N (fun _ => False)) := Lib.hid (fun N => by
    have := (MSet.made (w.alloc (.map #[] 0)))
    rw [hw2]
    simpa using this.few' N (fun y hy => hy.elim))
  have HK : Hid (Keeps w w2) := Lib.hid (by rw [hw2]; exact (Keeps.alloc w _).step (Keeps.alloc _ _))
  go_enter Try.func22, Try.ntmps22
  go_wp2_with fail
  go_ret
  rw [← hw2]
  have hsz : w2.heap.size = w.heap.size + 1 + 1 := by rw [hw2]; simp
  refine ⟨w2.heap.size, by rw [hsz]; rfl, fun N f => ⟨Blk.new w2 _ _, (HM.out N f).keeps (Keeps.alloc _ _), (HS.out N).keeps (Keeps.alloc _ _), by omega, fun y hy => hy.elim⟩, by omega, HK.out.step (Keeps.alloc _ _)⟩
end Go.Proofs.Ytpgipkcbdppplaa
