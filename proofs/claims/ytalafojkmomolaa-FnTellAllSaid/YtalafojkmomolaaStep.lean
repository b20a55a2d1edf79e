/-
  A call of a Go function as one step of a region that draws its order: by its contract. No condition.
-/
import Derived.Test.YtalafojkmomolaaMem
namespace Go.Proofs.Ytalafojkmomolaa
open Go.RowKit

theorem step_go {ops : Array Oper} {o : Oper} {a : Act} {K : Act → World → Prop} {Q : Exit → Act → World → Prop} {D : Prop} (f : FuncId) (xs : Array Operand) (ts : Array TypeId)
    (hgd : o.guard = none) (ho : o.op = .call { callee := .value (.func f), args := xs, argTypes := ts }) (hf : ∀ (args : Array Value) (w : World), (callFunc f args).run Try.prog w = .ok (.enter f args) w)
    {args : Array Value} (hx : xs.map a.eval = args) {W : World} {R : Ending → World → Prop} (hc : Calls Try.prog f args W R) (h : ∀ e w', R e w' → ∃ v, e = .returned v ∧ K (a.put o.dst v) w') :
    if Region.wanted o (yielded ops a.tmps) = true then Oper.wp Try.prog o a W K Q else D := by
  have hw : Region.wanted o (yielded ops a.tmps) = true := by simp [Region.wanted, hgd]
  rw [if_pos hw]
  have hrun : (execOp a.eval o).run Try.prog W = .ok (.enter f args) W := by
    have hf' := hf args W
    rw [← hx] at hf'
    simp [execOp, ho, resolve, invoke, Act.eval, Deferred.ofValue, hf', ← hx]
  unfold Oper.wp
  rw [hrun, Oper.upon_enter]
  refine hc.mono fun e w' hr => ?_
  obtain ⟨v, rfl, hk⟩ := h e w' hr
  exact hk
end Go.Proofs.Ytalafojkmomolaa
