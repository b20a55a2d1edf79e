/-
  A region that draws its order, walked by hand: a call whose guard is met, and an operation whose guard is not met. No condition.
-/
import Derived.Test.YtalafojkmomolaaHeld
namespace Go.Proofs.Ytalafojkmomolaa
open Go.RowKit

/-- A Go call whose guard is met, as one step. -/
theorem step_goG {ops : Array Oper} {o : Oper} {a : Act} {K : Act → World → Prop} {Q : Exit → Act → World → Prop} {D : Prop} (f : FuncId) (xs : Array Operand) (ts : Array TypeId)
    (hw : Region.wanted o (yielded ops a.tmps) = true) (ho : o.op = .call { callee := .value (.func f), args := xs, argTypes := ts }) (hf : ∀ (args : Array Value) (w : World), (callFunc f args).run Try.prog w = .ok (.enter f args) w)
    {args : Array Value} (hx : xs.map a.eval = args) {W : World} {R : Ending → World → Prop} (hc : Calls Try.prog f args W R) (h : ∀ e w', R e w' → ∃ v, e = .returned v ∧ K (a.put o.dst v) w') :
    if Region.wanted o (yielded ops a.tmps) = true then Oper.wp Try.prog o a W K Q else D := by
  rw [if_pos hw]
  have hrun : (execOp a.eval o).run Try.prog W = .ok (.enter f args) W := by
    have hf' := hf args W
    rw [← hx] at hf'
    simp [execOp, ho, resolve, invoke, Act.eval, Deferred.ofValue, hf', ← hx]
  unfold Oper.wp
  rw [hrun, Oper.upon_enter]
  refine hc.mono fun e w' hr => ?_
  obtain ⟨v, rfl, hk⟩ := h e w' hr
  exact hk
theorem call_g {md : Region.Mode} {ops : Array Oper} {Q : Exit → Act → World → Prop} {S : World → Prop} (i : Nat) (d : Option Tmp) (f : FuncId) (xs : Array Operand) (ts : Array TypeId) {o : Oper} {fuel : Nat} {listed : Array Bool} {a : Act} {w : World} (hi : ops[i]? = some o)
    (hr : Region.ready md ops listed = [i]) (hd : o.dst = d) (hw : Region.wanted o (yielded ops a.tmps) = true) (ho : o.op = .call { callee := .value (.func f), args := xs, argTypes := ts }) (hf : ∀ (args : Array Value) (w : World), (callFunc f args).run Try.prog w = .ok (.enter f args) w)
    {args : Array Value} (hx : xs.map a.eval = args) {R : Ending → World → Prop} (hc : Calls Try.prog f args w R)
    (h : ∀ e w', R e w' → ∃ v, e = .returned v ∧ S w' ∧ wpAnyH Try.prog md ops Q S fuel (listed.setIfInBounds i true) (a.put d v) w') : wpAnyH Try.prog md ops Q S (fuel + 1) listed a w := by
  subst hd
  refine wpAnyH_ready hr (by simp) (AllReadyH.cons hi (fun K hK => ?_) AllReadyH.nil)
  refine step_goG f xs ts hw ho hf hx hc (fun e w' h' => ?_)
  obtain ⟨v, e1, e2, e3⟩ := h e w' h'
  exact ⟨v, e1, hK.out _ _ e2 (fun _ => e3)⟩
/-- The one operation that may come up is not wanted: its slot is empty, nothing runs. -/
theorem skip_g {md : Region.Mode} {ops : Array Oper} {Q : Exit → Act → World → Prop} {S : World → Prop} (i : Nat) (d : Option Tmp) {o : Oper} {fuel : Nat} {listed : Array Bool} {a : Act} {w : World} (hi : ops[i]? = some o)
    (hr : Region.ready md ops listed = [i]) (hd : o.dst = d) (hw : Region.wanted o (yielded ops a.tmps) = false) (hS : S w)
    (h : wpAnyH Try.prog md ops Q S fuel (listed.setIfInBounds i true) (a.put d undef) w) : wpAnyH Try.prog md ops Q S (fuel + 1) listed a w := by
  subst hd
  refine wpAnyH_ready hr (by simp) (AllReadyH.cons hi (fun K hK => ?_) AllReadyH.nil)
  rw [hw]
  exact hK.out _ _ hS (fun _ => h)
end Go.Proofs.Ytalafojkmomolaa
