/-
  A region that draws its order, walked by hand: what is held may be said anew, with more, behind a step. No condition.
-/
import Derived.Test.YtalafojkmomolaaStep
import Derived.Deep.RegionHeld3
namespace Go.Proofs.Ytalafojkmomolaa
open Go.RowKit

theorem wpAnyH_change {md : Region.Mode} {ops : Array Oper} {Q : Exit → Act → World → Prop} {S S' : World → Prop} (hS : ∀ w, S' w → S w) : ∀ (fuel : Nat) (listed : Array Bool) (a : Act) (w : World), wpAnyH Try.prog md ops Q S' fuel listed a w → wpAnyH Try.prog md ops Q S fuel listed a w
  | 0, _, _, _, h => h
  | fuel + 1, _, _, _, h => ⟨h.1, fun i hi => wpOp_mono (fun a' w' h' => ⟨hS _ h'.1, wpAnyH_change hS fuel _ a' w' h'.2⟩) (h.2 i hi)⟩
theorem take_d {md : Region.Mode} {ops : Array Oper} {Q : Exit → Act → World → Prop} {S : World → Prop} (i : Nat) (d : Option Tmp) {oi : Oper} {v : Value} {fuel : Nat} {listed : Array Bool} {a : Act} {w : World} (hi : ops[i]? = some oi)
    (hs : Region.noSelect ops = true) (hf : Region.free md ops listed i = true) (hr : (Region.ready md ops listed).contains i = true)
    (hQ : ∀ c a w, Q (.panic c) (a.put oi.dst v) w → Q (.panic c) a w) (hd : oi.dst = d) (hy : YieldsIf Try.prog ops S oi v a) (hS : S w)
    (h : wpAnyH Try.prog md ops Q S fuel (listed.setIfInBounds i true) (a.put d v) w) : wpAnyH Try.prog md ops Q S (fuel + 1) listed a w := by
  subst hd
  exact wpAnyH_take hi hs hf hr hQ hy hS h
theorem call_d {md : Region.Mode} {ops : Array Oper} {Q : Exit → Act → World → Prop} {S : World → Prop} (i : Nat) (d : Option Tmp) (f : FuncId) (xs : Array Operand) (ts : Array TypeId) {o : Oper} {fuel : Nat} {listed : Array Bool} {a : Act} {w : World} (hi : ops[i]? = some o)
    (hr : Region.ready md ops listed = [i]) (hd : o.dst = d) (hgd : o.guard = none) (ho : o.op = .call { callee := .value (.func f), args := xs, argTypes := ts }) (hf : ∀ (args : Array Value) (w : World), (callFunc f args).run Try.prog w = .ok (.enter f args) w)
    {args : Array Value} (hx : xs.map a.eval = args) {R : Ending → World → Prop} (hc : Calls Try.prog f args w R)
    (h : ∀ e w', R e w' → ∃ v, e = .returned v ∧ S w' ∧ wpAnyH Try.prog md ops Q S fuel (listed.setIfInBounds i true) (a.put d v) w') : wpAnyH Try.prog md ops Q S (fuel + 1) listed a w := by
  subst hd
  refine wpAnyH_ready hr (by simp) (AllReadyH.cons hi (fun K hK => ?_) AllReadyH.nil)
  refine step_go f xs ts hgd ho hf hx hc (fun e w' h' => ?_)
  obtain ⟨v, e1, e2, e3⟩ := h e w' h'
  exact ⟨v, e1, hK.out _ _ e2 (fun _ => e3)⟩
end Go.Proofs.Ytalafojkmomolaa
