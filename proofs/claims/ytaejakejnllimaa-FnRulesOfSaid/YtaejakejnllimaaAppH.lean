/-
  One int or one list is appended to a slice of the call's own; where it then lies. Conditions: bounds on lengths.
-/
import Derived.Test.YtaejakejnllimaaNextI
import Derived.Test.YtaejakejnllimaaIns
namespace Go.Proofs.Ytaejakejnllimaa
set_option linter.unusedVariables false
set_option maxRecDepth 100000
open Go.RowKit

theorem app_int (ty : TypeId) (lo : Nat) (A : Option Addr) (n c : Nat) (l : List Int) (W : World) (hC : OwnInts W lo A n c l) (b : Nat) (x : Int) (hz : W.cell? ⟨b, 0, none⟩ = some (.int .i64 x)) (hn : n + 1 ≤ 1099511627776) (hbase : lo ≤ W.heap.size) :
    ∃ (g' c' : Nat) (w' : World), (Builtin.append_ #[23, 23] ty #[.slice A n c, .slice (some ⟨b, 0, none⟩) 1 1]).run Try.prog W = .ok (.slice (some ⟨g', 0, none⟩) (n + 1) c') w' ∧ OwnInts w' lo (some ⟨g', 0, none⟩) (n + 1) c' (l ++ [x]) ∧ W.grownBy w' (A.map (·.block)) ∧ (A.map (·.block) = some g' ∨ g' = W.heap.size) := by
  obtain ⟨i0, hi, hz0, hz1, hz2⟩ := info_parts info_int
  obtain ⟨v', w', hr, h2, h3, h4, h5⟩ := run_append_own_at (P := Try.prog) W lo 23 ty 3 i0 _ 1 8 Try.underlying23 hi hz0 hz1 hz2 rfl (by decide) _ n _ hC ⟨b, 0, none⟩ 1 1 ([x].map (Value.int .i64)) (by simp) (fun j u hj => by
    have hj0 : j = 0 := by
      have := (List.getElem?_eq_some_iff.1 hj).1
      simpa using this
    subst hj0
    rw [show (⟨b, 0, none⟩ : Addr).add 0 = ⟨b, 0, none⟩ from rfl, hz, ← hj]
    rfl) (fun u hu => by
    obtain ⟨x, _, rfl⟩ := List.mem_map.1 hu
    rfl) (by unfold maxLen; omega) (by omega) hbase
  have hv : ∃ g' c', v' = .slice (some ⟨g', 0, none⟩) (n + 1) c' := by
    rcases h2.2 with ⟨e, h0⟩ | ⟨g', cap, cur, e, _⟩
    · have := (h4.1 e).2
      cases this
    · exact ⟨g', cap, e⟩
  obtain ⟨g', c', rfl⟩ := hv
  have ho : (Value.slice A n c).ownBlock = A.map (·.block) := by cases A <;> rfl
  rw [ho] at h3 h5
  refine ⟨g', c', w', hr, by unfold OwnInts; rw [List.map_append]; exact h2, h3, ?_⟩
  rcases h5 with e | e
  · exact .inl (by rw [← e]; rfl)
  · exact .inr (by simpa [Value.ownBlock] using e)
theorem app_crd (ty : TypeId) (lo : Nat) (A : Option Addr) (n c : Nat) (R : List Hdr) (W : World) (hC : Crd W lo A n c R) (b : Nat) (x : Hdr) (hz : W.cell? ⟨b, 0, none⟩ = some x.v) (hrow : OwnInts W lo (some ⟨x.g, 0, none⟩) x.l.length x.d x.l) (hn : n + 1 ≤ 1099511627776) (hbase : lo ≤ W.heap.size) :
    ∃ (g' c' : Nat) (w' : World), (Builtin.append_ #[24, 24] ty #[.slice A n c, .slice (some ⟨b, 0, none⟩) 1 1]).run Try.prog W = .ok (.slice (some ⟨g', 0, none⟩) (n + 1) c') w' ∧ Crd w' lo (some ⟨g', 0, none⟩) (n + 1) c' (R ++ [x]) ∧ W.grownBy w' (A.map (·.block)) ∧ (A.map (·.block) = some g' ∨ g' = W.heap.size) := by
  obtain ⟨i0, hi, hz0, hz1, hz2⟩ := info_parts info_ints
  obtain ⟨v', w', hr, h2, h3, h4, h5⟩ := run_append_own_at (P := Try.prog) W lo 24 ty 23 i0 _ 1 24 Try.underlying24 hi hz0 hz1 hz2 rfl (by decide) _ n _ hC.top ⟨b, 0, none⟩ 1 1 ([x].map Hdr.v) (by simp) (fun j u hj => by
    have hj0 : j = 0 := by
      have := (List.getElem?_eq_some_iff.1 hj).1
      simpa using this
    subst hj0
    rw [show (⟨b, 0, none⟩ : Addr).add 0 = ⟨b, 0, none⟩ from rfl, hz, ← hj]
    rfl) (fun u hu => by
    obtain ⟨x, _, rfl⟩ := List.mem_map.1 hu
    rfl) (by unfold maxLen; omega) (by omega) hbase
  have hv : ∃ g' c', v' = .slice (some ⟨g', 0, none⟩) (n + 1) c' := by
    rcases h2.2 with ⟨e, h0⟩ | ⟨g', cap, cur, e, _⟩
    · have := (h4.1 e).2
      cases this
    · exact ⟨g', cap, e⟩
  obtain ⟨g', c', rfl⟩ := hv
  have ho : (Value.slice A n c).ownBlock = A.map (·.block) := by cases A <;> rfl
  rw [ho] at h3 h5
  have keep : ∀ z : Hdr, OwnInts W lo (some ⟨z.g, 0, none⟩) z.l.length z.d z.l → OwnInts w' lo (some ⟨z.g, 0, none⟩) z.l.length z.d z.l := fun z hz => own_kept hz h3 (fun kk hkk e => own_type hz hC.top (by decide) kk hkk e)
  refine ⟨g', c', w', hr, ⟨by rw [List.map_append]; exact h2, fun z hz => ?_⟩, h3, ?_⟩
  · rcases List.mem_append.1 hz with e | e
    · exact keep z (hC.row z e)
    · rw [List.mem_singleton] at e
      subst e
      exact keep z hrow
  · rcases h5 with e | e
    · exact .inl (by rw [← e]; rfl)
    · exact .inr (by simpa [Value.ownBlock] using e)
theorem wp_intH {ops : Array Oper} {rest : List Oper} {o : Oper} {a : Act} {Q : Exit → Act → World → Prop}
    (hgd : o.guard = none) (s y : Operand) (ho : o.op = .call { callee := .builtin .append, args := #[s, y], argTypes := #[23, 23] })
    (lo : Nat) (A : Option Addr) (n c : Nat) (l : List Int) (W : World) (hs : a.eval s = .slice A n c) (hC : OwnInts W lo A n c l)
    (b : Nat) (x : Int) (hz : W.cell? ⟨b, 0, none⟩ = some (.int .i64 x)) (hx : a.eval y = .slice (some ⟨b, 0, none⟩) 1 1) (hn : n + 1 ≤ 1099511627776) (hbase : lo ≤ W.heap.size)
    (h : ∀ (g' c' : Nat) (w' : World), OwnInts w' lo (some ⟨g', 0, none⟩) (n + 1) c' (l ++ [x]) → W.grownBy w' (A.map (·.block)) → (A.map (·.block) = some g' ∨ g' = W.heap.size) → wpList Try.prog ops Q rest (a.put o.dst (.slice (some ⟨g', 0, none⟩) (n + 1) c')) w') :
    wpList Try.prog ops Q (o :: rest) a W := by
  obtain ⟨g', c', w', hr, h1, h2, h3⟩ := app_int o.type lo A n c l W hC b x hz hn hbase
  refine wpList_plain hgd fun K hK => ?_
  unfold Oper.wp
  simp [execOp, ho, resolve, invoke, builtin, hs, hx, hr, Result.andThen]
  exact hK _ _ (h g' c' w' h1 h2 h3)
theorem wp_crdH {ops : Array Oper} {rest : List Oper} {o : Oper} {a : Act} {Q : Exit → Act → World → Prop}
    (hgd : o.guard = none) (s y : Operand) (ho : o.op = .call { callee := .builtin .append, args := #[s, y], argTypes := #[24, 24] })
    (lo : Nat) (A : Option Addr) (n c : Nat) (R : List Hdr) (W : World) (hs : a.eval s = .slice A n c) (hC : Crd W lo A n c R)
    (b : Nat) (x : Hdr) (hz : W.cell? ⟨b, 0, none⟩ = some x.v) (hrow : OwnInts W lo (some ⟨x.g, 0, none⟩) x.l.length x.d x.l) (hx : a.eval y = .slice (some ⟨b, 0, none⟩) 1 1) (hn : n + 1 ≤ 1099511627776) (hbase : lo ≤ W.heap.size)
    (h : ∀ (g' c' : Nat) (w' : World), Crd w' lo (some ⟨g', 0, none⟩) (n + 1) c' (R ++ [x]) → W.grownBy w' (A.map (·.block)) → (A.map (·.block) = some g' ∨ g' = W.heap.size) → wpList Try.prog ops Q rest (a.put o.dst (.slice (some ⟨g', 0, none⟩) (n + 1) c')) w') :
    wpList Try.prog ops Q (o :: rest) a W := by
  obtain ⟨g', c', w', hr, h1, h2, h3⟩ := app_crd o.type lo A n c R W hC b x hz hrow hn hbase
  refine wpList_plain hgd fun K hK => ?_
  unfold Oper.wp
  simp [execOp, ho, resolve, invoke, builtin, hs, hx, hr, Result.andThen]
  exact hK _ _ (h g' c' w' h1 h2 h3)
theorem step_intH {ops : Array Oper} {o : Oper} {a : Act} {K : Act → World → Prop} {Q : Exit → Act → World → Prop} {D : Prop}
    (hgd : o.guard = none) (s y : Operand) (ho : o.op = .call { callee := .builtin .append, args := #[s, y], argTypes := #[23, 23] })
    (lo : Nat) (A : Option Addr) (n c : Nat) (l : List Int) (W : World) (hs : a.eval s = .slice A n c) (hC : OwnInts W lo A n c l)
    (b : Nat) (x : Int) (hz : W.cell? ⟨b, 0, none⟩ = some (.int .i64 x)) (hx : a.eval y = .slice (some ⟨b, 0, none⟩) 1 1) (hn : n + 1 ≤ 1099511627776) (hbase : lo ≤ W.heap.size)
    (h : ∀ (g' c' : Nat) (w' : World), OwnInts w' lo (some ⟨g', 0, none⟩) (n + 1) c' (l ++ [x]) → W.grownBy w' (A.map (·.block)) → (A.map (·.block) = some g' ∨ g' = W.heap.size) → K (a.put o.dst (.slice (some ⟨g', 0, none⟩) (n + 1) c')) w') :
    if Region.wanted o (yielded ops a.tmps) = true then Oper.wp Try.prog o a W K Q else D := by
  have hw : Region.wanted o (yielded ops a.tmps) = true := by simp [Region.wanted, hgd]
  rw [if_pos hw]
  obtain ⟨g', c', w', hr, h1, h2, h3⟩ := app_int o.type lo A n c l W hC b x hz hn hbase
  unfold Oper.wp execOp
  simp only [ho, resolve, invoke, builtin, Sem.run_bind, Sem.run_pure, Result.andThen_ok, List.map_toArray, List.map_cons, List.map_nil, hs, hx, hr]
  exact h g' c' w' h1 h2 h3
end Go.Proofs.Ytaejakejnllimaa
