/-
  A call's own map from int to int of which all entries are right, and striking a number from a set. Plain laws on the model's memory; numbers from 0 to 2^63 - 1.
-/
import Derived.Test.YtpgipkcbdppplaaMp
import Derived.Test.YtpgipkcbdppplaaDist
namespace Go.Proofs.Ytpgipkcbdppplaa
set_option linter.unusedVariables false
open Go.RowKit

theorem pigeonB (B k : Nat) (y : Nat → Nat) (h1 : ∀ i, i < k → y i < B) (h2 : ∀ i j, i < k → j < k → y i = y j → i = j) : k ≤ B := pigeon B k y h1 h2
/-- Block b is a map of numbers below B in which each entry is what f gives. -/
def Memo (w : World) (b B : Nat) (f : Nat → Int) : Prop :=
  ∃ D : DataW Unit, w.ownsMap Try.prog 3 (plainElem Try.prog 3) b B D ∧ (∀ kl, Maps.has D kl = true → ∃ y, kl = kI y ∧ y < B) ∧ ∀ y, Maps.has D (kI y) = true → 0 ≤ f y ∧ ∀ z, D.atKey (kI y) z = .lit (.int .i64 (f y))
section
variable {w w' : World} {b B : Nat} {f : Nat → Int}
theorem own_up {R : Value → Option (DataW Unit × List MemPlace)} {n : Nat} {D : DataW Unit} (h : w.ownsMap Try.prog 3 R b n D) (hn : n ≤ B) : w.ownsMap Try.prog 3 R b B D := by
  obtain ⟨es, clock, hb, F, hs, hD⟩ := h
  exact ⟨es, clock, hb, F, Nat.le_trans hs hn, hD⟩
theorem Memo.made (w : World) (B : Nat) (f : Nat → Int) : Memo (w.alloc (.map #[] 0)) w.heap.size B f :=
  ⟨_, own_up (World.ownsMap_made w _ _ _) (Nat.zero_le _), fun kl h => by simp [Maps.has] at h, fun y h => by simp [Maps.has] at h⟩
theorem Memo.kept {row : Option Nat} (h : Memo w b B f) (g : w.grownBy w' row) (hne : some b ≠ row) : Memo w' b B f := by
  obtain ⟨D, h1, h2⟩ := h
  exact ⟨D, h1.kept g hne, h2⟩
theorem Memo.lt (h : Memo w b B f) : b < w.heap.size := by
  obtain ⟨D, h1, _⟩ := h
  exact h1.lt
theorem Memo.keeps (h : Memo w b B f) (k : Keeps w w') : Memo w' b B f := h.kept (row := none) ⟨k.os, k.tape, k.output, k.size, fun i hi _ => k.block i hi⟩ (by simp)
theorem zero_int0 (w : World) : (zeroValue 3).run Try.prog w = .ok (.int .i64 0) w := by kernel_rfl
/-- 'v, ok := m[k]' at the operation. -/
theorem wp_memo {ops : Array Oper} {rest : List Oper} {o : Oper} {a : Act} {Q : Exit → Act → World → Prop} (hg : o.guard = none) (m x : Operand) (hop : o.op = Op.lookup 58 m x true)
    (hm : a.eval m = .map (some b)) (h : Memo w b B f) (i : Int) (hx : a.eval x = .int .i64 i) (y : Nat) (hi : i = (y : Int)) (hy : y < 9223372036854775808)
    (hK : ∀ (c : Int) (ok : Bool), (ok = true → c = f y ∧ 0 ≤ f y) → wpList Try.prog ops Q rest (a.put o.dst (.tuple #[.int .i64 c, .bool ok])) w) : wpList Try.prog ops Q (o :: rest) a w := by
  subst hi
  obtain ⟨D, h1, h2, h3⟩ := h
  refine wpList_lookup_own_ok_int (w := w) hg m x 58 hop 3 3 .i64 keyI Try.underlying58 Try.underlying3 (zero_int0 w) b B D hm h1 _ (kI y) hx (keyOf_nat y hy) (fun c hc _ => hK c _ fun hok => ?_)
  have h4 := h3 y hok
  have := h4.2 (.lit (.int .i64 0))
  rw [hc] at this
  exact ⟨by simpa using this, h4.1⟩
/-- 'm[k] = v' at the operation. -/
theorem memo_store (h : Memo w b B f) (hB : B ≤ 1099511627776) (y : Nat) (hy : y < B) (hwf : (Lit.int .i64 (f y)).wf = true) (hpos : 0 ≤ f y) :
    ∃ w', (Instr.mapUpdate 58 (.map (some b)) (.int .i64 y) (.int .i64 (f y))).run Try.prog w = .ok () w' ∧ Memo w' b B f ∧ w.grownBy w' (some b) := by
  obtain ⟨D, h1, h2, h3⟩ := h
  have hm := h1.isMap
  obtain ⟨w', hrun, h4, hg⟩ := h1.update keyI Try.underlying58 (by unfold maxLen; omega) (keyOf_nat y (by omega)) (plainElem_int Try.underlying3 hwf)
  have hk : ∀ kl, Maps.has (D.put (kI y) (.lit (.int .i64 (f y)))) kl = true → ∃ z, kl = kI z ∧ z < B := fun kl hk => by
    by_cases e : kl = kI y
    · exact ⟨y, e, hy⟩
    · rw [Maps.has_put_other e] at hk
      exact h2 kl hk
  refine ⟨w', hrun, ⟨_, own_few h4 B hk (fun k y h1 h2 => pigeonB B k y h1 h2), hk, fun z hz => ?_⟩, hg⟩
  by_cases e : z = y
  · rw [e]; exact ⟨hpos, fun u => Maps.atKey_put_same hm (show WideAt.IsKeyLit (kI y) from trivial) _ _⟩
  · rw [Maps.has_put_other (fun e' => e (kI_inj e'))] at hz
    refine ⟨(h3 z hz).1, fun u => ?_⟩
    rw [Maps.atKey_put_other (fun e' => e (kI_inj e'))]
    exact (h3 z hz).2 u
theorem wp_memoStore {ops : Array Oper} {rest : List Oper} {o : Oper} {a : Act} {Q : Exit → Act → World → Prop} (hg : o.guard = none) (m x v : Operand) (hop : o.op = Op.mapUpdate 58 m x v ∨ o.op = Op.insert 58 m x v)
    (hm : a.eval m = .map (some b)) (h : Memo w b B f) (hB : B ≤ 1099511627776) (i j : Int) (hx : a.eval x = .int .i64 i) (hv : a.eval v = .int .i64 j) (y : Nat) (hi : i = (y : Int)) (hj : j = f y) (hy : y < B) (hwf : (Lit.int .i64 (f y)).wf = true) (hpos : 0 ≤ f y)
    (hK : ∀ w', Memo w' b B f → w.grownBy w' (some b) → wpList Try.prog ops Q rest (a.put o.dst undef) w') : wpList Try.prog ops Q (o :: rest) a w := by
  refine wpList_plain hg fun K' hK' => ?_
  subst hi
  subst hj
  obtain ⟨w', hrun, h1, h2⟩ := memo_store h hB y hy hwf hpos
  unfold Oper.wp
  rcases hop with hop | hop
  · simp [execOp, hop, hm, hx, hv, hrun, Result.andThen]
    exact hK' _ _ (hK w' h1 h2)
  · simp [execOp, hop, hm, hx, hv, hrun, Result.andThen]
    exact hK' _ _ (hK w' h1 h2)
end
theorem MSet.few' {w : World} {b n : Nat} {p : Nat → Prop} (h : MSet w b n p) (B : Nat) (hp : ∀ y, p y → y < B) : MSet w b B p := by
  obtain ⟨D, h1, h2⟩ := h
  exact ⟨D, own_few h1 B (fun kl hk => by obtain ⟨y, e, hy⟩ := h2.only kl hk; exact ⟨y, e, hp y hy⟩) (fun k y h1 h2 => pigeonB B k y h1 h2), h2⟩
/-- 'delete(m, k)' at the operation. -/
theorem wp_strike {w : World} {ops : Array Oper} {rest : List Oper} {o : Oper} {a : Act} {Q : Exit → Act → World → Prop} (hg : o.guard = none) (m x : Operand) (hop : o.op = Op.call { callee := Callee.builtin Builtin.delete, args := #[m, x], argTypes := #[59, 3] })
    {b n : Nat} {p : Nat → Prop} (hm : a.eval m = .map (some b)) (h : MSet w b n p) (i : Int) (hx : a.eval x = .int .i64 i) (y : Nat) (hi : i = (y : Int)) (hy : y < 9223372036854775808)
    (hK : ∀ w', MSet w' b n (fun z => p z ∧ z ≠ y) → w.grownBy w' (some b) → wpList Try.prog ops Q rest (a.put o.dst (.tuple #[])) w') : wpList Try.prog ops Q (o :: rest) a w := by
  subst hi
  obtain ⟨D, h1, h2⟩ := h
  have hm' := h1.isMap
  refine wpList_delete_own (w := w) hg m x 59 3 hop 4 keyI Try.underlying59 (plainElem Try.prog 4) b n D hm h1 _ (kI y) hx (keyOf_nat y hy) (fun w' r1 r2 => hK w' ⟨_, r1, ⟨fun z hz u => ?_, fun kl hk => ?_, fun z hz => h2.low z hz.1⟩⟩ r2.grown)
  · rw [Maps.atKey_del_other (fun e' => hz.2 (kI_inj e'))]
    exact h2.all z hz.1 u
  · by_cases e : kl = kI y
    · subst e
      rw [Maps.has_del_same] at hk
      cases hk
    · rw [Maps.has_del_other e] at hk
      obtain ⟨z, e1, e2⟩ := h2.only kl hk
      exact ⟨z, e1, e2, fun e' => e (by rw [e1, e'])⟩
end Go.Proofs.Ytpgipkcbdppplaa
