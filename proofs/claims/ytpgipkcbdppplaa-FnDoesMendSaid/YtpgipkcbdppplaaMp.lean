/-
  A call's own map from int to bool in which all that is there is true, as a set of numbers: made, stored into, asked, ranged over. Plain laws on the model's memory; numbers from 0 to 2^63 - 1.
-/
import Derived.Test.YtpgipkcbdppplaaMem
import Derived.Maps.RangeWalk
import Derived.Maps.OwnSet
namespace Go.Proofs.Ytpgipkcbdppplaa
open Go.RowKit

abbrev kI (x : Nat) : Lit := .int .i64 x
theorem keyI : Maps.Keyed Try.prog 3 := Maps.int_keyed Try.underlying3
theorem wfI (x : Nat) (h : x < 9223372036854775808) : (Lit.int .i64 (x : Int)).wf = true := WalkArith.wf_i64 (by omega)
theorem keyOf_nat (x : Nat) (h : x < 9223372036854775808) : keyOf Try.prog 3 (.int .i64 x) = some (kI x) := Maps.keyOf_int_mk Try.underlying3 (wfI x h)
theorem kI_inj {x y : Nat} (h : kI x = kI y) : x = y := by
  have : (x : Int) = y := by simpa using h
  omega
theorem same_self (x : Nat) : (kI x).sameKey (kI x) = true := WideAt.sameKey_self trivial
theorem same_iff (x y : Nat) : (kI x).sameKey (kI y) = true ↔ x = y := ⟨fun h => kI_inj (WideAt.sameKey_eq h), fun h => by rw [h]; exact same_self y⟩
theorem bool_inv {v : Value} {z : DataW Unit × List MemPlace} (h : plainElem Try.prog 4 v = some z) : ∃ c, v = .bool c ∧ z = (.lit (.bool c), []) := by
  unfold plainElem at h
  rw [Try.underlying4] at h
  cases v <;> simp at h
  exact ⟨_, rfl, h.symm⟩
/-- What reads as a map reads as a set. -/
structure SetIs (D : DataW Unit) (p : Nat → Prop) : Prop where
  all : ∀ y, p y → ∀ z, D.atKey (kI y) z = .lit (.bool true)
  only : ∀ kl, Maps.has D kl = true → ∃ y, kl = kI y ∧ p y
  low : ∀ y, p y → y < 9223372036854775808
theorem SetIs.has {D : DataW Unit} {p : Nat → Prop} (h : SetIs D p) (y : Nat) : Maps.has D (kI y) = true ↔ p y :=
  ⟨fun e => by obtain ⟨x, e1, e2⟩ := h.only _ e; rw [kI_inj e1]; exact e2, fun e => Maps.has_true_of_atKey (h.all y e)⟩
theorem SetIs.congr {D : DataW Unit} {p q : Nat → Prop} (h : SetIs D p) (e : ∀ y, p y ↔ q y) : SetIs D q :=
  ⟨fun y hy => h.all y ((e y).2 hy), fun kl hk => by obtain ⟨y, e1, e2⟩ := h.only kl hk; exact ⟨y, e1, (e y).1 e2⟩, fun y hy => h.low y ((e y).2 hy)⟩
/-- Block b is a map of at most n entries that holds just the numbers of p. -/
def MSet (w : World) (b n : Nat) (p : Nat → Prop) : Prop := ∃ D : DataW Unit, w.ownsMap Try.prog 3 (plainElem Try.prog 4) b n D ∧ SetIs D p
theorem MSet.made (w : World) : MSet (w.alloc (.map #[] 0)) w.heap.size 0 (fun _ => False) :=
  ⟨_, World.ownsMap_made w _ _ _, fun _ h => h.elim, fun kl h => by simp [Maps.has] at h, fun _ h => h.elim⟩
theorem MSet.congr {w : World} {b n : Nat} {p q : Nat → Prop} (h : MSet w b n p) (e : ∀ y, p y ↔ q y) : MSet w b n q := by
  obtain ⟨D, h1, h2⟩ := h
  exact ⟨D, h1, h2.congr e⟩
theorem MSet.kept {w w' : World} {b n : Nat} {p : Nat → Prop} {row : Option Nat} (h : MSet w b n p) (g : w.grownBy w' row) (hne : some b ≠ row) : MSet w' b n p := by
  obtain ⟨D, h1, h2⟩ := h
  exact ⟨D, h1.kept g hne, h2⟩
theorem MSet.keeps {w w' : World} {b n : Nat} {p : Nat → Prop} (h : MSet w b n p) (k : Keeps w w') : MSet w' b n p := h.kept (row := none) ⟨k.os, k.tape, k.output, k.size, fun i hi _ => k.block i hi⟩ (by simp)
theorem MSet.lt {w : World} {b n : Nat} {p : Nat → Prop} (h : MSet w b n p) : b < w.heap.size := by
  obtain ⟨D, h1, _⟩ := h
  exact h1.lt
theorem MSet.low {w : World} {b n : Nat} {p : Nat → Prop} (h : MSet w b n p) (y : Nat) (hy : p y) : y < 9223372036854775808 := by
  obtain ⟨D, _, h2⟩ := h
  exact h2.low y hy
/-- There are no more entries than numbers. -/
theorem own_few {w : World} {R : Value → Option (DataW Unit × List MemPlace)} {b n : Nat} {D : DataW Unit} (h : w.ownsMap Try.prog 3 R b n D) (B : Nat) (hB : ∀ kl, Maps.has D kl = true → ∃ y, kl = kI y ∧ y < B) (pig : ∀ (k : Nat) (y : Nat → Nat), (∀ i, i < k → y i < B) → (∀ i j, i < k → j < k → y i = y j → i = j) → k ≤ B) : w.ownsMap Try.prog 3 R b B D := by
  obtain ⟨es0, e0, hap, hkey⟩ := h.entries keyI
  obtain ⟨es, clock, hb, F, hs, hD⟩ := h
  refine ⟨es, clock, hb, F, ?_, hD⟩
  have hlen : es.size = es0.length := by
    rw [e0] at hD
    have := congrArg (fun d : DataW Unit => Maps.size d) hD
    simp only [Maps.size, length_sorted] at this
    simpa using this.symm
  rw [hlen]
  have hy : ∀ i, i < es0.length → ∃ y, ∀ hi : i < es0.length, es0[i].1 = kI y ∧ y < B := fun i hi => by
    have hm : es0[i] ∈ es0 := List.getElem_mem hi
    obtain ⟨y, e1, e2⟩ := hB es0[i].1 (by rw [e0]; exact List.any_eq_true.2 ⟨es0[i], hm, WideAt.sameKey_self (hkey _ hm)⟩)
    exact ⟨y, fun _ => ⟨e1, e2⟩⟩
  obtain ⟨f, hf⟩ := Deep.choose_lt hy
  refine pig es0.length f (fun i hi => (hf i hi hi).2) (fun i j hi hj e => ?_)
  have e1 := (hf i hi hi).1
  have e2 := (hf j hj hj).1
  rw [e] at e1
  have e3 : es0[i].1 = es0[j].1 := e1.trans e2.symm
  rw [List.pairwise_iff_getElem] at hap
  by_cases h1 : i < j
  · exact absurd e3 (hap i j hi hj h1)
  · by_cases h2 : j < i
    · exact absurd e3.symm (hap j i hj hi h2)
    · omega
theorem MSet.store {w : World} {b n : Nat} {p : Nat → Prop} (h : MSet w b n p) (hn : n < 1099511627776) (y : Nat) (hy : y < 9223372036854775808) :
    ∃ w', (Instr.mapUpdate 59 (.map (some b)) (.int .i64 y) (.bool true)).run Try.prog w = .ok () w' ∧ MSet w' b (n + 1) (fun z => p z ∨ z = y) ∧ w.grownBy w' (some b) := by
  obtain ⟨D, h1, h2⟩ := h
  have hm := h1.isMap
  obtain ⟨w', hrun, h3, hg⟩ := h1.update keyI Try.underlying59 (by unfold maxLen; omega) (keyOf_nat y hy) (plainElem_bool Try.underlying4 true)
  refine ⟨w', hrun, ⟨_, h3, fun z hz u => ?_, fun kl hk => ?_, fun z hz => ?_⟩, hg⟩
  · by_cases e : z = y
    · rw [e]; exact Maps.atKey_put_same hm (show WideAt.IsKeyLit (kI y) from trivial) _ _
    · rw [Maps.atKey_put_other (fun e' => e (kI_inj e'))]
      rcases hz with hz | hz
      · exact h2.all z hz u
      · exact absurd hz e
  · by_cases e : kl = kI y
    · exact ⟨y, e, .inr rfl⟩
    · rw [Maps.has_put_other e] at hk
      obtain ⟨x, e1, e2⟩ := h2.only kl hk
      exact ⟨x, e1, .inl e2⟩
  · rcases hz with hz | rfl
    · exact h2.low z hz
    · exact hy
theorem zero_bool (w : World) : (zeroValue 4).run Try.prog w = .ok (.bool false) w := by kernel_rfl
theorem MSet.look {w : World} {b n : Nat} {p : Nat → Prop} (h : MSet w b n p) (y : Nat) (hy : y < 9223372036854775808) :
    ∃ c, (Instr.lookup 59 (.map (some b)) (.int .i64 y) false).run Try.prog w = .ok (.bool c) w ∧ (c = true ↔ p y) := by
  obtain ⟨D, h1, h2⟩ := h
  obtain ⟨v, ps, hrun, hv⟩ := h1.lookup keyI Try.underlying59 (zero_bool w) (plainElem_bool Try.underlying4 false) (keyOf_nat y hy)
  obtain ⟨c, rfl, e⟩ := bool_inv hv
  refine ⟨c, hrun, ?_⟩
  simp only [Prod.mk.injEq] at e
  have e1 := e.1
  constructor
  · intro hc
    cases hh : Maps.has D (kI y)
    · rw [Maps.atKey_of_not_has hh] at e1
      rw [hc] at e1
      simp at e1
    · exact (h2.has y).1 hh
  · intro hp
    rw [h2.all y hp] at e1
    simpa using e1.symm
/-- 'm[k]' at the operation. -/
theorem wp_look {w : World} {ops : Array Oper} {rest : List Oper} {o : Oper} {a : Act} {Q : Exit → Act → World → Prop} (hg : o.guard = none) (m x : Operand) (hop : o.op = Op.lookup 59 m x false)
    {b n : Nat} {p : Nat → Prop} (hm : a.eval m = .map (some b)) (h : MSet w b n p) (i : Int) (hx : a.eval x = .int .i64 i) (y : Nat) (hi : i = (y : Int)) (hy : y < 9223372036854775808)
    (hK : ∀ c : Bool, (c = true ↔ p y) → wpList Try.prog ops Q rest (a.put o.dst (.bool c)) w) : wpList Try.prog ops Q (o :: rest) a w := by
  refine wpList_plain hg fun K' hK' => ?_
  subst hi
  obtain ⟨c, hrun, hc⟩ := h.look y hy
  unfold Oper.wp
  simp [execOp, hop, hm, hx, hrun, Result.andThen]
  exact hK' _ _ (hK c hc)
/-- 'm[k] = true' at the operation. -/
theorem wp_store {w : World} {ops : Array Oper} {rest : List Oper} {o : Oper} {a : Act} {Q : Exit → Act → World → Prop} (hg : o.guard = none) (m x v : Operand) (hop : o.op = Op.mapUpdate 59 m x v ∨ o.op = Op.insert 59 m x v)
    {b n : Nat} {p : Nat → Prop} (hm : a.eval m = .map (some b)) (h : MSet w b n p) (hn : n < 1099511627776) (i : Int) (hx : a.eval x = .int .i64 i) (hv : a.eval v = .bool true) (y : Nat) (hi : i = (y : Int)) (hy : y < 9223372036854775808)
    (hK : ∀ w', MSet w' b (n + 1) (fun z => p z ∨ z = y) → w.grownBy w' (some b) → wpList Try.prog ops Q rest (a.put o.dst undef) w') : wpList Try.prog ops Q (o :: rest) a w := by
  refine wpList_plain hg fun K' hK' => ?_
  subst hi
  obtain ⟨w', hrun, h1, h2⟩ := h.store hn y hy
  unfold Oper.wp
  rcases hop with hop | hop
  · simp [execOp, hop, hm, hx, hv, hrun, Result.andThen]
    exact hK' _ _ (hK w' h1 h2)
  · simp [execOp, hop, hm, hx, hv, hrun, Result.andThen]
    exact hK' _ _ (hK w' h1 h2)
/-- A range over the set under way: those in left are still to come. -/
def MRange (w : World) (b r n : Nat) (p left : Nat → Prop) (cnt : Nat) : Prop :=
  ∃ (D : DataW Unit) (lf : Lit → Bool), w.ranges Try.prog 3 (plainElem Try.prog 4) b r n D lf cnt ∧ SetIs D p ∧ ∀ y, lf (kI y) = true ↔ left y
theorem MRange.mset {w : World} {b r n cnt : Nat} {p left : Nat → Prop} (h : MRange w b r n p left cnt) : MSet w b n p := by
  obtain ⟨D, lf, h1, h2, _⟩ := h
  exact ⟨D, h1.owns, h2⟩
theorem MRange.left_eq {w : World} {b r n cnt : Nat} {p left : Nat → Prop} (h : MRange w b r n p left cnt) : w.rangeLeft b r = cnt := by
  obtain ⟨D, lf, h1, _⟩ := h
  exact h1.left_eq
theorem MRange.ne {w : World} {b r n cnt : Nat} {p left : Nat → Prop} (h : MRange w b r n p left cnt) : r ≠ b := by
  obtain ⟨D, lf, h1, _⟩ := h
  exact h1.ne
theorem MRange.lt {w : World} {b r n cnt : Nat} {p left : Nat → Prop} (h : MRange w b r n p left cnt) : r < w.heap.size := by
  obtain ⟨D, lf, h1, _⟩ := h
  exact h1.lt
theorem MRange.kept {w w' : World} {b r n cnt : Nat} {p left : Nat → Prop} {row : Option Nat} (h : MRange w b r n p left cnt) (g : w.grownBy w' row) (hb : some b ≠ row) (hr : some r ≠ row) : MRange w' b r n p left cnt := by
  obtain ⟨D, lf, h1, h2⟩ := h
  exact ⟨D, lf, h1.kept g hb hr, h2⟩
theorem MRange.keeps {w w' : World} {b r n cnt : Nat} {p left : Nat → Prop} (h : MRange w b r n p left cnt) (k : Keeps w w') : MRange w' b r n p left cnt := h.kept (row := none) ⟨k.os, k.tape, k.output, k.size, fun i hi _ => k.block i hi⟩ (by simp) (by simp)
theorem MRange.congr {w : World} {b r n cnt : Nat} {p left left' : Nat → Prop} (h : MRange w b r n p left cnt) (e : ∀ y, left y ↔ left' y) : MRange w b r n p left' cnt := by
  obtain ⟨D, lf, h1, h2, h3⟩ := h
  exact ⟨D, lf, h1, h2, fun y => (h3 y).trans (e y)⟩
/-- 'range m' at the operation. -/
theorem wp_range {w : World} {ops : Array Oper} {rest : List Oper} {o : Oper} {a : Act} {Q : Exit → Act → World → Prop} (hg : o.guard = none) (m : Operand) (hop : o.op = Op.range 59 m) {b n : Nat} {p : Nat → Prop} (hm : a.eval m = .map (some b)) (h : MSet w b n p)
    (hK : ∀ w' cnt, MRange w' b w.heap.size n p p cnt → Keeps w w' → w'.heap.size = w.heap.size + 1 → wpList Try.prog ops Q rest (a.put o.dst (.pointer (some ⟨w.heap.size, 0, none⟩))) w') : wpList Try.prog ops Q (o :: rest) a w := by
  obtain ⟨D, h1, h2⟩ := h
  refine wpList_range_own _ hg m _ hop 3 4 keyI Try.underlying59 _ b n D hm h1 (fun w' r1 r2 r3 => hK w' _ ⟨D, _, r1, h2, fun y => h2.has y⟩ ⟨r2.os, r2.tape, r2.output, r2.size, fun i hi => r2.block i hi (by simp)⟩ r3)
/-- The step of the range at the operation. -/
theorem wp_next {w : World} {ops : Array Oper} {rest : List Oper} {o : Oper} {a : Act} {Q : Exit → Act → World → Prop} (hg : o.guard = none) (it : Operand) (hop : o.op = Op.next it false) {b r n cnt : Nat} {p left : Nat → Prop} (hit : a.eval it = .pointer (some ⟨r, 0, none⟩)) (h : MRange w b r n p left cnt)
    (hDone : (∀ y, ¬ left y) → wpList Try.prog ops Q rest (a.put o.dst (.tuple #[.bool false])) w)
    (hMore : ∀ (y : Nat) (c : Bool) (w' : World) (cnt' : Nat), left y → p y → MRange w' b r n p (fun z => left z ∧ z ≠ y) cnt' → cnt' < cnt → w.grownBy w' (some r) → w'.heap.size = w.heap.size → (Instr.entry (.pointer (some ⟨r, 0, none⟩))).run Try.prog w' = .ok (.tuple #[.int .i64 y, .bool c]) w' → wpList Try.prog ops Q rest (a.put o.dst (.tuple #[.bool true, .int .i64 y, .bool c])) w') :
    wpList Try.prog ops Q (o :: rest) a w := by
  obtain ⟨D, lf, h1, h2, h3⟩ := h
  refine wpList_next_ranges _ hg it hop 3 keyI (plainElem Try.prog 4) (Value.int .i64) Value.bool (fun key kl hkey => by obtain ⟨x, rfl, _⟩ := Maps.keyOf_int_inv Try.underlying3 hkey; exact ⟨x, rfl⟩) (fun v y hv => by obtain ⟨c, rfl, _⟩ := bool_inv hv; exact ⟨c, rfl⟩)
    b r n D lf cnt hit h1 (fun _ hl => hDone fun y hy => by have := hl (kI y); rw [(h3 y).2 hy] at this; cases this) (fun x c kl y w' cnt' hkey hlk hv hat hrg hlt hgr hsz hen => ?_)
  obtain ⟨x', ex, rfl, hwx⟩ := Maps.keyOf_int_inv Try.underlying3 hkey
  cases ex
  obtain ⟨z, ez, hz⟩ := h2.only _ (Maps.has_true_of_atKey hat)
  have e : x = (z : Int) := by simpa using ez
  subst e
  refine hMore z c w' cnt' ((h3 z).1 hlk) hz ⟨D, _, hrg, h2, fun y => ?_⟩ hlt hgr hsz hen
  rw [Bool.and_eq_true, Bool.not_eq_true', h3 y]
  refine and_congr Iff.rfl ?_
  constructor
  · intro h e; rw [e, same_self] at h; cases h
  · intro h
    cases hs : (kI y).sameKey (kI z)
    · rfl
    · exact absurd ((same_iff y z).1 hs) h
/-- The same, what is known behind it hidden from the walk. -/
theorem wp_nextH {w : World} {ops : Array Oper} {rest : List Oper} {o : Oper} {a : Act} {Q : Exit → Act → World → Prop} (hg : o.guard = none) (it : Operand) (hop : o.op = Op.next it false) {b r n cnt : Nat} {p left : Nat → Prop} (hit : a.eval it = .pointer (some ⟨r, 0, none⟩)) (h : MRange w b r n p left cnt)
    (hDone : Hid (∀ y, ¬ left y) → wpList Try.prog ops Q rest (a.put o.dst (.tuple #[.bool false])) w)
    (hMore : ∀ (y : Nat) (c : Bool) (w' : World) (cnt' : Nat), Hid (p y ∧ MRange w' b r n p (fun z => left z ∧ z ≠ y) cnt' ∧ cnt' < cnt ∧ w.grownBy w' (some r)) → (Instr.entry (.pointer (some ⟨r, 0, none⟩))).run Try.prog w' = .ok (.tuple #[.int .i64 y, .bool c]) w' → wpList Try.prog ops Q rest (a.put o.dst (.tuple #[.bool true, .int .i64 y, .bool c])) w') :
    wpList Try.prog ops Q (o :: rest) a w :=
  wp_next hg it hop hit h (fun hd => hDone (Lib.hid hd)) (fun y c w' cnt' _ h2 h3 h4 h5 _ h7 => hMore y c w' cnt' (Lib.hid ⟨h2, h3, h4, h5⟩) h7)
end Go.Proofs.Ytpgipkcbdppplaa
