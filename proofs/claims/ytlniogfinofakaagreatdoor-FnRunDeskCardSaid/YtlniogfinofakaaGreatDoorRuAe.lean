/-
  The call's own []int: stores, make, and an append of all of another slice. Plain laws; no condition but bounds on lengths.
-/
import Derived.Test.YtlniogfinofakaaGreatDoorRuAd
import Derived.Deep.OwnRows
import Derived.Lib.SliceRun
import Derived.Test.YtlniogfinofakaaGreatDoorRuAb
namespace Go.Proofs.YtlniogfinofakaaGreatDoor
set_option maxRecDepth 100000
open Go.RowKit

theorem OwnInts.set {w : World} {lo g n c : Nat} {l : List Int} (h : OwnInts w lo (some ⟨g, 0, none⟩) n c l) (j : Nat) (x : Int) : OwnInts (w.setCell ⟨g, j, none⟩ (.int .i64 x)) lo (some ⟨g, 0, none⟩) n c (l.set j x) := by
  have := (World.ownsRow.stored h j (.int .i64 x)).1
  unfold OwnInts
  rwa [List.map_set]
theorem OwnInts.frozen {w : World} {lo g n c : Nat} {l : List Int} (h : OwnInts w lo (some ⟨g, 0, none⟩) n c l) (j : Nat) : w.frozen? ⟨g, j, none⟩ = false := World.ownsRow.frozenAt h j
theorem OwnInts.at {w : World} {lo n c : Nat} {A : Option Addr} {l : List Int} (h : OwnInts w lo A n c l) (hn : 1 ≤ n) : ∃ g, A = some ⟨g, 0, none⟩ := by
  rcases h.2 with ⟨e, h0⟩ | ⟨g, cap, cur, e, _⟩
  · omega
  · cases e; exact ⟨g, rfl⟩
theorem OwnInts.cell {w : World} {lo g n c : Nat} {l : List Int} (h : OwnInts w lo (some ⟨g, 0, none⟩) n c l) (j : Nat) (hj : j < n) : w.cell? ⟨g, j, none⟩ = some (.int .i64 (l.getD j 0)) := by
  have hl := h.len
  rw [World.ownsRow.cellAt h j (by omega)]
  simp [List.getElem?_eq_getElem (show j < l.length by omega)]
theorem OwnInts.block {w : World} {lo g n c : Nat} {l : List Int} (h : OwnInts w lo (some ⟨g, 0, none⟩) n c l) : lo ≤ g ∧ g < w.heap.size := own_block h g rfl
theorem OwnInts.set_other {w : World} {lo g n c : Nat} {l : List Int} (h : OwnInts w lo (some ⟨g, 0, none⟩) n c l) (d j : Nat) (v : Value) (hd : d ≠ g) : OwnInts (w.setCell ⟨d, j, none⟩ v) lo (some ⟨g, 0, none⟩) n c l :=
  own_kept h (grown_set w d j v) (fun k hk e => by simp at hk e; omega)
theorem OwnInts.make (w : World) (lo n : Nat) (hlo : lo ≤ w.heap.size) (hn : n ≤ 1099511627776) : OwnInts (w.alloc (.cells (madeCells #[.int .i64 0] n) 3)) lo (some ⟨w.heap.size, 0, none⟩) n n (List.replicate n 0) := by
  have h := World.ownsRow_lit (base := lo) (size := 1) (e := 3) w (madeCells #[.int .i64 0] n) n hlo (by unfold maxLen; omega) (by simp [size_madeCells])
  rw [toList_madeCells_one] at h
  unfold OwnInts
  simpa using h
/-- 'make([]int, n)' in whatever world. -/
theorem make_ints (n : Nat) (hn : n ≤ 1099511627776) (w : World) : (Instr.makeSlice 45 (.int .i64 n) (.int .i64 n)).run Tryz.prog w = .ok (.slice (some ⟨w.heap.size, 0, none⟩) n n) (w.alloc (.cells (madeCells #[.int .i64 0] n) 3)) :=
  run_make_row' (P := Tryz.prog) 45 3 (.int .i64 0) 8 Tryz.underlying45 info_int rfl .i64 .i64 n (by omega) (by omega) w
theorem OwnInts.none {w : World} {lo n c : Nat} {l : List Int} (h : OwnInts w lo none n c l) : n = 0 ∧ c = 0 := by
  rcases h.2 with ⟨e, h0⟩ | ⟨g, cap, cur, e, _⟩
  · cases e; exact ⟨rfl, rfl⟩
  · cases e
/-- 's = append(s, y...)' where s is the call's own. -/
theorem wp_spread_int {ops : Array Oper} {rest : List Oper} {o : Oper} {a : Act} {Q : Exit → Act → World → Prop}
    (hgd : o.guard = none) (s y : Operand) (ho : o.op = .call { callee := .builtin .append, args := #[s, y], argTypes := #[45, 45] })
    (lo : Nat) (A : Option Addr) (n c : Nat) (l : List Int) (w : World) (hs : a.eval s = .slice A n c) (hown : OwnInts w lo A n c l)
    (b off m k : Nat) (z : Nat → Int) (hx : a.eval y = .slice (some ⟨b, off, none⟩) m k) (hz : ∀ i, i < m → w.cell? ⟨b, off + i, none⟩ = some (.int .i64 (z i))) (hn : n + m ≤ 1099511627776) (h1 : 1 ≤ n + m) (hbase : lo ≤ w.heap.size)
    (h : ∀ (g c' : Nat) (w' : World), OwnInts w' lo (some ⟨g, 0, none⟩) (n + m) c' (l ++ (List.range m).map z) → w.grownBy w' (A.map (·.block)) → wpList Tryz.prog ops Q rest (a.put o.dst (.slice (some ⟨g, 0, none⟩) (n + m) c')) w') :
    wpList Tryz.prog ops Q (o :: rest) a w := by
  obtain ⟨i0, hi, hz0, hz1, hz2⟩ := info_parts info_int
  refine wpList_append_own _ hgd s y 45 ho lo 3 i0 _ 1 8 Tryz.underlying45 hi hz0 hz1 hz2 rfl (by decide) _ n _ hs hown ⟨b, off, none⟩ m k (((List.range m).map z).map (Value.int .i64)) hx (by simp) (fun j u hj => ?_) (fun u hu => ?_)
    (by unfold maxLen; omega) (by omega) hbase (fun v' w' hown' hg hnil => ?_)
  · have hjm : j < m := by
      have := (List.getElem?_eq_some_iff.1 hj).1
      simpa using this
    rw [show (⟨b, off, none⟩ : Addr).add j = ⟨b, off + j, none⟩ from Addr.add_lit _ _ _, hz j hjm, ← hj]
    simp [hjm]
  · simp at hu
    obtain ⟨x, _, rfl⟩ := hu
    rfl
  · have hob : (Value.slice A n c).ownBlock = A.map (·.block) := by cases A <;> rfl
    rw [hob] at hg
    rcases hown'.2 with ⟨rfl, h0⟩ | ⟨g, cap, cur, rfl, rest'⟩
    · omega
    · exact h g cap w' (by unfold OwnInts; rw [List.map_append]; exact hown') hg
/-- Numbers of a function as ints. -/
def fl (n : Nat) (g : Nat → Nat) : List Int := (List.range n).map (fun i => ((g i : Nat) : Int))
theorem fl_succ (n : Nat) (g : Nat → Nat) : fl (n + 1) g = fl n g ++ [((g n : Nat) : Int)] := by unfold fl; rw [List.range_succ, List.map_append]; rfl
theorem fl_len (n : Nat) (g : Nat → Nat) : (fl n g).length = n := by simp [fl]
theorem fl_getD (n : Nat) (g : Nat → Nat) (i : Nat) (h : i < n) : (fl n g).getD i 0 = ((g i : Nat) : Int) := by simp [fl, h]
theorem fl_set (n : Nat) (g : Nat → Nat) (p v : Nat) : (fl n g).set p ((v : Nat) : Int) = fl n (fun i => if i = p then v else g i) := by
  apply List.ext_getElem
  · simp [fl]
  · intro i h1 h2
    simp [fl, List.getElem_set]
    by_cases e : p = i
    · subst e; simp
    · rw [if_neg e, if_neg (fun h => e h.symm)]
theorem fl_congr (n : Nat) (g g' : Nat → Nat) (h : ∀ i, i < n → g i = g' i) : fl n g = fl n g' := by
  unfold fl
  apply List.map_congr_left
  intro i hi
  rw [h i (by simpa using hi)]
/-- Ints of a function. -/
def il (n : Nat) (g : Nat → Int) : List Int := (List.range n).map g
theorem il_succ (n : Nat) (g : Nat → Int) : il (n + 1) g = il n g ++ [g n] := by unfold il; rw [List.range_succ, List.map_append]; rfl
theorem il_len (n : Nat) (g : Nat → Int) : (il n g).length = n := by simp [il]
theorem il_getD (n : Nat) (g : Nat → Int) (i : Nat) (h : i < n) : (il n g).getD i 0 = g i := by simp [il, h]
theorem il_set (n : Nat) (g : Nat → Int) (p : Nat) (v : Int) : (il n g).set p v = il n (fun i => if i = p then v else g i) := by
  apply List.ext_getElem
  · simp [il]
  · intro i h1 h2
    simp [il, List.getElem_set]
    by_cases e : p = i
    · subst e; simp
    · rw [if_neg e, if_neg (fun h => e h.symm)]
theorem il_congr (n : Nat) (g g' : Nat → Int) (h : ∀ i, i < n → g i = g' i) : il n g = il n g' := by
  unfold il
  apply List.map_congr_left
  intro i hi
  exact h i (by simpa using hi)
theorem il_zero (n : Nat) : List.replicate n (0 : Int) = il n (fun _ => 0) := by
  unfold il
  induction n with
  | zero => rfl
  | succ n ih => rw [List.range_succ, List.map_append, ← ih, List.replicate_succ']; rfl
theorem il_self (l : List Int) (n : Nat) (h : l.length = n) : il n (fun i => l.getD i 0) = l := by
  subst h
  apply List.ext_getElem
  · simp [il]
  · intro i h1 h2
    simp [il, List.getElem?_eq_getElem h2]
theorem il_none (g : Nat → Int) : il 0 g = [] := rfl
theorem grown_refl (w : World) (r : Option Nat) : w.grownBy w r := ⟨rfl, rfl, rfl, Nat.le_refl _, fun _ _ _ => rfl⟩
theorem grown_step {w w1 w2 : World} {r : Option Nat} (h : w.grownBy w1 r) (k : w1.grownBy w2 r) : w.grownBy w2 r :=
  ⟨k.os.trans h.os, k.tape.trans h.tape, k.output.trans h.output, Nat.le_trans h.size k.size, fun i hi hn => (k.block i (Nat.lt_of_lt_of_le hi h.size) hn).trans (h.block i hi hn)⟩
theorem grown_keeps {w w1 : World} {r : Option Nat} (h : Keeps w w1) : w.grownBy w1 r := ⟨h.os, h.tape, h.output, h.size, fun i hi _ => h.block i hi⟩
theorem OwnInts.zero {w : World} {lo n c : Nat} {A : Option Addr} {l : List Int} (h : OwnInts w lo A n c l) (g : Nat → Int) (h0 : n = 0) : OwnInts w lo A n c (il n g) := by
  have := h.len
  subst h0
  rw [il_none]
  rwa [List.eq_nil_of_length_eq_zero this] at h
end Go.Proofs.YtlniogfinofakaaGreatDoor
/-
  The contract of slices.Clone at []int: a copy in new memory. Condition: a length of 1 to 2^40.
-/
namespace Go.Proofs.YtlniogfinofakaaGreatDoor
set_option maxRecDepth 100000
set_option maxRecDepth 100000
open Go.RowKit

/-- Ints in new memory. -/
def NewInts (n : Nat) (x : Nat → Int) (w : World) (e : Ending) (w' : World) : Prop :=
  ∃ (g c : Nat), e = .returned (.slice (some ⟨g, 0, none⟩) n c) ∧ OwnInts w' w.heap.size (some ⟨g, 0, none⟩) n c (il n x) ∧ Keeps w w'
theorem eql_nil (w : World) (a : Option Addr) (n c n' c' : Nat) : (binOp .eql 45 (.slice a n c) (.slice none n' c')).run Tryz.prog w = .ok (.bool a.isNone) w := Lib.run_eql_slice_nil w _ _ a n c n' c' Tryz.underlying45
set_option maxHeartbeats 1000000 in
theorem slClone_any (b off n c : Nat) (z : Nat → Int) (w : World) (h1 : 1 ≤ n) (hn : n ≤ 1099511627776) (hz : ∀ i, i < n → w.cell? ⟨b, off + i, none⟩ = some (.int .i64 (z i))) :
    Calls Tryz.prog 132 #[.slice (some ⟨b, off, none⟩) n c] w (NewInts n z w) := by
  have HZ := Lib.hid hz
  clear hz
  have q := eql_nil
  go_enter Tryz.func132, Tryz.ntmps132
  go_wp2_with (first | (at_builtin; refine wp_spread_int rfl _ _ rfl w.heap.size (some ⟨w.heap.size, 0, none⟩) 0 0 [] _ rfl (OwnInts.made _ _ (Nat.le_refl _)) b off n c z rfl (fun i hi => cell_keeps (Keeps.alloc _ _) (HZ.out i hi)) (by omega) (by omega) (by simp) ?_; intro g2 c2 w6 hO6 hg6))
  have hO6 : OwnInts w6 w.heap.size (some ⟨g2, 0, none⟩) n c2 (il n z) := by have := hO6; rw [Nat.zero_add, List.nil_append] at this; exact this
  go_wp2
  go_ret
  exact ⟨g2, c2, by simp, hO6, (Keeps.alloc w _).grown (OwnInts.made w w.heap.size (Nat.le_refl _)) (Nat.le_refl _) hg6⟩
end Go.Proofs.YtlniogfinofakaaGreatDoor
/-
  The contracts of the numbers of tokens: powers, codes. Condition: at most five states and machines.
-/
namespace Go.Proofs.YtlniogfinofakaaGreatDoor
set_option maxRecDepth 100000
set_option linter.unusedVariables false
open Go.RowKit

theorem pow5 {k n : Nat} (hk : k ≤ 5) (hn : n ≤ 5) : k ^ n ≤ 3125 := Nat.le_trans (Nat.pow_le_pow_left hk n) (Nat.le_trans (Nat.pow_le_pow_right (by omega) hn) (by decide))
theorem wrapMul (a b : Nat) (h : a * b < 1000000) : wrap64 ((a : Int) * (b : Int)) = ((a * b : Nat) : Int) := by
  rw [← Int.natCast_mul]
  exact IntWalk.wrap64_in _ (by omega)
theorem wrapMul' (a b : Nat) (h : a * b < 1000000) : IntKind.i64.wrap ((a : Int) * (b : Int)) = ((a * b : Nat) : Int) := by
  rw [← Int.natCast_mul, IntKind.wrap_i64]
  omega
end Go.Proofs.YtlniogfinofakaaGreatDoor
