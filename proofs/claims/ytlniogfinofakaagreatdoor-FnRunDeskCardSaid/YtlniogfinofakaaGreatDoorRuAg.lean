/-
  The contracts of the exact laws' words on []int: toIntS, szIntS, markIntS, heldIntS. Conditions: bounds on lengths and numbers.
-/
import Derived.Test.YtlniogfinofakaaGreatDoorRuAe
import Derived.Test.YtlniogfinofakaaGreatDoorRuAc
namespace Go.Proofs.YtlniogfinofakaaGreatDoor
set_option maxRecDepth 100000
open Go.RowKit

/-- What is left of a bound. -/
def szLeft (n : Nat) (left : Int) : Int := if left - n < 0 then -1 else left - n
end Go.Proofs.YtlniogfinofakaaGreatDoor
/-
  The contracts of the exact laws' words on [][]int: toIntSS, szIntSS, markIntSS, heldIntSS. Conditions: bounds on lengths and numbers.
-/
namespace Go.Proofs.YtlniogfinofakaaGreatDoor
set_option maxRecDepth 100000
open Go.RowKit

/-- The blocks ahead of lo, and those from hi on that were there, are as they were. -/
def Mid (lo hi : Nat) (w w' : World) : Prop := w'.os = w.os ∧ w'.tape = w.tape ∧ w'.output = w.output ∧ w.heap.size ≤ w'.heap.size ∧ ∀ i, i < w.heap.size → (i < lo ∨ hi ≤ i) → w'.heap[i]? = w.heap[i]?
theorem Mid.refl (lo hi : Nat) (w : World) : Mid lo hi w w := ⟨rfl, rfl, rfl, Nat.le_refl _, fun _ _ _ => rfl⟩
theorem Mid.step {lo hi : Nat} {w w1 w2 : World} (h : Mid lo hi w w1) (k : Mid lo hi w1 w2) : Mid lo hi w w2 :=
  ⟨k.1.trans h.1, k.2.1.trans h.2.1, k.2.2.1.trans h.2.2.1, Nat.le_trans h.2.2.2.1 k.2.2.2.1, fun i hi hn => (k.2.2.2.2 i (Nat.lt_of_lt_of_le hi h.2.2.2.1) hn).trans (h.2.2.2.2 i hi hn)⟩
theorem Mid.size {lo hi : Nat} {w w' : World} (h : Mid lo hi w w') : w.heap.size ≤ w'.heap.size := h.2.2.2.1
theorem Mid.ofKeeps {lo hi : Nat} {w w' : World} (h : Keeps w w') : Mid lo hi w w' := ⟨h.os, h.tape, h.output, h.size, fun i hi _ => h.block i hi⟩
theorem Mid.ofGrown {lo hi : Nat} {w w' : World} {row : Option Nat} (h : w.grownBy w' row) (hr : ∀ d, row = some d → lo ≤ d ∧ d < hi) : Mid lo hi w w' := ⟨h.os, h.tape, h.output, h.size, fun i hi hn => h.block i hi (fun e => by have := hr i e.symm; omega)⟩
theorem Mid.wide {lo hi lo' hi' : Nat} {w w' : World} (h : Mid lo hi w w') (h1 : lo' ≤ lo) (h2 : hi ≤ hi') : Mid lo' hi' w w' := ⟨h.1, h.2.1, h.2.2.1, h.2.2.2.1, fun i hi hn => h.2.2.2.2 i hi (by omega)⟩
theorem Mid.cell {lo hi : Nat} {w w' : World} (h : Mid lo hi w w') {a : Addr} {v : Value} (hc : w.cell? a = some v) (hn : a.block < lo ∨ hi ≤ a.block) : w'.cell? a = some v := by
  rw [← hc]
  exact World.cell?_of_block (h.2.2.2.2 _ (World.block_lt_of_cell? w _ hc) hn)
theorem Mid.own {lo hi : Nat} {w w' : World} (h : Mid lo hi w w') {l n c s m : Nat} {E : TypeId} {A : Option Addr} {xs : List Value} (o : w.ownsRow l E s (.slice A n c) m xs) (hn : ∀ k, A.map (·.block) = some k → k < lo ∨ hi ≤ k) : w'.ownsRow l E s (.slice A n c) m xs := by
  refine ⟨o.1, ?_⟩
  rcases o.2 with h2 | ⟨g, cap, cur, e, hb, hg, rest⟩
  · exact .inl h2
  · refine .inr ⟨g, cap, cur, e, hb, ?_, rest⟩
    have hA : A = some ⟨g, 0, none⟩ := by cases e; rfl
    rw [h.2.2.2.2 g (Array.getElem?_eq_some_iff.1 hg).1 (hn g (by rw [hA]; rfl))]
    exact hg
theorem Mid.ints {lo hi : Nat} {w w' : World} (h : Mid lo hi w w') {l n c : Nat} {A : Option Addr} {L : List Int} (o : OwnInts w l A n c L) (hn : ∀ k, A.map (·.block) = some k → k < lo ∨ hi ≤ k) : OwnInts w' l A n c L := h.own o hn
theorem Mid.keeps {lo hi : Nat} {w0 w w' : World} (h : Mid lo hi w w') (k : Keeps w0 w) (hl : w0.heap.size ≤ lo) : Keeps w0 w' :=
  ⟨h.1.trans k.os, h.2.1.trans k.tape, h.2.2.1.trans k.output, Nat.le_trans k.size h.size, fun i hi => (h.2.2.2.2 i (Nat.lt_of_lt_of_le hi k.size) (.inl (by omega))).trans (k.block i hi)⟩

/-- Values of a function, as a list. -/
def rl (n : Nat) (f : Nat → Value) : List Value := (List.range n).map f
theorem rl_set (n : Nat) (f : Nat → Value) (p : Nat) (v : Value) : (rl n f).set p v = rl n (fun i => if i = p then v else f i) := by
  apply List.ext_getElem
  · simp [rl]
  · intro i h1 h2
    simp [rl, List.getElem_set]
    by_cases e : p = i
    · subst e; simp
    · rw [if_neg e, if_neg (fun h => e h.symm)]
theorem rl_congr (n : Nat) (f f' : Nat → Value) (h : ∀ i, i < n → f i = f' i) : rl n f = rl n f' := by
  unfold rl
  apply List.map_congr_left
  intro i hi
  exact h i (by simpa using hi)
theorem rl_get (n : Nat) (f : Nat → Value) (i : Nat) (h : i < n) : (rl n f)[i]? = some (f i) := by simp [rl, h]
/-- The call's own [][]int: n rows, row i at A i, of Ln i ints X i; no two rows in the same block. -/
structure OwnMat (w : World) (lo : Nat) (A0 : Option Addr) (n c0 : Nat) (A : Nat → Option Addr) (Ln Cp : Nat → Nat) (X : Nat → Nat → Int) : Prop where
  top : w.ownsRow lo 45 1 (.slice A0 n c0) n (rl n fun i => .slice (A i) (Ln i) (Cp i))
  row : ∀ i, i < n → OwnInts w lo (A i) (Ln i) (Cp i) (il (Ln i) (X i))
  apart : ∀ i j, i < n → j < n → ∀ d, (A i).map (·.block) = some d → (A j).map (·.block) = some d → i = j
section
variable {w w' : World} {lo lo' n c0 : Nat} {A0 : Option Addr} {A : Nat → Option Addr} {Ln Cp : Nat → Nat} {X : Nat → Nat → Int}
theorem OwnMat.keeps (h : OwnMat w lo A0 n c0 A Ln Cp X) (k : Keeps w w') : OwnMat w' lo A0 n c0 A Ln Cp X :=
  ⟨own_keeps h.top k, fun i hi => (h.row i hi).keeps k, h.apart⟩
theorem OwnMat.mono (h : OwnMat w lo A0 n c0 A Ln Cp X) (hl : lo' ≤ lo) : OwnMat w lo' A0 n c0 A Ln Cp X := by
  refine ⟨⟨h.top.1, ?_⟩, fun i hi => (h.row i hi).mono hl, h.apart⟩
  rcases h.top.2 with h2 | ⟨g, cap, cur, e, hg, r⟩
  · exact .inl h2
  · exact .inr ⟨g, cap, cur, e, Nat.le_trans hl hg, r⟩
theorem OwnMat.mid {l1 hi : Nat} (h : OwnMat w lo A0 n c0 A Ln Cp X) (m : Mid l1 hi w w') (h0 : ∀ k, A0.map (·.block) = some k → k < l1 ∨ hi ≤ k) (h1 : ∀ i, i < n → ∀ k, (A i).map (·.block) = some k → k < l1 ∨ hi ≤ k) : OwnMat w' lo A0 n c0 A Ln Cp X :=
  ⟨m.own h.top h0, fun i hi => m.ints (h.row i hi) (h1 i hi), h.apart⟩
theorem OwnMat.at (h : OwnMat w lo A0 n c0 A Ln Cp X) (hn : 1 ≤ n) : ∃ g, A0 = some ⟨g, 0, none⟩ := by
  rcases h.top.2 with ⟨_, h0⟩ | ⟨g, cap, cur, e, _⟩
  · omega
  · cases e; exact ⟨g, rfl⟩
theorem OwnMat.cell {g : Nat} (h : OwnMat w lo (some ⟨g, 0, none⟩) n c0 A Ln Cp X) (i : Nat) (hi : i < n) : w.cell? ⟨g, i, none⟩ = some (.slice (A i) (Ln i) (Cp i)) := by
  rw [h.top.cellAt i (by omega)]
  exact rl_get n _ i hi
theorem OwnMat.rows (h : OwnMat w lo A0 n c0 A Ln Cp X) : Rows w A0 n (fun i => (A i, Ln i, Cp i)) X := fun i hi => by
  obtain ⟨g, rfl⟩ := h.at (by omega)
  exact ⟨⟨g, 0, rfl, by rw [Nat.zero_add]; exact h.cell i hi⟩, fun j hj => by
    obtain ⟨b, off, e, hc⟩ := (h.row i hi).ints j hj
    exact ⟨b, off, e, by dsimp only at hc; rw [il_getD _ _ _ hj] at hc; exact hc⟩⟩
theorem OwnMat.blo (h : OwnMat w lo A0 n c0 A Ln Cp X) : ∀ k, A0.map (·.block) = some k → lo ≤ k ∧ k < w.heap.size := own_block h.top
theorem OwnMat.rblo (h : OwnMat w lo A0 n c0 A Ln Cp X) (i : Nat) (hi : i < n) : ∀ k, (A i).map (·.block) = some k → lo ≤ k ∧ k < w.heap.size := own_block (h.row i hi)
end
theorem mat_set {w : World} {lo n c0 b : Nat} {A0 : Option Addr} {A : Nat → Option Addr} {Ln Cp : Nat → Nat} {X : Nat → Nat → Int} {T : TypeId} {cs : Array Value} (h : OwnMat w lo A0 n c0 A Ln Cp X) (hb : Blk w b T cs) (hT : T ≠ 3) (hT2 : T ≠ 45) (o : Nat) (v : Value) : OwnMat (w.setCell ⟨b, o, none⟩ v) lo A0 n c0 A Ln Cp X :=
  ⟨own_kept h.top (grown_set w b o v) (own_other h.top hb hT2), fun i hi => (h.row i hi).grown (grown_set w b o v) hb hT, h.apart⟩
theorem info_ints' : (Tryz.prog.info? 45).map (fun i => (i.zero, i.size, i.bytes)) = some (some (.slice none 0 0), 1, 24) := by kernel_rfl
/-- 'make([][]int, n)' in whatever world. -/
theorem make_rows_n (n : Nat) (hn : n ≤ 1099511627776) (w : World) : (Instr.makeSlice 52 (.int .i64 n) (.int .i64 n)).run Tryz.prog w = .ok (.slice (some ⟨w.heap.size, 0, none⟩) n n) (w.alloc (.cells (madeCells #[.slice none 0 0] n) 45)) :=
  run_make_row' (P := Tryz.prog) 52 45 (.slice none 0 0) 24 Tryz.underlying52 info_ints' rfl .i64 .i64 n (by omega) (by omega) w
theorem own_rows_make (w : World) (lo n : Nat) (hlo : lo ≤ w.heap.size) (hn : n ≤ 1099511627776) : (w.alloc (.cells (madeCells #[.slice none 0 0] n) 45)).ownsRow lo 45 1 (.slice (some ⟨w.heap.size, 0, none⟩) n n) n (rl n fun _ => .slice none 0 0) := by
  have h := World.ownsRow_lit (base := lo) (size := 1) (e := 45) w (madeCells #[.slice none 0 0] n) n hlo (by unfold maxLen; omega) (by simp [size_madeCells])
  rw [toList_madeCells_one] at h
  rw [show rl n (fun _ => Value.slice none 0 0) = List.replicate n (.slice none 0 0) from by unfold rl; simp [List.map_const']]
  exact h
theorem own_other_top {w : World} {lo g0 n c g' m : Nat} {L : List Int} {xs : List Value} (h : OwnInts w lo (some ⟨g', 0, none⟩) m m L) (ht : w.ownsRow lo 45 1 (.slice (some ⟨g0, 0, none⟩) n c) n xs) : ∀ k, (some (⟨g', 0, none⟩ : Addr)).map (·.block) = some k → some g0 ≠ some k := by
  intro k hk e
  exact own_type h ht (by decide) k hk (by simpa using e)
/-- The first k lengths together. -/
def sumTo (Ln : Nat → Nat) : Nat → Nat
  | 0 => 0
  | k + 1 => sumTo Ln k + Ln k
theorem sumTo_le (Ln : Nat → Nat) (n : Nat) : ∀ k, k ≤ n → sumTo Ln k ≤ sumTo Ln n := by
  induction n with
  | zero => intro k hk; rw [show k = 0 by omega]; exact Nat.le_refl _
  | succ n ih =>
    intro k hk
    by_cases h : k = n + 1
    · rw [h]; exact Nat.le_refl _
    · exact Nat.le_trans (ih k (by omega)) (Nat.le_add_right _ _)
theorem sumTo_one (Ln : Nat → Nat) (n i : Nat) (h : i < n) : Ln i ≤ sumTo Ln n := Nat.le_trans (Nat.le_add_left _ _) (sumTo_le Ln n (i + 1) h)
end Go.Proofs.YtlniogfinofakaaGreatDoor
