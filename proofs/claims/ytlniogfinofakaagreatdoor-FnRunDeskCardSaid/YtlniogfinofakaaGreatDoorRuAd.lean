/-
  Slices that a call makes itself: an append of one element, and what stays as it was. Plain laws on the model's memory; no condition but bounds on lengths.
-/
import Derived.Test.YtlniogfinofakaaGreatDoorRuAb
import Derived.Deep.AppendLies
import Derived.Deep.RegionLaw
import Derived.Deep.RegionHeld3
namespace Go.Proofs.YtlniogfinofakaaGreatDoor
set_option maxRecDepth 100000
open Go.RowKit

theorem oneCell_slice (a : Option Addr) (n c : Nat) : (Value.slice a n c).oneCell' = true := rfl
theorem oneCell_int (n : Int) : (Value.int .i64 n).oneCell' = true := rfl

/-- 's = append(s, u)' where s is the call's own: it may have moved; it holds one more. -/
theorem wp_app {ops : Array Oper} {rest : List Oper} {o : Oper} {a : Act} {Q : Exit → Act → World → Prop} {T E : TypeId} {z : Value} {bytes : Nat}
    (hu : Tryz.prog.underlying T = some (.slice E)) (hinfo : (Tryz.prog.info? E).map (fun i => (i.zero, i.size, i.bytes)) = some (some z, 1, bytes)) (hz : z.cells.size = 1) (hby : bytes ≤ 64)
    (hgd : o.guard = none) (s y : Operand) (ho : o.op = .call { callee := .builtin .append, args := #[s, y], argTypes := #[T, T] })
    (base : Nat) (A : Option Addr) (n c : Nat) (xs : List Value) (w : World) (hs : a.eval s = .slice A n c) (hown : w.ownsRow base E 1 (.slice A n c) n xs)
    (u : Value) (hu1 : u.oneCell' = true) (hx : a.eval y = .slice (some ⟨w.heap.size, 0, none⟩) 1 1) (hn : n + 1 ≤ 1099511627776) (hbase : base ≤ w.heap.size)
    (h : ∀ (g c' : Nat) (w' : World), w'.ownsRow base E 1 (.slice (some ⟨g, 0, none⟩) (n + 1) c') (n + 1) (xs ++ [u]) → w.grownBy w' (A.map (·.block)) → wpList Tryz.prog ops Q rest (a.put o.dst (.slice (some ⟨g, 0, none⟩) (n + 1) c')) w') :
    wpList Tryz.prog ops Q (o :: rest) a (w.alloc (.cells #[u] E)) := by
  obtain ⟨i0, hi, hz0, hz1, hz2⟩ := info_parts hinfo
  refine wpList_append_own _ hgd s y T ho base E i0 z 1 bytes hu hi hz0 hz1 hz2 hz (by decide) _ n xs hs (hown.alloc _) ⟨w.heap.size, 0, none⟩ 1 1 [u] hx rfl (cell_one_new _ _ _) (fun x hx => by simp at hx; subst hx; exact hu1)
    (by unfold maxLen; omega) (Nat.le_trans (Nat.mul_le_mul_left _ hby) (by omega)) (by simp; omega) ?_
  intro v' w' hown' hg hnil
  have hob : (Value.slice A n c).ownBlock = A.map (·.block) := by cases A <;> rfl
  rw [hob] at hg
  rcases hown'.2 with ⟨rfl, h0⟩ | ⟨g, cap, cur, rfl, rest'⟩
  · exact absurd h0 (by omega)
  · exact h g cap w' hown' ⟨hg.os, hg.tape, hg.output, Nat.le_trans (by simp) hg.size, fun k hk hne => (hg.block k (by simp; omega) hne).trans (Below.heap_alloc w _ _ hk)⟩

/-- The same inside a statement that draws its order. -/
theorem step_app {ops : Array Oper} {o : Oper} {a : Act} {K : Act → World → Prop} {Q : Exit → Act → World → Prop} {D : Prop} {T E : TypeId} {z : Value} {bytes : Nat}
    (hu : Tryz.prog.underlying T = some (.slice E)) (hinfo : (Tryz.prog.info? E).map (fun i => (i.zero, i.size, i.bytes)) = some (some z, 1, bytes)) (hz : z.cells.size = 1) (hby : bytes ≤ 64)
    (hgd : o.guard = none) (s y : Operand) (ho : o.op = .call { callee := .builtin .append, args := #[s, y], argTypes := #[T, T] })
    (base : Nat) (A : Option Addr) (n c : Nat) (xs : List Value) (w : World) (hs : a.eval s = .slice A n c) (hown : w.ownsRow base E 1 (.slice A n c) n xs)
    (u : Value) (hu1 : u.oneCell' = true) (hx : a.eval y = .slice (some ⟨w.heap.size, 0, none⟩) 1 1) (hn : n + 1 ≤ 1099511627776) (hbase : base ≤ w.heap.size)
    (h : ∀ (g c' : Nat) (w' : World), w'.ownsRow base E 1 (.slice (some ⟨g, 0, none⟩) (n + 1) c') (n + 1) (xs ++ [u]) → w.grownBy w' (A.map (·.block)) → (A.map (·.block) = some g ∨ g = w.heap.size + 1) → K (a.put o.dst (.slice (some ⟨g, 0, none⟩) (n + 1) c')) w') :
    if Region.wanted o (yielded ops a.tmps) = true then Oper.wp Tryz.prog o a (w.alloc (.cells #[u] E)).drew K Q else D := by
  obtain ⟨i0, hi, hz0, hz1, hz2⟩ := info_parts hinfo
  refine step_append_lies (P := Tryz.prog) _ hgd s y T ho base E i0 z 1 bytes hu hi hz0 hz1 hz2 hz (by decide) _ n xs hs ((hown.alloc _).drew) ⟨w.heap.size, 0, none⟩ 1 1 [u] hx rfl (fun j v hj => by
      have := cell_one_new w u E j v hj
      simpa using this) (fun x hx => by simp at hx; subst hx; exact hu1) (by omega)
    (by unfold maxLen; omega) (Nat.le_trans (Nat.mul_le_mul_left _ hby) (by omega)) (by simp; omega) _ rfl ?_
  intro g c' w' hown' hg hat _
  have hob : (Value.slice A n c).ownBlock = A.map (·.block) := by cases A <;> rfl
  rw [hob] at hg hat
  exact h g c' w' hown' ⟨hg.os, hg.tape, hg.output, Nat.le_trans (by simp) hg.size, fun k hk hne => (hg.block k (by simp; omega) hne).trans (Below.heap_alloc w _ _ hk)⟩ (by simpa using hat)

theorem own_block {w : World} {base : Nat} {E : TypeId} {s : Nat} {A : Option Addr} {n c m : Nat} {xs : List Value} (h : w.ownsRow base E s (.slice A n c) m xs) : ∀ k, A.map (·.block) = some k → base ≤ k ∧ k < w.heap.size := by
  intro k hk
  refine h.lt k ?_
  cases A with
  | none => simp at hk
  | some a => simpa [Value.ownBlock] using hk
theorem Keeps.grown {w0 w w' : World} {base : Nat} {E : TypeId} {s : Nat} {A : Option Addr} {n c m : Nat} {xs : List Value} (h : Keeps w0 w) (hown : w.ownsRow base E s (.slice A n c) m xs) (hb : w0.heap.size ≤ base) (hg : w.grownBy w' (A.map (·.block))) : Keeps w0 w' :=
  Below.grown h hg h.size (fun k hk => Nat.le_trans hb (own_block hown k hk).1)
/-- What is owned stays owned while a block that is not its own turns. -/
theorem own_kept {w w' : World} {base : Nat} {E : TypeId} {s : Nat} {A : Option Addr} {n c m : Nat} {xs : List Value} {row : Option Nat} (h : w.ownsRow base E s (.slice A n c) m xs) (hg : w.grownBy w' row) (hne : ∀ k, A.map (·.block) = some k → row ≠ some k) : w'.ownsRow base E s (.slice A n c) m xs := by
  refine h.kept hg ?_
  cases A with
  | none => exact .inl rfl
  | some a => exact .inr (fun e => hne a.block rfl e.symm)
theorem own_keeps {w w' : World} {base : Nat} {E : TypeId} {s : Nat} {A : Option Addr} {n c m : Nat} {xs : List Value} (h : w.ownsRow base E s (.slice A n c) m xs) (k : Keeps w w') : w'.ownsRow base E s (.slice A n c) m xs :=
  own_kept (row := none) h ⟨k.os, k.tape, k.output, k.size, fun i hi _ => k.block i hi⟩ (fun _ _ => by simp)
/-- Two rows of elements of different types lie in different blocks. -/
theorem own_type {w : World} {b1 b2 : Nat} {E1 E2 : TypeId} {s1 s2 : Nat} {A1 A2 : Option Addr} {n1 c1 m1 n2 c2 m2 : Nat} {xs1 xs2 : List Value} (h1 : w.ownsRow b1 E1 s1 (.slice A1 n1 c1) m1 xs1) (h2 : w.ownsRow b2 E2 s2 (.slice A2 n2 c2) m2 xs2) (hE : E1 ≠ E2) :
    ∀ k, A1.map (·.block) = some k → A2.map (·.block) ≠ some k := by
  intro k hk hk2
  rcases h1.2 with ⟨e, _⟩ | ⟨g, cap, cur, e, _, hg, _⟩
  · cases e; simp at hk
  · cases e
    rcases h2.2 with ⟨e, _⟩ | ⟨g', cap', cur', e, _, hg', _⟩
    · cases e; simp at hk2
    · cases e
      simp at hk hk2
      subst hk
      subst hk2
      rw [hg] at hg'
      cases hg'
      exact hE rfl
/-- An owned row lies in no block whose elements are of another type. -/
theorem own_other {w : World} {base : Nat} {E E' : TypeId} {s : Nat} {A : Option Addr} {n c m : Nat} {xs : List Value} {b : Nat} {cur : Array Value} {fr : Nat × Nat} (h : w.ownsRow base E s (.slice A n c) m xs) (hb : w.heap[b]? = some (.cells cur E' fr)) (hE : E' ≠ E) :
    ∀ k, A.map (·.block) = some k → some b ≠ some k := by
  intro k hk e
  rcases h.2 with ⟨e', _⟩ | ⟨g, cap, cur, e', _, hg, _⟩
  · cases e'; simp at hk
  · cases e'
    simp at hk e
    subst hk
    subst e
    rw [hg] at hb
    cases hb
    exact hE rfl
/-- A block's cells and their type. -/
def Blk (w : World) (b : Nat) (T : TypeId) (cs : Array Value) : Prop := w.heap[b]? = some (.cells cs T (0, 0))
theorem Blk.new (w : World) (cs : Array Value) (T : TypeId) : Blk (w.alloc (.cells cs T)) w.heap.size T cs := heap_alloc_new w _
theorem blk_at {w : World} {b b' : Nat} {T : TypeId} {cs : Array Value} (e : b = b') (h : Blk w b T cs) : Blk w b' T cs := e ▸ h
theorem Blk.lt {w : World} {b : Nat} {T : TypeId} {cs : Array Value} (h : Blk w b T cs) : b < w.heap.size := (Array.getElem?_eq_some_iff.1 h).1
theorem Blk.keeps {w w' : World} {b : Nat} {T : TypeId} {cs : Array Value} (h : Blk w b T cs) (k : Keeps w w') : Blk w' b T cs := (k.block b h.lt).trans h
theorem Blk.grown {w w' : World} {b : Nat} {T : TypeId} {cs : Array Value} {row : Option Nat} (h : Blk w b T cs) (k : w.grownBy w' row) (hn : some b ≠ row) : Blk w' b T cs := (k.block b h.lt hn).trans h
theorem Blk.cell {w : World} {b : Nat} {T : TypeId} {cs : Array Value} (h : Blk w b T cs) (j : Nat) : w.cell? ⟨b, j, none⟩ = cs[j]? := cell_of_row w b j cs T (0, 0) h
theorem Blk.frozen {w : World} {b : Nat} {T : TypeId} {cs : Array Value} (h : Blk w b T cs) (j : Nat) : w.frozen? ⟨b, j, none⟩ = false := frozen_of_row w b j cs T h
theorem Blk.set {w : World} {b : Nat} {T : TypeId} {cs : Array Value} (h : Blk w b T cs) (j : Nat) (u : Value) : Blk (w.setCell ⟨b, j, none⟩ u) b T (cs.setIfInBounds j u) := heap_setCell_same w b j cs T u h
theorem Blk.set_other {w : World} {b : Nat} {T : TypeId} {cs : Array Value} (h : Blk w b T cs) (a : Addr) (u : Value) (hn : b ≠ a.block) : Blk (w.setCell a u) b T cs := (Below.heap_setCell w a u b hn).trans h
theorem grown_set (w : World) (b j : Nat) (u : Value) : w.grownBy (w.setCell ⟨b, j, none⟩ u) (some b) :=
  ⟨rfl, rfl, rfl, by simp [World.setCell], fun k _ hn => Below.heap_setCell _ _ _ _ (fun e => hn (by rw [e]))⟩
theorem blk_ne {w : World} {b b' : Nat} {T T' : TypeId} {cs cs' : Array Value} (h : Blk w b T cs) (h' : Blk w b' T' cs') (hT : T ≠ T') : b ≠ b' := by
  intro e
  subst e
  unfold Blk at h h'
  rw [h] at h'
  cases h'
  exact hT rfl
/-- An owned row of ints, read by an index function. -/
theorem own_ints {w : World} {base : Nat} {E : TypeId} {A : Option Addr} {n c : Nat} {l : List Int} (h : w.ownsRow base E 1 (.slice A n c) n (l.map (Value.int .i64))) : Ints w A n (fun i => l.getD i 0) := by
  intro i hi
  have hl : l.length = n := by have := h.1; simpa using this
  rcases h.2 with ⟨e, h0⟩ | ⟨g, cap, cur, e, rest⟩
  · omega
  · cases e
    refine ⟨g, 0, rfl, ?_⟩
    rw [Nat.zero_add, h.cellAt i (by omega)]
    simp [List.getElem?_eq_getElem (show i < l.length by omega)]
theorem own_other' {w : World} {base : Nat} {E E' : TypeId} {s : Nat} {A : Option Addr} {n c m : Nat} {xs : List Value} {b : Nat} {cur : Array Value} (h : w.ownsRow base E s (.slice A n c) m xs) (hb : Blk w b E' cur) (hE : E' ≠ E) : some b ≠ A.map (·.block) := by
  cases A with
  | none => simp
  | some a => exact own_other h hb hE _ rfl
end Go.Proofs.YtlniogfinofakaaGreatDoor
/-
  Worlds in which one block and new ones have turned. Plain laws; no condition.
-/
namespace Go.Proofs.YtlniogfinofakaaGreatDoor
set_option maxRecDepth 100000
open Go.RowKit

abbrev Gro (b : Nat) (w w' : World) : Prop := w.grownBy w' (some b)
theorem Gro.refl (b : Nat) (w : World) : Gro b w w := ⟨rfl, rfl, rfl, Nat.le_refl _, fun _ _ _ => rfl⟩
theorem Gro.step {b : Nat} {w w1 w2 : World} (h : Gro b w w1) (k : Gro b w1 w2) : Gro b w w2 :=
  ⟨k.os.trans h.os, k.tape.trans h.tape, k.output.trans h.output, Nat.le_trans h.size k.size, fun i hi hn => (k.block i (Nat.lt_of_lt_of_le hi h.size) hn).trans (h.block i hi hn)⟩
theorem Gro.drewN (b : Nat) (w : World) (n : Nat) : Gro b w (w.drewN n) := ⟨rfl, rfl, rfl, Nat.le_refl _, fun _ _ _ => rfl⟩
theorem Gro.ofKeeps {b : Nat} {w w' : World} (h : Keeps w w') : Gro b w w' := ⟨h.os, h.tape, h.output, h.size, fun i hi _ => h.block i hi⟩
theorem Gro.set (b o : Nat) (w : World) (v : Value) : Gro b w (w.setCell ⟨b, o, none⟩ v) :=
  ⟨rfl, rfl, rfl, by simp [World.setCell], fun i _ hn => Below.heap_setCell _ _ _ _ (fun e => hn (by rw [e]))⟩
theorem Gro.cell {b : Nat} {w w' : World} (h : Gro b w w') {a : Addr} {v : Value} (hc : w.cell? a = some v) (hn : a.block ≠ b) : w'.cell? a = some v :=
  World.grownBy.cell h hc (fun e => hn (by simpa using e))
theorem ne_of_ge {b i n : Nat} (hb : n ≤ b) (hi : i < n) : some i ≠ some b := fun e => by
  have h : i = b := by simpa using e
  omega
theorem Gro.keeps {b : Nat} {w0 w w' : World} (h : Gro b w w') (k : Keeps w0 w) (hb : w0.heap.size ≤ b) : Keeps w0 w' :=
  k.trans ⟨h.os, h.tape, h.output, h.size, fun i hi => h.block i (Nat.lt_of_lt_of_le hi k.size) (ne_of_ge hb hi)⟩
theorem Gro.step' {b : Nat} {w0 w w' : World} {base : Nat} {E : TypeId} {s : Nat} {A : Option Addr} {n c m : Nat} {xs : List Value} (h : Gro b w0 w) (hown : w.ownsRow base E s (.slice A n c) m xs) (hb : w0.heap.size ≤ base) (hg : w.grownBy w' (A.map (·.block))) : Gro b w0 w' :=
  ⟨hg.os.trans h.os, hg.tape.trans h.tape, hg.output.trans h.output, Nat.le_trans h.size hg.size, fun i hi hn => (hg.block i (Nat.lt_of_lt_of_le hi h.size) (fun e => by have := (own_block hown i e.symm).1; omega)).trans (h.block i hi hn)⟩
theorem Gro.setAbove {b : Nat} {w0 w : World} (h : Gro b w0 w) {d o : Nat} (hd : w0.heap.size ≤ d) (v : Value) : Gro b w0 (w.setCell ⟨d, o, none⟩ v) :=
  ⟨h.os, h.tape, h.output, Nat.le_trans h.size (by simp [World.setCell]), fun i hi hn => (Below.heap_setCell _ _ _ _ (by simp; omega)).trans (h.block i hi hn)⟩
end Go.Proofs.YtlniogfinofakaaGreatDoor
/-
  The call's own []int and [][]int, as lists: an append of one element, what stays, and how they read. Plain laws; no condition but bounds on lengths.
-/
namespace Go.Proofs.YtlniogfinofakaaGreatDoor
set_option maxRecDepth 100000
open Go.RowKit

/-- The call's own []int of length n holds l. -/
def OwnInts (w : World) (lo : Nat) (A : Option Addr) (n c : Nat) (l : List Int) : Prop := w.ownsRow lo 3 1 (.slice A n c) n (l.map (Value.int .i64))
theorem OwnInts.len {w : World} {lo : Nat} {A : Option Addr} {n c : Nat} {l : List Int} (h : OwnInts w lo A n c l) : l.length = n := by have := h.1; simpa using this
theorem OwnInts.ints {w : World} {lo : Nat} {A : Option Addr} {n c : Nat} {l : List Int} (h : OwnInts w lo A n c l) : Ints w A n (fun i => l.getD i 0) := own_ints h
theorem OwnInts.keeps {w w' : World} {lo : Nat} {A : Option Addr} {n c : Nat} {l : List Int} (h : OwnInts w lo A n c l) (k : Keeps w w') : OwnInts w' lo A n c l := own_keeps h k
theorem OwnInts.nil (w : World) (lo : Nat) : OwnInts w lo none 0 0 [] := World.ownsRow_nil w lo _ 1
theorem OwnInts.made (w : World) (lo : Nat) (h : lo ≤ w.heap.size) : OwnInts (w.alloc (.cells #[] 3)) lo (some ⟨w.heap.size, 0, none⟩) 0 0 [] := World.ownsRow_made w #[] 0 h (by unfold maxLen; omega) rfl
theorem OwnInts.mono {w : World} {lo lo' : Nat} {A : Option Addr} {n c : Nat} {l : List Int} (h : OwnInts w lo A n c l) (hl : lo' ≤ lo) : OwnInts w lo' A n c l := by
  refine ⟨h.1, ?_⟩
  rcases h.2 with h2 | ⟨g, cap, cur, e, hg, r⟩
  · exact .inl h2
  · exact .inr ⟨g, cap, cur, e, Nat.le_trans hl hg, r⟩
theorem OwnInts.grown {w w' : World} {lo : Nat} {A : Option Addr} {n c : Nat} {l : List Int} {b : Nat} {T : TypeId} {cs : Array Value} (h : OwnInts w lo A n c l) (k : w.grownBy w' (some b)) (hb : Blk w b T cs) (hT : T ≠ 3) : OwnInts w' lo A n c l :=
  own_kept h k (own_other h hb hT)
theorem OwnInts.from' {w : World} {lo : Nat} {A : Option Addr} {n c : Nat} {l : List Int} (h : OwnInts w lo A n c l) : ∀ d off, A = some ⟨d, off, none⟩ → lo ≤ d := fun d off e => (own_block h d (by rw [e]; rfl)).1

theorem info_int : (Tryz.prog.info? 3).map (fun i => (i.zero, i.size, i.bytes)) = some (some (.int .i64 0), 1, 8) := by kernel_rfl
theorem wp_app_int {ops : Array Oper} {rest : List Oper} {o : Oper} {a : Act} {Q : Exit → Act → World → Prop}
    (hgd : o.guard = none) (s y : Operand) (ho : o.op = .call { callee := .builtin .append, args := #[s, y], argTypes := #[45, 45] })
    (lo : Nat) (A : Option Addr) (n c : Nat) (l : List Int) (w : World) (hs : a.eval s = .slice A n c) (hown : OwnInts w lo A n c l)
    (x : Int) (hx : a.eval y = .slice (some ⟨w.heap.size, 0, none⟩) 1 1) (hn : n + 1 ≤ 1099511627776) (hbase : lo ≤ w.heap.size)
    (h : ∀ (g c' : Nat) (w' : World), OwnInts w' lo (some ⟨g, 0, none⟩) (n + 1) c' (l ++ [x]) → w.grownBy w' (A.map (·.block)) → wpList Tryz.prog ops Q rest (a.put o.dst (.slice (some ⟨g, 0, none⟩) (n + 1) c')) w') :
    wpList Tryz.prog ops Q (o :: rest) a (w.alloc (.cells #[.int .i64 x] 3)) :=
  wp_app Tryz.underlying45 info_int rfl (by omega) hgd s y ho lo A n c _ w hs hown _ rfl hx hn hbase (fun g c' w' h1 h2 => h g c' w' (by unfold OwnInts; rw [List.map_append]; exact h1) h2)

theorem step_app_int {ops : Array Oper} {o : Oper} {a : Act} {K : Act → World → Prop} {Q : Exit → Act → World → Prop} {D : Prop}
    (hgd : o.guard = none) (s y : Operand) (ho : o.op = .call { callee := .builtin .append, args := #[s, y], argTypes := #[45, 45] })
    (lo : Nat) (A : Option Addr) (n c : Nat) (l : List Int) (w : World) (hs : a.eval s = .slice A n c) (hown : OwnInts w lo A n c l)
    (x : Int) (hx : a.eval y = .slice (some ⟨w.heap.size, 0, none⟩) 1 1) (hn : n + 1 ≤ 1099511627776) (hbase : lo ≤ w.heap.size)
    (h : ∀ (g c' : Nat) (w' : World), OwnInts w' lo (some ⟨g, 0, none⟩) (n + 1) c' (l ++ [x]) → w.grownBy w' (A.map (·.block)) → (A.map (·.block) = some g ∨ g = w.heap.size + 1) → K (a.put o.dst (.slice (some ⟨g, 0, none⟩) (n + 1) c')) w') :
    if Region.wanted o (yielded ops a.tmps) = true then Oper.wp Tryz.prog o a (w.alloc (.cells #[.int .i64 x] 3)).drew K Q else D :=
  step_app Tryz.underlying45 info_int rfl (by omega) hgd s y ho lo A n c _ w hs hown _ rfl hx hn hbase (fun g c' w' h1 h2 h3 => h g c' w' (by unfold OwnInts; rw [List.map_append]; exact h1) h2 h3)
/-- The call's own [][]int of length n holds L, each row its own. -/
def OwnRows (w : World) (lo : Nat) (A : Option Addr) (n c : Nat) (L : List (List Int)) : Prop :=
  ∃ ys : List Value, w.ownsRow lo 45 1 (.slice A n c) n ys ∧ L.length = n ∧
    ∀ i, i < n → ∃ a m k, ys[i]? = some (.slice a m k) ∧ OwnInts w lo a m k (L.getD i [])
theorem OwnRows.len {w : World} {lo : Nat} {A : Option Addr} {n c : Nat} {L : List (List Int)} (h : OwnRows w lo A n c L) : L.length = n := h.choose_spec.2.1
theorem OwnRows.nil (w : World) (lo : Nat) : OwnRows w lo none 0 0 [] := ⟨[], World.ownsRow_nil w lo _ 1, rfl, fun _ h => absurd h (Nat.not_lt_zero _)⟩
theorem OwnRows.keeps {w w' : World} {lo : Nat} {A : Option Addr} {n c : Nat} {L : List (List Int)} (h : OwnRows w lo A n c L) (k : Keeps w w') : OwnRows w' lo A n c L := by
  obtain ⟨ys, h1, h2, h3⟩ := h
  exact ⟨ys, own_keeps h1 k, h2, fun i hi => by obtain ⟨a, m, d, e, ho⟩ := h3 i hi; exact ⟨a, m, d, e, ho.keeps k⟩⟩
theorem OwnRows.grown {w w' : World} {lo : Nat} {A : Option Addr} {n c : Nat} {L : List (List Int)} {b : Nat} {T : TypeId} {cs : Array Value} (h : OwnRows w lo A n c L) (k : w.grownBy w' (some b)) (hb : Blk w b T cs) (hT : T ≠ 3) (hT2 : T ≠ 45) : OwnRows w' lo A n c L := by
  obtain ⟨ys, h1, h2, h3⟩ := h
  exact ⟨ys, own_kept h1 k (own_other h1 hb hT2), h2, fun i hi => by obtain ⟨a, m, d, e, ho⟩ := h3 i hi; exact ⟨a, m, d, e, ho.grown k hb hT⟩⟩
theorem OwnRows.mono {w : World} {lo lo' : Nat} {A : Option Addr} {n c : Nat} {L : List (List Int)} (h : OwnRows w lo A n c L) (hl : lo' ≤ lo) : OwnRows w lo' A n c L := by
  obtain ⟨ys, h1, h2, h3⟩ := h
  refine ⟨ys, ⟨h1.1, ?_⟩, h2, fun i hi => by obtain ⟨a, m, d, e, ho⟩ := h3 i hi; exact ⟨a, m, d, e, ho.mono hl⟩⟩
  rcases h1.2 with h2 | ⟨g, cap, cur, e, hg, r⟩
  · exact .inl h2
  · exact .inr ⟨g, cap, cur, e, Nat.le_trans hl hg, r⟩
/-- The block of the outer array is of no other type. -/
theorem OwnRows.blk {w w' : World} {lo : Nat} {A : Option Addr} {n c : Nat} {L : List (List Int)} {b : Nat} {T : TypeId} {cs : Array Value} (h : OwnRows w lo A n c L) (k : w.grownBy w' (A.map (·.block))) (hb : Blk w b T cs) (hT : T ≠ 45) : Blk w' b T cs := by
  obtain ⟨ys, h1, h2, h3⟩ := h
  refine hb.grown k ?_
  cases A with
  | none => simp
  | some a => exact own_other h1 hb hT _ rfl
theorem OwnRows.keepsAll {w0 w w' : World} {lo : Nat} {A : Option Addr} {n c : Nat} {L : List (List Int)} (h : OwnRows w lo A n c L) (hk : Keeps w0 w) (hb : w0.heap.size ≤ lo) (k : w.grownBy w' (A.map (·.block))) : Keeps w0 w' :=
  hk.grown h.choose_spec.1 hb k
theorem OwnRows.blo {w : World} {lo : Nat} {A : Option Addr} {n c : Nat} {L : List (List Int)} (h : OwnRows w lo A n c L) : ∀ d, A.map (·.block) = some d → lo ≤ d := fun d hd => (own_block h.choose_spec.1 d hd).1
theorem info_ints : (Tryz.prog.info? 45).map (fun i => (i.zero, i.size, i.bytes)) = some (some (.slice none 0 0), 1, 24) := by kernel_rfl
theorem wp_app_row {ops : Array Oper} {rest : List Oper} {o : Oper} {a : Act} {Q : Exit → Act → World → Prop}
    (hgd : o.guard = none) (s y : Operand) (ho : o.op = .call { callee := .builtin .append, args := #[s, y], argTypes := #[52, 52] })
    (lo : Nat) (A : Option Addr) (n c : Nat) (L : List (List Int)) (w : World) (hs : a.eval s = .slice A n c) (hown : OwnRows w lo A n c L)
    (lo2 : Nat) (ra : Option Addr) (m k : Nat) (l : List Int) (hrow : OwnInts w lo2 ra m k l) (hlo : lo ≤ lo2) (hx : a.eval y = .slice (some ⟨w.heap.size, 0, none⟩) 1 1) (hn : n + 1 ≤ 1099511627776) (hbase : lo ≤ w.heap.size)
    (h : ∀ (g c' : Nat) (w' : World), OwnRows w' lo (some ⟨g, 0, none⟩) (n + 1) c' (L ++ [l]) → w.grownBy w' (A.map (·.block)) → wpList Tryz.prog ops Q rest (a.put o.dst (.slice (some ⟨g, 0, none⟩) (n + 1) c')) w') :
    wpList Tryz.prog ops Q (o :: rest) a (w.alloc (.cells #[.slice ra m k] 45)) := by
  obtain ⟨ys, h1, h2, h3⟩ := hown
  refine wp_app Tryz.underlying52 info_ints rfl (by omega) hgd s y ho lo A n c ys w hs h1 _ rfl hx hn hbase (fun g c' w' g1 g2 => h g c' w' ⟨ys ++ [.slice ra m k], g1, by simp [h2], fun i hi => ?_⟩ g2)
  have hyl : ys.length = n := by have := h1.1; simpa using this
  have keep : ∀ {a' : Option Addr} {m' k' lo' : Nat} {l' : List Int}, OwnInts w lo' a' m' k' l' → OwnInts w' lo' a' m' k' l' := fun ho => own_kept ho g2 (fun b hb e => own_type ho h1 (by decide) b hb e)
  by_cases hin : i < n
  · obtain ⟨a', m', k', e, ho⟩ := h3 i hin
    refine ⟨a', m', k', by rw [List.getElem?_append_left (by omega)]; exact e, ?_⟩
    rw [List.getD_eq_getElem?_getD, List.getElem?_append_left (by omega), ← List.getD_eq_getElem?_getD]
    exact keep ho
  · have : i = n := by omega
    subst this
    refine ⟨ra, m, k, by rw [List.getElem?_append_right (by omega), hyl]; simp, ?_⟩
    rw [List.getD_eq_getElem?_getD, List.getElem?_append_right (by omega), h2]
    simpa using (keep hrow).mono hlo
/-- A store into an element of the first row: rows of the same lengths. -/
theorem OwnRows.setElem {w : World} {lo : Nat} {A : Option Addr} {n c : Nat} {L : List (List Int)} (h : OwnRows w lo A n c L) {d : Nat} {cur : Array Value} (hd : Blk w d 3 cur) (j : Nat) (x : Int) :
    ∃ L', OwnRows (w.setCell ⟨d, j, none⟩ (.int .i64 x)) lo A n c L' ∧ ∀ i, i < n → (L'.getD i []).length = (L.getD i []).length := by
  obtain ⟨ys, h1, h2, h3⟩ := h
  have each : ∀ i, i < n → ∃ l : List Int, (∃ a m k, ys[i]? = some (.slice a m k) ∧ OwnInts (w.setCell ⟨d, j, none⟩ (.int .i64 x)) lo a m k l) ∧ l.length = (L.getD i []).length := by
    intro i hi
    obtain ⟨a, m, k, e, ho⟩ := h3 i hi
    by_cases hb : a.map (·.block) = some d
    · have e2 := ho.2
      rcases e2 with ⟨e3, _⟩ | ⟨g, cap, cur', e3, rest⟩
      · cases e3; simp at hb
      · cases e3
        simp at hb
        subst hb
        refine ⟨(L.getD i []).set j x, ⟨_, m, k, e, ?_⟩, by simp⟩
        have := (World.ownsRow.stored ho j (.int .i64 x)).1
        unfold OwnInts
        rwa [List.map_set]
    · exact ⟨L.getD i [], ⟨a, m, k, e, own_kept ho (grown_set w d j _) (fun b' hb' e' => hb (by rw [hb', ← e']))⟩, rfl⟩
  obtain ⟨f, hf⟩ := Deep.choose_lt each
  refine ⟨(List.range n).map f, ⟨ys, own_kept h1 (grown_set w d j _) (own_other h1 hd (by decide)), by simp, fun i hi => ?_⟩, fun i hi => ?_⟩
  · have : ((List.range n).map f).getD i [] = f i := by simp [hi]
    rw [this]
    exact (hf i hi).1
  · have : ((List.range n).map f).getD i [] = f i := by simp [hi]
    rw [this]
    exact (hf i hi).2
theorem OwnRows.cut0 {w : World} {lo : Nat} {A : Option Addr} {n c : Nat} {L : List (List Int)} (h : OwnRows w lo A n c L) : OwnRows w lo A 0 c [] := by
  obtain ⟨ys, h1, h2, h3⟩ := h
  refine ⟨[], ⟨rfl, ?_⟩, rfl, fun i hi => absurd hi (Nat.not_lt_zero _)⟩
  rcases h1.2 with ⟨e, h0⟩ | ⟨g, cap, cur, e, hg, r1, r2, r3, r4, r5⟩
  · cases e; exact .inl ⟨rfl, rfl⟩
  · cases e; exact .inr ⟨g, c, cur, rfl, hg, r1, Nat.zero_le _, r3, r4, by simp⟩
/-- The cell of the first row, and its block, where there is one. -/
theorem OwnRows.first {w : World} {lo : Nat} {A : Option Addr} {n c : Nat} {L : List (List Int)} (h : OwnRows w lo A n c L) (hn : 1 ≤ n) (hl : 1 ≤ (L.getD 0 []).length) :
    ∃ g d m k cur cur', A = some ⟨g, 0, none⟩ ∧ Blk w g 45 cur ∧ w.cell? ⟨g, 0, none⟩ = some (.slice (some ⟨d, 0, none⟩) m k) ∧ 1 ≤ m ∧ Blk w d 3 cur' ∧ lo ≤ d ∧ (∃ z, w.cell? ⟨d, 0, none⟩ = some (.int .i64 z)) := by
  obtain ⟨ys, h1, h2, h3⟩ := h
  obtain ⟨a, m, k, e, ho⟩ := h3 0 (by omega)
  rcases h1.2 with ⟨e1, h0⟩ | ⟨g, cap, cur, e1, hg, hgb, rest⟩
  · omega
  · cases e1
    have hm := ho.len
    have e2 := ho.2
    rcases e2 with ⟨e3, h0⟩ | ⟨d, cap', cur', e3, hd, hdb, rest'⟩
    · omega
    · cases e3
      refine ⟨g, d, m, k, cur, cur', rfl, hgb, ?_, by omega, hdb, hd, ?_⟩
      · rw [h1.cellAt 0 (by omega)]; exact e
      · rw [World.ownsRow.cellAt ho 0 (by omega)]
        exact ⟨(L.getD 0 [])[0], by simp⟩
/-- How own rows read. -/
theorem OwnRows.rows {w : World} {lo : Nat} {A : Option Addr} {n c : Nat} {L : List (List Int)} (h : OwnRows w lo A n c L) :
    ∃ r : Nat → Option Addr × Nat × Nat, Rows w A n r (fun i j => (L.getD i []).getD j 0) ∧ (∀ i, i < n → (r i).2.1 = (L.getD i []).length) ∧ (∀ i, i < n → ∀ d off, (r i).1 = some ⟨d, off, none⟩ → lo ≤ d) ∧ (∀ d off, A = some ⟨d, off, none⟩ → lo ≤ d) := by
  obtain ⟨ys, h1, h2, h3⟩ := h
  obtain ⟨r, hr⟩ := Deep.choose_lt (p := fun i (y : Option Addr × Nat × Nat) => ys[i]? = some (.slice y.1 y.2.1 y.2.2) ∧ OwnInts w lo y.1 y.2.1 y.2.2 (L.getD i [])) (fun i hi => by
    obtain ⟨a, m, k, e, ho⟩ := h3 i hi
    exact ⟨(a, m, k), e, ho⟩)
  refine ⟨r, fun i hi => ⟨?_, (hr i hi).2.ints⟩, fun i hi => (hr i hi).2.len.symm, fun i hi => (hr i hi).2.from', fun d off e => (own_block h1 d (by rw [e]; rfl)).1⟩
  rcases h1.2 with ⟨e, h0⟩ | ⟨g, cap, cur, e, rest⟩
  · omega
  · cases e
    exact ⟨g, 0, rfl, by rw [Nat.zero_add, h1.cellAt i (by omega)]; exact (hr i hi).1⟩
end Go.Proofs.YtlniogfinofakaaGreatDoor
/-
  A call of a Go function as one step of a region that draws its order: by its contract. No condition.
-/
namespace Go.Proofs.YtlniogfinofakaaGreatDoor
set_option maxRecDepth 100000
open Go.RowKit

theorem step_go {ops : Array Oper} {o : Oper} {a : Act} {K : Act → World → Prop} {Q : Exit → Act → World → Prop} {D : Prop} (f : FuncId) (xs : Array Operand) (ts : Array TypeId)
    (hgd : o.guard = none) (ho : o.op = .call { callee := .value (.func f), args := xs, argTypes := ts }) (hf : ∀ (args : Array Value) (w : World), (callFunc f args).run Tryz.prog w = .ok (.enter f args) w)
    {args : Array Value} (hx : xs.map a.eval = args) {W : World} {R : Ending → World → Prop} (hc : Calls Tryz.prog f args W R) (h : ∀ e w', R e w' → ∃ v, e = .returned v ∧ K (a.put o.dst v) w') :
    if Region.wanted o (yielded ops a.tmps) = true then Oper.wp Tryz.prog o a W K Q else D := by
  have hw : Region.wanted o (yielded ops a.tmps) = true := by simp [Region.wanted, hgd]
  rw [if_pos hw]
  have hrun : (execOp a.eval o).run Tryz.prog W = .ok (.enter f args) W := by
    have hf' := hf args W
    rw [← hx] at hf'
    simp [execOp, ho, resolve, invoke, Act.eval, Deferred.ofValue, hf', ← hx]
  unfold Oper.wp
  rw [hrun, Oper.upon_enter]
  refine hc.mono fun e w' hr => ?_
  obtain ⟨v, rfl, hk⟩ := h e w' hr
  exact hk
end Go.Proofs.YtlniogfinofakaaGreatDoor
