/-
  Slices that a call makes itself: an append of one element, and what stays as it was. Plain laws on the model's memory; no condition but bounds on lengths.
-/
import Derived.Test.YtaejakejnllimaaPure
import Derived.Deep.AppendLies
import Derived.Deep.RegionLaw
import Derived.Deep.RegionHeld3
namespace Go.Proofs.Ytaejakejnllimaa
open Go.RowKit

theorem oneCell_slice (a : Option Addr) (n c : Nat) : (Value.slice a n c).oneCell' = true := rfl
theorem oneCell_int (n : Int) : (Value.int .i64 n).oneCell' = true := rfl

/-- 's = append(s, u)' where s is the call's own: it may have moved; it holds one more. -/
theorem wp_app {ops : Array Oper} {rest : List Oper} {o : Oper} {a : Act} {Q : Exit → Act → World → Prop} {T E : TypeId} {z : Value} {bytes : Nat}
    (hu : Try.prog.underlying T = some (.slice E)) (hinfo : (Try.prog.info? E).map (fun i => (i.zero, i.size, i.bytes)) = some (some z, 1, bytes)) (hz : z.cells.size = 1) (hby : bytes ≤ 64)
    (hgd : o.guard = none) (s y : Operand) (ho : o.op = .call { callee := .builtin .append, args := #[s, y], argTypes := #[T, T] })
    (base : Nat) (A : Option Addr) (n c : Nat) (xs : List Value) (w : World) (hs : a.eval s = .slice A n c) (hown : w.ownsRow base E 1 (.slice A n c) n xs)
    (u : Value) (hu1 : u.oneCell' = true) (hx : a.eval y = .slice (some ⟨w.heap.size, 0, none⟩) 1 1) (hn : n + 1 ≤ 1099511627776) (hbase : base ≤ w.heap.size)
    (h : ∀ (g c' : Nat) (w' : World), w'.ownsRow base E 1 (.slice (some ⟨g, 0, none⟩) (n + 1) c') (n + 1) (xs ++ [u]) → w.grownBy w' (A.map (·.block)) → wpList Try.prog ops Q rest (a.put o.dst (.slice (some ⟨g, 0, none⟩) (n + 1) c')) w') :
    wpList Try.prog ops Q (o :: rest) a (w.alloc (.cells #[u] E)) := by
  obtain ⟨i0, hi, hz0, hz1, hz2⟩ := info_parts hinfo
  refine wpList_append_own _ hgd s y T ho base E i0 z 1 bytes hu hi hz0 hz1 hz2 hz (by decide) _ n xs hs (hown.alloc _) ⟨w.heap.size, 0, none⟩ 1 1 [u] hx rfl (cell_one_new _ _ _) (fun x hx => by simp at hx; subst hx; exact hu1)
    (by unfold maxLen; omega) (Nat.le_trans (Nat.mul_le_mul_left _ hby) (by omega)) (by simp; omega) ?_
  intro v' w' hown' hg hnil
  have hob : (Value.slice A n c).ownBlock = A.map (·.block) := by cases A <;> rfl
  rw [hob] at hg
  rcases hown'.2 with ⟨rfl, h0⟩ | ⟨g, cap, cur, rfl, rest'⟩
  · exact absurd h0 (by omega)
  · exact h g cap w' hown' ⟨hg.os, hg.tape, hg.output, Nat.le_trans (by simp) hg.size, fun k hk hne => (hg.block k (by simp; omega) hne).trans (Below.heap_alloc w _ _ hk)⟩

/-- The same inside a statement that draws its order. -/
theorem step_app {ops : Array Oper} {o : Oper} {a : Act} {K : Act → World → Prop} {Q : Exit → Act → World → Prop} {D : Prop} {T E : TypeId} {z : Value} {bytes : Nat}
    (hu : Try.prog.underlying T = some (.slice E)) (hinfo : (Try.prog.info? E).map (fun i => (i.zero, i.size, i.bytes)) = some (some z, 1, bytes)) (hz : z.cells.size = 1) (hby : bytes ≤ 64)
    (hgd : o.guard = none) (s y : Operand) (ho : o.op = .call { callee := .builtin .append, args := #[s, y], argTypes := #[T, T] })
    (base : Nat) (A : Option Addr) (n c : Nat) (xs : List Value) (w : World) (hs : a.eval s = .slice A n c) (hown : w.ownsRow base E 1 (.slice A n c) n xs)
    (u : Value) (hu1 : u.oneCell' = true) (hx : a.eval y = .slice (some ⟨w.heap.size, 0, none⟩) 1 1) (hn : n + 1 ≤ 1099511627776) (hbase : base ≤ w.heap.size)
    (h : ∀ (g c' : Nat) (w' : World), w'.ownsRow base E 1 (.slice (some ⟨g, 0, none⟩) (n + 1) c') (n + 1) (xs ++ [u]) → w.grownBy w' (A.map (·.block)) → (A.map (·.block) = some g ∨ g = w.heap.size + 1) → K (a.put o.dst (.slice (some ⟨g, 0, none⟩) (n + 1) c')) w') :
    if Region.wanted o (yielded ops a.tmps) = true then Oper.wp Try.prog o a (w.alloc (.cells #[u] E)).drew K Q else D := by
  obtain ⟨i0, hi, hz0, hz1, hz2⟩ := info_parts hinfo
  refine step_append_lies (P := Try.prog) _ hgd s y T ho base E i0 z 1 bytes hu hi hz0 hz1 hz2 hz (by decide) _ n xs hs ((hown.alloc _).drew) ⟨w.heap.size, 0, none⟩ 1 1 [u] hx rfl (fun j v hj => by
      have := cell_one_new w u E j v hj
      simpa using this) (fun x hx => by simp at hx; subst hx; exact hu1) (by omega)
    (by unfold maxLen; omega) (Nat.le_trans (Nat.mul_le_mul_left _ hby) (by omega)) (by simp; omega) _ rfl ?_
  intro g c' w' hown' hg hat _
  have hob : (Value.slice A n c).ownBlock = A.map (·.block) := by cases A <;> rfl
  rw [hob] at hg hat
  exact h g c' w' hown' ⟨hg.os, hg.tape, hg.output, Nat.le_trans (by simp) hg.size, fun k hk hne => (hg.block k (by simp; omega) hne).trans (Below.heap_alloc w _ _ hk)⟩ (by simpa using hat)

theorem own_block {w : World} {base : Nat} {E : TypeId} {s : Nat} {A : Option Addr} {n c m : Nat} {xs : List Value} (h : w.ownsRow base E s (.slice A n c) m xs) : ∀ k, A.map (·.block) = some k → base ≤ k ∧ k < w.heap.size := by
  intro k hk
  refine h.lt k ?_
  cases A with
  | none => simp at hk
  | some a => simpa [Value.ownBlock] using hk
theorem Keeps.grown {w0 w w' : World} {base : Nat} {E : TypeId} {s : Nat} {A : Option Addr} {n c m : Nat} {xs : List Value} (h : Keeps w0 w) (hown : w.ownsRow base E s (.slice A n c) m xs) (hb : w0.heap.size ≤ base) (hg : w.grownBy w' (A.map (·.block))) : Keeps w0 w' :=
  Below.grown h hg h.size (fun k hk => Nat.le_trans hb (own_block hown k hk).1)
/-- What is owned stays owned while a block that is not its own turns. -/
theorem own_kept {w w' : World} {base : Nat} {E : TypeId} {s : Nat} {A : Option Addr} {n c m : Nat} {xs : List Value} {row : Option Nat} (h : w.ownsRow base E s (.slice A n c) m xs) (hg : w.grownBy w' row) (hne : ∀ k, A.map (·.block) = some k → row ≠ some k) : w'.ownsRow base E s (.slice A n c) m xs := by
  refine h.kept hg ?_
  cases A with
  | none => exact .inl rfl
  | some a => exact .inr (fun e => hne a.block rfl e.symm)
theorem own_keeps {w w' : World} {base : Nat} {E : TypeId} {s : Nat} {A : Option Addr} {n c m : Nat} {xs : List Value} (h : w.ownsRow base E s (.slice A n c) m xs) (k : Keeps w w') : w'.ownsRow base E s (.slice A n c) m xs :=
  own_kept (row := none) h ⟨k.os, k.tape, k.output, k.size, fun i hi _ => k.block i hi⟩ (fun _ _ => by simp)
/-- Two rows of elements of different types lie in different blocks. -/
theorem own_type {w : World} {b1 b2 : Nat} {E1 E2 : TypeId} {s1 s2 : Nat} {A1 A2 : Option Addr} {n1 c1 m1 n2 c2 m2 : Nat} {xs1 xs2 : List Value} (h1 : w.ownsRow b1 E1 s1 (.slice A1 n1 c1) m1 xs1) (h2 : w.ownsRow b2 E2 s2 (.slice A2 n2 c2) m2 xs2) (hE : E1 ≠ E2) :
    ∀ k, A1.map (·.block) = some k → A2.map (·.block) ≠ some k := by
  intro k hk hk2
  rcases h1.2 with ⟨e, _⟩ | ⟨g, cap, cur, e, _, hg, _⟩
  · cases e; simp at hk
  · cases e
    rcases h2.2 with ⟨e, _⟩ | ⟨g', cap', cur', e, _, hg', _⟩
    · cases e; simp at hk2
    · cases e
      simp at hk hk2
      subst hk
      subst hk2
      rw [hg] at hg'
      cases hg'
      exact hE rfl
/-- An owned row lies in no block whose elements are of another type. -/
theorem own_other {w : World} {base : Nat} {E E' : TypeId} {s : Nat} {A : Option Addr} {n c m : Nat} {xs : List Value} {b : Nat} {cur : Array Value} {fr : Nat × Nat} (h : w.ownsRow base E s (.slice A n c) m xs) (hb : w.heap[b]? = some (.cells cur E' fr)) (hE : E' ≠ E) :
    ∀ k, A.map (·.block) = some k → some b ≠ some k := by
  intro k hk e
  rcases h.2 with ⟨e', _⟩ | ⟨g, cap, cur, e', _, hg, _⟩
  · cases e'; simp at hk
  · cases e'
    simp at hk e
    subst hk
    subst e
    rw [hg] at hb
    cases hb
    exact hE rfl
/-- A block's cells and their type. -/
def Blk (w : World) (b : Nat) (T : TypeId) (cs : Array Value) : Prop := w.heap[b]? = some (.cells cs T (0, 0))
theorem Blk.new (w : World) (cs : Array Value) (T : TypeId) : Blk (w.alloc (.cells cs T)) w.heap.size T cs := heap_alloc_new w _
theorem blk_at {w : World} {b b' : Nat} {T : TypeId} {cs : Array Value} (e : b = b') (h : Blk w b T cs) : Blk w b' T cs := e ▸ h
theorem Blk.lt {w : World} {b : Nat} {T : TypeId} {cs : Array Value} (h : Blk w b T cs) : b < w.heap.size := (Array.getElem?_eq_some_iff.1 h).1
theorem Blk.keeps {w w' : World} {b : Nat} {T : TypeId} {cs : Array Value} (h : Blk w b T cs) (k : Keeps w w') : Blk w' b T cs := (k.block b h.lt).trans h
theorem Blk.grown {w w' : World} {b : Nat} {T : TypeId} {cs : Array Value} {row : Option Nat} (h : Blk w b T cs) (k : w.grownBy w' row) (hn : some b ≠ row) : Blk w' b T cs := (k.block b h.lt hn).trans h
theorem Blk.cell {w : World} {b : Nat} {T : TypeId} {cs : Array Value} (h : Blk w b T cs) (j : Nat) : w.cell? ⟨b, j, none⟩ = cs[j]? := cell_of_row w b j cs T (0, 0) h
theorem Blk.frozen {w : World} {b : Nat} {T : TypeId} {cs : Array Value} (h : Blk w b T cs) (j : Nat) : w.frozen? ⟨b, j, none⟩ = false := frozen_of_row w b j cs T h
theorem Blk.set {w : World} {b : Nat} {T : TypeId} {cs : Array Value} (h : Blk w b T cs) (j : Nat) (u : Value) : Blk (w.setCell ⟨b, j, none⟩ u) b T (cs.setIfInBounds j u) := heap_setCell_same w b j cs T u h
theorem Blk.set_other {w : World} {b : Nat} {T : TypeId} {cs : Array Value} (h : Blk w b T cs) (a : Addr) (u : Value) (hn : b ≠ a.block) : Blk (w.setCell a u) b T cs := (Below.heap_setCell w a u b hn).trans h
theorem grown_set (w : World) (b j : Nat) (u : Value) : w.grownBy (w.setCell ⟨b, j, none⟩ u) (some b) :=
  ⟨rfl, rfl, rfl, by simp [World.setCell], fun k _ hn => Below.heap_setCell _ _ _ _ (fun e => hn (by rw [e]))⟩
theorem blk_ne {w : World} {b b' : Nat} {T T' : TypeId} {cs cs' : Array Value} (h : Blk w b T cs) (h' : Blk w b' T' cs') (hT : T ≠ T') : b ≠ b' := by
  intro e
  subst e
  unfold Blk at h h'
  rw [h] at h'
  cases h'
  exact hT rfl
/-- An owned row of ints, read by an index function. -/
theorem own_ints {w : World} {base : Nat} {E : TypeId} {A : Option Addr} {n c : Nat} {l : List Int} (h : w.ownsRow base E 1 (.slice A n c) n (l.map (Value.int .i64))) : Ints w A n (fun i => l.getD i 0) := by
  intro i hi
  have hl : l.length = n := by have := h.1; simpa using this
  rcases h.2 with ⟨e, h0⟩ | ⟨g, cap, cur, e, rest⟩
  · omega
  · cases e
    refine ⟨g, 0, rfl, ?_⟩
    rw [Nat.zero_add, h.cellAt i (by omega)]
    simp [List.getElem?_eq_getElem (show i < l.length by omega)]
theorem own_other' {w : World} {base : Nat} {E E' : TypeId} {s : Nat} {A : Option Addr} {n c m : Nat} {xs : List Value} {b : Nat} {cur : Array Value} (h : w.ownsRow base E s (.slice A n c) m xs) (hb : Blk w b E' cur) (hE : E' ≠ E) : some b ≠ A.map (·.block) := by
  cases A with
  | none => simp
  | some a => exact own_other h hb hE _ rfl
end Go.Proofs.Ytaejakejnllimaa
