/-
  The call's own []Stop: appends and stores, plain and in statements that draw their order. Plain laws; no condition but bounds on lengths.
-/
import Derived.Test.YtepgogaoppdllaaOwnSet
import Derived.Test.YtepgogaoppdllaaRun
namespace Go.Proofs.Ytepgogaoppdllaa
open Go.RowKit

/-- 's = append(s, u)' where s is the call's own and u lies in block B, in a statement that draws its order. -/
theorem step_appB {ops : Array Oper} {o : Oper} {a : Act} {K : Act → World → Prop} {Q : Exit → Act → World → Prop} {D : Prop} {T E : TypeId} {z : Value} {size bytes : Nat}
    (hu : Try.prog.underlying T = some (.slice E)) (hinfo : (Try.prog.info? E).map (fun i => (i.zero, i.size, i.bytes)) = some (some z, size, bytes)) (hz : z.cells.size = size) (h0 : 0 < size) (hby : bytes ≤ 64)
    (hgd : o.guard = none) (s y : Operand) (ho : o.op = .call { callee := .builtin .append, args := #[s, y], argTypes := #[T, T] })
    (base : Nat) (A : Option Addr) (n c : Nat) (xs : List Value) (W : World) (hs : a.eval s = .slice A n c) (hown : W.ownsRow base E size (.slice A n c) n xs)
    (B : Nat) (cs : Array Value) (hB : Blk W B E cs) (hcs : cs.size = size) (h1 : ∀ u ∈ cs.toList, u.oneCell' = true) (hx : a.eval y = .slice (some ⟨B, 0, none⟩) 1 1) (hn : n + 1 ≤ 1099511627776) (hbase : base ≤ W.heap.size)
    (h : ∀ (g c' : Nat) (w' : World), w'.ownsRow base E size (.slice (some ⟨g, 0, none⟩) (n + 1) c') (n + 1) (xs ++ cs.toList) → W.grownBy w' (A.map (·.block)) → K (a.put o.dst (.slice (some ⟨g, 0, none⟩) (n + 1) c')) w') :
    if Region.wanted o (yielded ops a.tmps) = true then Oper.wp Try.prog o a W K Q else D := by
  obtain ⟨i0, hi, hz0, hz1, hz2⟩ := info_parts hinfo
  have hob : (Value.slice A n c).ownBlock = A.map (·.block) := by cases A <;> rfl
  refine step_append_lies (P := Try.prog) _ hgd s y T ho base E i0 z size bytes hu hi hz0 hz1 hz2 hz h0 _ n xs hs hown ⟨B, 0, none⟩ 1 1 cs.toList hx (by simpa using hcs) (World.news_of_block hB) h1 (by omega)
    (by unfold maxLen; omega) (Nat.le_trans (Nat.mul_le_mul_left _ hby) (by omega)) hbase _ rfl (fun g c' w' h2 h3 _ _ => h g c' w' h2 (by rw [hob] at h3; exact h3))
/-- The same in a plain statement. -/
theorem wp_appB {ops : Array Oper} {rest : List Oper} {o : Oper} {a : Act} {Q : Exit → Act → World → Prop} {T E : TypeId} {z : Value} {size bytes : Nat}
    (hu : Try.prog.underlying T = some (.slice E)) (hinfo : (Try.prog.info? E).map (fun i => (i.zero, i.size, i.bytes)) = some (some z, size, bytes)) (hz : z.cells.size = size) (h0 : 0 < size) (hby : bytes ≤ 64)
    (hgd : o.guard = none) (s y : Operand) (ho : o.op = .call { callee := .builtin .append, args := #[s, y], argTypes := #[T, T] })
    (base : Nat) (A : Option Addr) (n c : Nat) (xs : List Value) (W : World) (hs : a.eval s = .slice A n c) (hown : W.ownsRow base E size (.slice A n c) n xs)
    (B : Nat) (cs : Array Value) (hB : Blk W B E cs) (hcs : cs.size = size) (h1 : ∀ u ∈ cs.toList, u.oneCell' = true) (hx : a.eval y = .slice (some ⟨B, 0, none⟩) 1 1) (hn : n + 1 ≤ 1099511627776) (hbase : base ≤ W.heap.size)
    (h : ∀ (g c' : Nat) (w' : World), w'.ownsRow base E size (.slice (some ⟨g, 0, none⟩) (n + 1) c') (n + 1) (xs ++ cs.toList) → W.grownBy w' (A.map (·.block)) → wpList Try.prog ops Q rest (a.put o.dst (.slice (some ⟨g, 0, none⟩) (n + 1) c')) w') :
    wpList Try.prog ops Q (o :: rest) a W := by
  obtain ⟨i0, hi, hz0, hz1, hz2⟩ := info_parts hinfo
  have hob : (Value.slice A n c).ownBlock = A.map (·.block) := by cases A <;> rfl
  refine wpList_append_lies (P := Try.prog) _ hgd s y T ho base E i0 z size bytes hu hi hz0 hz1 hz2 hz h0 _ n xs hs hown ⟨B, 0, none⟩ 1 1 cs.toList hx (by simpa using hcs) (World.news_of_block hB) h1 (by omega)
    (by unfold maxLen; omega) (Nat.le_trans (Nat.mul_le_mul_left _ hby) (by omega)) hbase _ rfl (fun g c' w' h2 h3 _ _ => h g c' w' h2 (by rw [hob] at h3; exact h3))

/-- 's = append(s, x)' on the call's own []int, in a statement that draws its order. -/
theorem step_appI {ops : Array Oper} {o : Oper} {a : Act} {K : Act → World → Prop} {Q : Exit → Act → World → Prop} {D : Prop}
    (hgd : o.guard = none) (s y : Operand) (ho : o.op = .call { callee := .builtin .append, args := #[s, y], argTypes := #[23, 23] })
    (lo : Nat) (A : Option Addr) (n c : Nat) (l : List Int) (W : World) (hs : a.eval s = .slice A n c) (hown : OwnInts W lo A n c l)
    (B : Nat) (x : Int) (hB : Blk W B 3 #[.int .i64 x]) (hx : a.eval y = .slice (some ⟨B, 0, none⟩) 1 1) (hn : n + 1 ≤ 1099511627776) (hbase : lo ≤ W.heap.size)
    (h : ∀ (g c' : Nat) (w' : World), OwnInts w' lo (some ⟨g, 0, none⟩) (n + 1) c' (l ++ [x]) → W.grownBy w' (A.map (·.block)) → K (a.put o.dst (.slice (some ⟨g, 0, none⟩) (n + 1) c')) w') :
    if Region.wanted o (yielded ops a.tmps) = true then Oper.wp Try.prog o a W K Q else D :=
  step_appB Try.underlying23 info_int rfl (by omega) (by omega) hgd s y ho lo A n c _ W hs hown B _ hB rfl (by simp [Value.oneCell']) hx hn hbase (fun g c' w' h1 h2 => h g c' w' (by unfold OwnInts; rw [List.map_append]; exact h1) h2)

/-- The call's own []Stop of length m; its ints are zs. -/
def OwnStops (w : World) (lo : Nat) (S : Option Addr) (m d : Nat) (zs : List Int) : Prop := w.ownsRow lo 65 3 (.slice S m d) m (zs.map (Value.int .i64))
def stopsOf (zs : List Int) (i : Nat) : Int × Int × Int := (zs.getD (i * 3) 0, zs.getD (i * 3 + 1) 0, zs.getD (i * 3 + 2) 0)
theorem OwnStops.len {w : World} {lo m d : Nat} {S : Option Addr} {zs : List Int} (h : OwnStops w lo S m d zs) : zs.length = m * 3 := by have := h.1; simpa using this
theorem OwnStops.nil (w : World) (lo : Nat) : OwnStops w lo none 0 0 [] := World.ownsRow_nil w lo _ 3
theorem OwnStops.keeps {w w' : World} {lo m d : Nat} {S : Option Addr} {zs : List Int} (h : OwnStops w lo S m d zs) (k : Keeps w w') : OwnStops w' lo S m d zs := own_keeps h k
theorem OwnStops.mono {w : World} {lo lo' m d : Nat} {S : Option Addr} {zs : List Int} (h : OwnStops w lo S m d zs) (hl : lo' ≤ lo) : OwnStops w lo' S m d zs := by
  refine ⟨h.1, ?_⟩
  rcases h.2 with h2 | ⟨g, cap, cur, e, hg, r⟩
  · exact .inl h2
  · exact .inr ⟨g, cap, cur, e, Nat.le_trans hl hg, r⟩
theorem OwnStops.grown {w w' : World} {lo m d : Nat} {S : Option Addr} {zs : List Int} {b : Nat} {T : TypeId} {cs : Array Value} (h : OwnStops w lo S m d zs) (k : w.grownBy w' (some b)) (hb : Blk w b T cs) (hT : T ≠ 65) : OwnStops w' lo S m d zs :=
  own_kept h k (own_other h hb hT)
theorem OwnStops.at {w : World} {lo m d : Nat} {S : Option Addr} {zs : List Int} (h : OwnStops w lo S m d zs) (hm : 1 ≤ m) : ∃ g, S = some ⟨g, 0, none⟩ := by
  rcases h.2 with ⟨e, h0⟩ | ⟨g, cap, cur, e, _⟩
  · omega
  · cases e; exact ⟨g, rfl⟩
theorem OwnStops.block {w : World} {lo g m d : Nat} {zs : List Int} (h : OwnStops w lo (some ⟨g, 0, none⟩) m d zs) : lo ≤ g ∧ g < w.heap.size := own_block h g rfl
theorem OwnStops.cell {w : World} {lo g m d : Nat} {zs : List Int} (h : OwnStops w lo (some ⟨g, 0, none⟩) m d zs) (j : Nat) (hj : j < m * 3) : w.cell? ⟨g, j, none⟩ = some (.int .i64 (zs.getD j 0)) := by
  have hl := h.len
  rw [World.ownsRow.cellAt h j hj]
  simp [List.getElem?_eq_getElem (show j < zs.length by omega)]
theorem OwnStops.frozen {w : World} {lo g m d : Nat} {zs : List Int} (h : OwnStops w lo (some ⟨g, 0, none⟩) m d zs) (j : Nat) : w.frozen? ⟨g, j, none⟩ = false := World.ownsRow.frozenAt h j
theorem OwnStops.set {w : World} {lo g m d : Nat} {zs : List Int} (h : OwnStops w lo (some ⟨g, 0, none⟩) m d zs) (j : Nat) (x : Int) : OwnStops (w.setCell ⟨g, j, none⟩ (.int .i64 x)) lo (some ⟨g, 0, none⟩) m d (zs.set j x) := by
  have := (World.ownsRow.stored h j (.int .i64 x)).1
  unfold OwnStops
  rwa [List.map_set]
theorem OwnStops.set_other {w : World} {lo g m d : Nat} {zs : List Int} (h : OwnStops w lo (some ⟨g, 0, none⟩) m d zs) (e j : Nat) (v : Value) (hd : e ≠ g) : OwnStops (w.setCell ⟨e, j, none⟩ v) lo (some ⟨g, 0, none⟩) m d zs :=
  own_kept h (grown_set w e j v) (fun k hk e => by simp at hk e; omega)
theorem OwnStops.stops {w : World} {lo m d : Nat} {S : Option Addr} {zs : List Int} (h : OwnStops w lo S m d zs) : Stops w S m (stopsOf zs) := by
  intro i hi
  obtain ⟨g, rfl⟩ := h.at (by omega)
  refine ⟨g, 0, rfl, ?_, ?_, ?_⟩
  · rw [Nat.zero_add]; exact h.cell _ (by omega)
  · rw [Nat.zero_add]; exact h.cell _ (by omega)
  · rw [Nat.zero_add]; exact h.cell _ (by omega)
theorem info_stop : (Try.prog.info? 65).map (fun i => (i.zero, i.size, i.bytes)) = some (some (.agg #[.int .i64 0, .int .i64 0, .int .i64 0]), 3, 24) := by kernel_rfl
theorem step_appS {ops : Array Oper} {o : Oper} {a : Act} {K : Act → World → Prop} {Q : Exit → Act → World → Prop} {D : Prop}
    (hgd : o.guard = none) (s y : Operand) (ho : o.op = .call { callee := .builtin .append, args := #[s, y], argTypes := #[24, 24] })
    (lo : Nat) (S : Option Addr) (m d : Nat) (zs : List Int) (W : World) (hs : a.eval s = .slice S m d) (hown : OwnStops W lo S m d zs)
    (B : Nat) (x y1 z : Int) (hB : Blk W B 65 #[.int .i64 x, .int .i64 y1, .int .i64 z]) (hx : a.eval y = .slice (some ⟨B, 0, none⟩) 1 1) (hn : m + 1 ≤ 1099511627776) (hbase : lo ≤ W.heap.size)
    (h : ∀ (g c' : Nat) (w' : World), OwnStops w' lo (some ⟨g, 0, none⟩) (m + 1) c' (zs ++ [x, y1, z]) → W.grownBy w' (S.map (·.block)) → K (a.put o.dst (.slice (some ⟨g, 0, none⟩) (m + 1) c')) w') :
    if Region.wanted o (yielded ops a.tmps) = true then Oper.wp Try.prog o a W K Q else D :=
  step_appB Try.underlying24 info_stop rfl (by omega) (by omega) hgd s y ho lo S m d _ W hs hown B _ hB rfl (by simp [Value.oneCell']) hx hn hbase (fun g c' w' h1 h2 => h g c' w' (by unfold OwnStops; rw [List.map_append]; exact h1) h2)
theorem wp_appS {ops : Array Oper} {rest : List Oper} {o : Oper} {a : Act} {Q : Exit → Act → World → Prop}
    (hgd : o.guard = none) (s y : Operand) (ho : o.op = .call { callee := .builtin .append, args := #[s, y], argTypes := #[24, 24] })
    (lo : Nat) (S : Option Addr) (m d : Nat) (zs : List Int) (W : World) (hs : a.eval s = .slice S m d) (hown : OwnStops W lo S m d zs)
    (B : Nat) (x y1 z : Int) (hB : Blk W B 65 #[.int .i64 x, .int .i64 y1, .int .i64 z]) (hx : a.eval y = .slice (some ⟨B, 0, none⟩) 1 1) (hn : m + 1 ≤ 1099511627776) (hbase : lo ≤ W.heap.size)
    (h : ∀ (g c' : Nat) (w' : World), OwnStops w' lo (some ⟨g, 0, none⟩) (m + 1) c' (zs ++ [x, y1, z]) → W.grownBy w' (S.map (·.block)) → wpList Try.prog ops Q rest (a.put o.dst (.slice (some ⟨g, 0, none⟩) (m + 1) c')) w') :
    wpList Try.prog ops Q (o :: rest) a W :=
  wp_appB Try.underlying24 info_stop rfl (by omega) (by omega) hgd s y ho lo S m d _ W hs hown B _ hB rfl (by simp [Value.oneCell']) hx hn hbase (fun g c' w' h1 h2 => h g c' w' (by unfold OwnStops; rw [List.map_append]; exact h1) h2)
end Go.Proofs.Ytepgogaoppdllaa
