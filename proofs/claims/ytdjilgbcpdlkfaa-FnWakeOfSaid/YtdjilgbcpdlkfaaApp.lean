/-
  Appends to the call's own slices, as operations of a statement that draws its order: one int, one row, all of another slice. Plain laws; no condition but bounds on lengths.
-/
import Derived.Test.YtdjilgbcpdlkfaaOwnSet
import Derived.Test.YtdjilgbcpdlkfaaGro
import Derived.Test.YtdjilgbcpdlkfaaStep
namespace Go.Proofs.Ytdjilgbcpdlkfaa
open Go.RowKit

/-- An append to a row of the call's own, as an operation. -/
theorem wpo_app {o : Oper} {a : Act} {w : World} {K : Act → World → Prop} {Q : Exit → Act → World → Prop} {T E : TypeId} {z : Value} {size bytes : Nat}
    (hu : Try.prog.underlying T = some (.slice E)) (hinfo : (Try.prog.info? E).map (fun i => (i.zero, i.size, i.bytes)) = some (some z, size, bytes)) (hz : z.cells.size = size) (h0 : 0 < size) (hby : bytes ≤ 64)
    (s y : Operand) (ho : o.op = .call { callee := .builtin .append, args := #[s, y], argTypes := #[T, T] })
    (base : Nat) (A : Option Addr) (n c : Nat) (xs : List Value) (hs : a.eval s = .slice A n c) (hown : w.ownsRow base E size (.slice A n c) n xs)
    (ad : Addr) (m k : Nat) (news : List Value) (hx : a.eval y = .slice (some ad) m k) (hl : news.length = m * size) (hnews : ∀ j u, news[j]? = some u → w.cell? (ad.add j) = some u) (h1 : ∀ u ∈ news, u.oneCell' = true) (hn : n + m ≤ 1099511627776) (hbase : base ≤ w.heap.size)
    (h : ∀ (A' : Option Addr) (c' : Nat) (w' : World), w'.ownsRow base E size (.slice A' (n + m) c') (n + m) (xs ++ news) → w.grownBy w' (A.map (·.block)) → (A' = none → A = none) → K (a.put o.dst (.slice A' (n + m) c')) w') :
    o.wp Try.prog a w K Q := by
  obtain ⟨i0, hi, hz0, hz1, hz2⟩ := info_parts hinfo
  obtain ⟨v', w', hrun, hown', hg, hnil⟩ := run_append_own (P := Try.prog) w base T o.type E i0 z size bytes hu hi hz0 hz1 hz2 hz h0 (.slice A n c) n xs hown ad m k news hl hnews h1 (by unfold maxLen; omega) (Nat.le_trans (Nat.mul_le_mul_left _ hby) (by omega)) hbase
  have hob : (Value.slice A n c).ownBlock = A.map (·.block) := by cases A <;> rfl
  rw [hob] at hg
  unfold Oper.wp
  simp [execOp, ho, resolve, invoke, builtin, hs, hx, hrun, Result.andThen]
  rcases hown'.2 with ⟨e, e0⟩ | ⟨g, cap, cur, rfl, rest'⟩
  · subst e
    have := h none 0 w' (by rw [e0] at hown' ⊢; exact hown') hg (fun _ => by
      have := (hnil.1 rfl).1
      simp at this
      exact this.1)
    rwa [e0] at this
  · exact h _ cap w' hown' hg (fun e => by cases e)
theorem step_any {ops : Array Oper} {o : Oper} {a : Act} {K : Act → World → Prop} {Q : Exit → Act → World → Prop} {D : Prop} {w : World} (hgd : o.guard = none) (h : Oper.wp Try.prog o a w K Q) : if Region.wanted o (yielded ops a.tmps) = true then Oper.wp Try.prog o a w K Q else D := by
  have hw : Region.wanted o (yielded ops a.tmps) = true := by simp [Region.wanted, hgd]
  rw [if_pos hw]
  exact h
/-- 's = append(s, y...)' on ints, y whatever it is. -/
theorem step_srcI {ops : Array Oper} {o : Oper} {a : Act} {K : Act → World → Prop} {Q : Exit → Act → World → Prop} {D : Prop}
    (hgd : o.guard = none) (s y : Operand) (ho : o.op = .call { callee := .builtin .append, args := #[s, y], argTypes := #[23, 23] })
    (lo g n c : Nat) (l : List Int) (w : World) (hs : a.eval s = .slice (some ⟨g, 0, none⟩) n c) (hown : OwnInts w lo (some ⟨g, 0, none⟩) n c l)
    (b off m k : Nat) (z : Nat → Int) (hx : a.eval y = .slice (some ⟨b, off, none⟩) m k) (hz : ∀ i, i < m → w.cell? ⟨b, off + i, none⟩ = some (.int .i64 (z i))) (hn : n + m ≤ 1099511627776) (hbase : lo ≤ w.heap.size)
    (h : ∀ (g' c' : Nat) (w' : World), OwnInts w' lo (some ⟨g', 0, none⟩) (n + m) c' (l ++ il m z) → w.grownBy w' (some g) → K (a.put o.dst (.slice (some ⟨g', 0, none⟩) (n + m) c')) w') :
    if Region.wanted o (yielded ops a.tmps) = true then Oper.wp Try.prog o a w K Q else D := by
  refine step_any hgd (wpo_app Try.underlying23 info_int rfl (by omega) (by omega) s y ho lo _ n c _ hs hown ⟨b, off, none⟩ m k ((il m z).map (Value.int .i64)) hx (by simp [il]) (fun j u hj => ?_) (fun u hu => ?_) hn hbase (fun A' c' w' h1 h2 h3 => ?_))
  · have hjm : j < m := by
      have := (List.getElem?_eq_some_iff.1 hj).1
      simpa [il] using this
    rw [show (⟨b, off, none⟩ : Addr).add j = ⟨b, off + j, none⟩ from Addr.add_lit _ _ _, hz j hjm, ← hj]
    simp [il, hjm]
  · rw [List.mem_map] at hu
    obtain ⟨x, _, rfl⟩ := hu
    rfl
  · have hO : OwnInts w' lo A' (n + m) c' (l ++ il m z) := by unfold OwnInts; rw [List.map_append]; exact h1
    cases A' with
    | none => exact absurd (h3 rfl) (by simp)
    | some ad =>
      rcases hO.2 with ⟨e, _⟩ | ⟨g', cap, cur, e, _⟩
      · cases e
      · cases e
        exact h g' _ w' hO h2
/-- 's = append(s, x)' on ints; x lies in block B. -/
theorem step_oneI {ops : Array Oper} {o : Oper} {a : Act} {K : Act → World → Prop} {Q : Exit → Act → World → Prop} {D : Prop}
    (hgd : o.guard = none) (s y : Operand) (ho : o.op = .call { callee := .builtin .append, args := #[s, y], argTypes := #[23, 23] })
    (lo : Nat) (A : Option Addr) (n c : Nat) (l : List Int) (w : World) (hs : a.eval s = .slice A n c) (hown : OwnInts w lo A n c l)
    (B : Nat) (x : Int) (hB : Blk w B 3 #[.int .i64 x]) (hx : a.eval y = .slice (some ⟨B, 0, none⟩) 1 1) (hn : n + 1 ≤ 1099511627776) (hbase : lo ≤ w.heap.size)
    (h : ∀ (g c' : Nat) (w' : World), OwnInts w' lo (some ⟨g, 0, none⟩) (n + 1) c' (l ++ [x]) → w.grownBy w' (A.map (·.block)) → K (a.put o.dst (.slice (some ⟨g, 0, none⟩) (n + 1) c')) w') :
    if Region.wanted o (yielded ops a.tmps) = true then Oper.wp Try.prog o a w K Q else D := by
  refine step_any hgd (wpo_app Try.underlying23 info_int rfl (by omega) (by omega) s y ho lo A n c _ hs hown ⟨B, 0, none⟩ 1 1 [.int .i64 x] hx rfl (World.news_of_block hB) (by simp [Value.oneCell']) hn hbase (fun A' c' w' h1 h2 _ => ?_))
  have hO : OwnInts w' lo A' (n + 1) c' (l ++ [x]) := by unfold OwnInts; rw [List.map_append]; exact h1
  obtain ⟨g, rfl⟩ := hO.at (by omega)
  exact h g c' w' hO h2
/-- 's = append(s, row)' on rows of ints; the row lies in block B. -/
theorem step_oneR {ops : Array Oper} {o : Oper} {a : Act} {K : Act → World → Prop} {Q : Exit → Act → World → Prop} {D : Prop}
    (hgd : o.guard = none) (s y : Operand) (ho : o.op = .call { callee := .builtin .append, args := #[s, y], argTypes := #[25, 25] })
    (lo : Nat) (A : Option Addr) (n c : Nat) (L : List (List Int)) (w : World) (hs : a.eval s = .slice A n c) (hown : OwnRows w lo A n c L)
    (lo2 : Nat) (ra : Option Addr) (m k : Nat) (l : List Int) (hrow : OwnInts w lo2 ra m k l) (hlo : lo ≤ lo2) (B : Nat) (hB : Blk w B 23 #[.slice ra m k]) (hx : a.eval y = .slice (some ⟨B, 0, none⟩) 1 1) (hn : n + 1 ≤ 1099511627776) (hbase : lo ≤ w.heap.size)
    (h : ∀ (g c' : Nat) (w' : World), OwnRows w' lo (some ⟨g, 0, none⟩) (n + 1) c' (L ++ [l]) → w.grownBy w' (A.map (·.block)) → (∀ d, A.map (·.block) = some d → lo ≤ d) → K (a.put o.dst (.slice (some ⟨g, 0, none⟩) (n + 1) c')) w') :
    if Region.wanted o (yielded ops a.tmps) = true then Oper.wp Try.prog o a w K Q else D := by
  have hblo := hown.blo
  obtain ⟨ys, h1, h2, h3⟩ := hown
  refine step_any hgd (wpo_app Try.underlying25 info_ints rfl (by omega) (by omega) s y ho lo A n c ys hs h1 ⟨B, 0, none⟩ 1 1 [.slice ra m k] hx rfl (World.news_of_block hB) (by simp [Value.oneCell']) hn hbase (fun A' c' w' g1 g2 _ => ?_))
  have hyl : ys.length = n := by have := h1.1; simpa using this
  have keep : ∀ {a' : Option Addr} {m' k' lo' : Nat} {l' : List Int}, OwnInts w lo' a' m' k' l' → OwnInts w' lo' a' m' k' l' := fun ho => own_kept ho g2 (fun b hb e => own_type ho h1 (by decide) b hb e)
  rcases g1.2 with ⟨e, e0⟩ | ⟨g, cap, cur, e, _⟩
  · omega
  · cases e
    refine h g _ w' ⟨ys ++ [.slice ra m k], g1, by simp [h2], fun i hi => ?_⟩ g2 hblo
    by_cases hin : i < n
    · obtain ⟨a', m', k', e, ho⟩ := h3 i hin
      refine ⟨a', m', k', by rw [List.getElem?_append_left (by omega)]; exact e, ?_⟩
      rw [List.getD_eq_getElem?_getD, List.getElem?_append_left (by omega), ← List.getD_eq_getElem?_getD]
      exact keep ho
    · have : i = n := by omega
      subst this
      refine ⟨ra, m, k, by rw [List.getElem?_append_right (by omega), hyl]; simp, ?_⟩
      rw [List.getD_eq_getElem?_getD, List.getElem?_append_right (by omega), h2]
      simpa using (keep hrow).mono hlo
/-- A block of ints is the call's own. -/
theorem own_blk {w : World} {lo g n : Nat} {l : List Int} {cs : Array Value} (hg : Blk w g 3 cs) (hcs : cs = (l.map (Value.int .i64)).toArray) (hlo : lo ≤ g) (hl : l.length = n) (hn : n ≤ 1099511627776) : OwnInts w lo (some ⟨g, 0, none⟩) n n l := by
  subst hl
  subst hcs
  refine ⟨by simp, .inr ⟨g, l.length, _, rfl, hlo, hg, Nat.le_refl _, by unfold maxLen; omega, by simp, by simp [List.take_of_length_le]⟩⟩
theorem ownR_gro {w w' : World} {lo b n c : Nat} {A : Option Addr} {L : List (List Int)} (h : OwnRows w lo A n c L) (g : Gro b w w') {T : TypeId} {cs : Array Value} (hb : Blk w b T cs) (hT : T ≠ 3) (hT2 : T ≠ 23) : OwnRows w' lo A n c L := h.grown g hb hT hT2
end Go.Proofs.Ytdjilgbcpdlkfaa
