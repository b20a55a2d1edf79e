/-
  Rows of the call's own [][]int in different blocks: what keeps them apart, and an append of one row. Plain laws; no condition but bounds on lengths.
-/
import Derived.Test.YtalafojkmomolaaExactSS
import Derived.Test.YtalafojkmomolaaOwn
namespace Go.Proofs.Ytalafojkmomolaa
open Go.RowKit

/-- No two of the n rows lie in the same block. -/
def RowsApart (w : World) (A : Option Addr) (n : Nat) : Prop :=
  ∀ g, A = some ⟨g, 0, none⟩ → ∀ i j, i < n → j < n → ∀ (a b : Option Addr) (m k m' k' d : Nat), w.cell? ⟨g, i, none⟩ = some (.slice a m k) → w.cell? ⟨g, j, none⟩ = some (.slice b m' k') → a.map (·.block) = some d → b.map (·.block) = some d → i = j
theorem RowsApart.nil (w : World) (A : Option Addr) : RowsApart w A 0 := fun _ _ _ _ h => absurd h (Nat.not_lt_zero _)
theorem RowsApart.same {w w' : World} {A : Option Addr} {n : Nat} (h : RowsApart w A n) (hc : ∀ g, A = some ⟨g, 0, none⟩ → ∀ i, w'.cell? ⟨g, i, none⟩ = w.cell? ⟨g, i, none⟩) : RowsApart w' A n := by
  intro g hg i j hi hj a b m k m' k' d h1 h2
  rw [hc g hg] at h1 h2
  exact h g hg i j hi hj a b m k m' k' d h1 h2
theorem RowsApart.keeps {w w' : World} {lo n c : Nat} {A : Option Addr} {L : List (List Int)} (h : RowsApart w A n) (hO : OwnRows w lo A n c L) (k : Keeps w w') : RowsApart w' A n :=
  h.same (fun g hg i => k.cell (own_block hO.choose_spec.1 g (by rw [hg]; rfl)).2)
theorem RowsApart.set {w : World} {A : Option Addr} {n : Nat} (h : RowsApart w A n) (b o : Nat) (v : Value) (hb : ∀ g, A = some ⟨g, 0, none⟩ → g ≠ b) : RowsApart (w.setCell ⟨b, o, none⟩ v) A n :=
  h.same (fun g hg i => World.cell?_of_block (Below.heap_setCell w ⟨b, o, none⟩ v g (hb g hg)))
/-- An append of one row that lies above all rows that were there. -/
theorem wp_app_rowA {ops : Array Oper} {rest : List Oper} {o : Oper} {a : Act} {Q : Exit → Act → World → Prop}
    (hgd : o.guard = none) (s y : Operand) (ho : o.op = .call { callee := .builtin .append, args := #[s, y], argTypes := #[23, 23] })
    (lo : Nat) (A : Option Addr) (n c : Nat) (L : List (List Int)) (wo w : World) (hs : a.eval s = .slice A n c) (howno : OwnRows wo lo A n c L) (hk : Keeps wo w) (hap : RowsApart wo A n)
    (ra : Option Addr) (m k : Nat) (l : List Int) (hrow : OwnInts w wo.heap.size ra m k l) (hlo : lo ≤ wo.heap.size) (hx : a.eval y = .slice (some ⟨w.heap.size, 0, none⟩) 1 1) (hn : n + 1 ≤ 1099511627776)
    (h : ∀ (g c' : Nat) (w' : World), OwnRows w' lo (some ⟨g, 0, none⟩) (n + 1) c' (L ++ [l]) → RowsApart w' (some ⟨g, 0, none⟩) (n + 1) → w.grownBy w' (A.map (·.block)) → wpList Try.prog ops Q rest (a.put o.dst (.slice (some ⟨g, 0, none⟩) (n + 1) c')) w') :
    wpList Try.prog ops Q (o :: rest) a (w.alloc (.cells #[.slice ra m k] 56)) := by
  have hown := howno.keeps hk
  obtain ⟨ys0, q1, q2, q3⟩ := howno
  have p1 := own_keeps q1 hk
  refine wp_app Try.underlying23 info_ints rfl (by omega) hgd s y ho lo A n c ys0 w hs p1 _ rfl hx hn (Nat.le_trans hlo hk.size) (fun g c' w' g1 g2 => ?_)
  have hyl : ys0.length = n := by have := p1.1; simpa using this
  have hrows : OwnRows w' lo (some ⟨g, 0, none⟩) (n + 1) c' (L ++ [l]) := by
    refine ⟨ys0 ++ [.slice ra m k], g1, by simp [q2], fun i hi => ?_⟩
    have keep : ∀ {a' : Option Addr} {m' k' lo' : Nat} {l' : List Int}, OwnInts w lo' a' m' k' l' → OwnInts w' lo' a' m' k' l' := fun ho => own_kept ho g2 (fun b hb e => own_type ho p1 (by decide) b hb e)
    by_cases hin : i < n
    · obtain ⟨a', m', k', e, ho⟩ := q3 i hin
      refine ⟨a', m', k', by rw [List.getElem?_append_left (by omega)]; exact e, ?_⟩
      rw [List.getD_eq_getElem?_getD, List.getElem?_append_left (by omega), ← List.getD_eq_getElem?_getD]
      exact keep (ho.keeps hk)
    · have : i = n := by omega
      subst this
      refine ⟨ra, m, k, by rw [List.getElem?_append_right (by omega), hyl]; simp, ?_⟩
      rw [List.getD_eq_getElem?_getD, List.getElem?_append_right (by omega), q2]
      simpa using (keep hrow).mono hlo
  refine h g c' w' hrows ?_ g2
  intro g' hg' i j hi hj a1 b1 m1 k1 m2 k2 d hc1 hc2 hd1 hd2
  cases hg'
  rw [World.ownsRow.cellAt g1 i (by omega)] at hc1
  rw [World.ownsRow.cellAt g1 j (by omega)] at hc2
  have old : ∀ u, u < n → ∀ (a2 : Option Addr) (m3 k3 : Nat), (ys0 ++ [Value.slice ra m k])[u]? = some (.slice a2 m3 k3) → ∃ g0, A = some ⟨g0, 0, none⟩ ∧ wo.cell? ⟨g0, u, none⟩ = some (.slice a2 m3 k3) ∧ ∀ d, a2.map (·.block) = some d → d < wo.heap.size := fun u hu a2 m3 k3 e => by
    rw [List.getElem?_append_left (by omega)] at e
    obtain ⟨a', m', k', e', ho⟩ := q3 u hu
    rw [e'] at e
    cases e
    rcases q1.2 with ⟨_, h0⟩ | ⟨g0, cap, cur, e0, _⟩
    · omega
    · cases e0
      exact ⟨g0, rfl, by rw [q1.cellAt u (by omega)]; exact e', fun d hd => (own_block ho d hd).2⟩
  have new : ∀ (a2 : Option Addr) (m3 k3 : Nat), (ys0 ++ [Value.slice ra m k])[n]? = some (.slice a2 m3 k3) → ∀ d, a2.map (·.block) = some d → wo.heap.size ≤ d := fun a2 m3 k3 e d hd => by
    rw [List.getElem?_append_right (by omega), hyl] at e
    simp at e
    obtain ⟨rfl, _, _⟩ := e
    exact (own_block hrow d hd).1
  by_cases hin : i < n
  · obtain ⟨g0, e0, ec, eb⟩ := old i hin _ _ _ hc1
    by_cases hjn : j < n
    · obtain ⟨g0', e0', ec', _⟩ := old j hjn _ _ _ hc2
      rw [e0] at e0'
      cases e0'
      exact hap g0 e0 i j hin hjn _ _ _ _ _ _ d ec ec' hd1 hd2
    · obtain rfl : j = n := by omega
      have := new _ _ _ hc2 d hd2
      have := eb d hd1
      omega
  · obtain rfl : i = n := by omega
    by_cases hjn : j < i
    · obtain ⟨g0', e0', ec', eb'⟩ := old j hjn _ _ _ hc2
      have := new _ _ _ hc1 d hd1
      have := eb' d hd2
      omega
    · omega
/-- Own rows in different blocks, as a matrix. -/
theorem OwnRows.mat {w : World} {lo n c : Nat} {A : Option Addr} {L : List (List Int)} (h : OwnRows w lo A n c L) (hap : RowsApart w A n) :
    ∃ (B : Nat → Option Addr) (Cp : Nat → Nat), OwnMat w lo A n c B (fun i => (L.getD i []).length) Cp (fun i j => (L.getD i []).getD j 0) := by
  obtain ⟨ys, h1, h2, h3⟩ := h
  obtain ⟨y, hy⟩ := Deep.choose_lt (p := fun i (y : Option Addr × Nat × Nat) => ys[i]? = some (.slice y.1 y.2.1 y.2.2) ∧ OwnInts w lo y.1 y.2.1 y.2.2 (L.getD i [])) (fun i hi => by
    obtain ⟨a, m, k, e, ho⟩ := h3 i hi
    exact ⟨(a, m, k), e, ho⟩)
  have hyl : ys.length = n := by have := h1.1; simpa using this
  refine ⟨fun i => (y i).1, fun i => (y i).2.2, ?_, fun i hi => ?_, fun i j hi hj d hd1 hd2 => ?_⟩
  · have : ys = rl n fun i => .slice (y i).1 (L.getD i []).length (y i).2.2 := by
      apply List.ext_getElem?
      intro i
      by_cases hi : i < n
      · rw [(hy i hi).1, rl_get n _ i hi, (hy i hi).2.len]
      · rw [List.getElem?_eq_none (by omega), List.getElem?_eq_none (by simp [rl]; omega)]
    rw [← this]
    exact h1
  · have ho := (hy i hi).2
    rw [← ho.len] at ho
    rwa [il_self _ _ rfl]
  · rcases h1.2 with ⟨_, h0⟩ | ⟨g0, cap, cur, e0, _⟩
    · omega
    · cases e0
      exact hap g0 rfl i j hi hj _ _ _ _ _ _ d (by rw [h1.cellAt i (by omega)]; exact (hy i hi).1) (by rw [h1.cellAt j (by omega)]; exact (hy j hj).1) hd1 hd2
end Go.Proofs.Ytalafojkmomolaa
