/-
  A net of the call's own that grows: rows and marks in different blocks. Plain laws; no condition but bounds on lengths.
-/
import Derived.Test.YtdjilgbcpdlkfaaSRing
import Derived.Test.YtdjilgbcpdlkfaaExactSS
import Derived.Test.YtdjilgbcpdlkfaaDraw
namespace Go.Proofs.Ytdjilgbcpdlkfaa
open Go.RowKit

/-- Rows and marks of the call's own, each in a block of its own, rows of at most seven. -/
def OwnNet (w : World) (lo : Nat) (A : Option Addr) (n c : Nat) (B : Option Addr) (k d : Nat) : Prop :=
  ∃ (Ad : Nat → Option Addr) (Ln Cp : Nat → Nat) (X : Nat → Nat → Int) (M : Nat → Int), OwnMat w lo A n c Ad Ln Cp X ∧ OwnInts w lo B k d (il k M) ∧ (∀ i, i < n → ∀ x, (Ad i).map (·.block) = some x → B.map (·.block) ≠ some x) ∧ ∀ i, i < n → Ln i ≤ 7
section
variable {w w' : World} {lo n c k d : Nat} {A B : Option Addr}
theorem OwnNet.nil (w : World) (lo : Nat) : OwnNet w lo none 0 0 none 0 0 :=
  ⟨fun _ => none, fun _ => 0, fun _ => 0, fun _ _ => 0, fun _ => 0, ⟨World.ownsRow_nil w lo _ 1, fun _ hi => absurd hi (Nat.not_lt_zero _), fun _ _ hi => absurd hi (Nat.not_lt_zero _)⟩, OwnInts.nil w lo, fun _ hi => absurd hi (Nat.not_lt_zero _), fun _ hi => absurd hi (Nat.not_lt_zero _)⟩
theorem OwnNet.keeps (h : OwnNet w lo A n c B k d) (kk : Keeps w w') : OwnNet w' lo A n c B k d := by
  obtain ⟨Ad, Ln, Cp, X, M, h1, h2, h3, h4⟩ := h
  exact ⟨Ad, Ln, Cp, X, M, h1.keeps kk, h2.keeps kk, h3, h4⟩
theorem OwnNet.grown {b : Nat} {T : TypeId} {cs : Array Value} (h : OwnNet w lo A n c B k d) (g : w.grownBy w' (some b)) (hb : Blk w b T cs) (hT : T ≠ 3) (hT2 : T ≠ 23) : OwnNet w' lo A n c B k d := by
  obtain ⟨Ad, Ln, Cp, X, M, h1, h2, h3, h4⟩ := h
  exact ⟨Ad, Ln, Cp, X, M, ⟨own_kept h1.top g (own_other h1.top hb hT2), fun i hi => (h1.row i hi).grown g hb hT, h1.apart⟩, h2.grown g hb hT, h3, h4⟩
theorem OwnNet.mono {lo' : Nat} (h : OwnNet w lo A n c B k d) (hl : lo' ≤ lo) : OwnNet w lo' A n c B k d := by
  obtain ⟨Ad, Ln, Cp, X, M, h1, h2, h3, h4⟩ := h
  exact ⟨Ad, Ln, Cp, X, M, h1.mono hl, h2.mono hl, h3, h4⟩
theorem OwnNet.alo (h : OwnNet w lo A n c B k d) : ∀ x, A.map (·.block) = some x → lo ≤ x := by
  obtain ⟨Ad, Ln, Cp, X, M, h1, _⟩ := h
  exact fun x hx => (h1.blo x hx).1
theorem OwnNet.blo (h : OwnNet w lo A n c B k d) : ∀ x, B.map (·.block) = some x → lo ≤ x := by
  obtain ⟨Ad, Ln, Cp, X, M, _, h2, _⟩ := h
  exact fun x hx => (own_block h2 x hx).1
/-- The outer array grows: what lies in blocks of other types stays. -/
theorem OwnNet.blkA {b : Nat} {T : TypeId} {cs : Array Value} (h : OwnNet w lo A n c B k d) (g : w.grownBy w' (A.map (·.block))) (hb : Blk w b T cs) (hT2 : T ≠ 23) : Blk w' b T cs := by
  obtain ⟨Ad, Ln, Cp, X, M, h1, _⟩ := h
  exact hb.grown g (own_other' h1.top hb hT2)
theorem OwnNet.blkB {b : Nat} {T : TypeId} {cs : Array Value} (h : OwnNet w lo A n c B k d) (g : w.grownBy w' (B.map (·.block))) (hb : Blk w b T cs) (hT : T ≠ 3) : Blk w' b T cs := by
  obtain ⟨Ad, Ln, Cp, X, M, _, h2, _⟩ := h
  exact hb.grown g (own_other' h2 hb hT)
theorem matGro {b : Nat} {cs : Array Value} {Ad : Nat → Option Addr} {Ln Cp : Nat → Nat} {X : Nat → Nat → Int} (h1 : OwnMat w lo A n c Ad Ln Cp X) {T : TypeId} (g : w.grownBy w' (some b)) (hb : Blk w b T cs) (hT : T ≠ 3) (hT2 : T ≠ 23) : OwnMat w' lo A n c Ad Ln Cp X :=
  ⟨own_kept h1.top g (own_other h1.top hb hT2), fun i hi => (h1.row i hi).grown g hb hT, h1.apart⟩
/-- A row's cells are what they are. -/
theorem own_ys {w : World} {lo lo' n c : Nat} {A : Option Addr} {E : TypeId} {ys ys' : List Value} (h : w.ownsRow lo E 1 (.slice A n c) n ys) (h' : w.ownsRow lo' E 1 (.slice A n c) n ys') : ys = ys' := by
  have l1 : ys.length = n := by have := h.1; simpa using this
  have l2 : ys'.length = n := by have := h'.1; simpa using this
  apply List.ext_getElem?
  intro i
  by_cases hi : i < n
  · rcases h.2 with ⟨e, h0⟩ | ⟨g', cap, cur, e, rest'⟩
    · omega
    · cases e
      rw [← h.cellAt i (by omega), ← h'.cellAt i (by omega)]
  · rw [List.getElem?_eq_none (by omega), List.getElem?_eq_none (by omega)]
theorem OwnNet.marks0 {M : Nat → Int} (h : OwnInts w lo B k d (il k M)) : OwnNet w lo none 0 0 B k d :=
  ⟨fun _ => none, fun _ => 0, fun _ => 0, fun _ _ => 0, M, ⟨World.ownsRow_nil w lo _ 1, fun _ hi => absurd hi (Nat.not_lt_zero _), fun _ _ hi => absurd hi (Nat.not_lt_zero _)⟩, h, fun _ hi => absurd hi (Nat.not_lt_zero _), fun _ hi => absurd hi (Nat.not_lt_zero _)⟩
theorem rl_succ (n : Nat) (f : Nat → Value) : rl (n + 1) f = rl n f ++ [f n] := by unfold rl; rw [List.range_succ, List.map_append]; rfl
/-- A row that lies above all that was there is appended. -/
theorem OwnNet.row {wo w w' : World} {lo n c k d g c' m kk : Nat} {A B ra : Option Addr} {l : List Int} (h : OwnNet wo lo A n c B k d) {b : Nat} {T : TypeId} {cs : Array Value} (hk : Gro b wo w) (hb : Blk wo b T cs) (hT : T ≠ 3) (hT2 : T ≠ 23) (hrow : OwnInts w wo.heap.size ra m kk l) (hm : m ≤ 7) (hlo : lo ≤ wo.heap.size)
    (ht : ∀ ys : List Value, w.ownsRow lo 23 1 (.slice A n c) n ys → w'.ownsRow lo 23 1 (.slice (some ⟨g, 0, none⟩) (n + 1) c') (n + 1) (ys ++ [.slice ra m kk])) (hg : w.grownBy w' (A.map (·.block))) : OwnNet w' lo (some ⟨g, 0, none⟩) (n + 1) c' B k d := by
  obtain ⟨Ad, Ln, Cp, X, M, h1, h2, h3, h4⟩ := h
  have q1 := matGro h1 hk hb hT hT2
  have q2 : OwnInts w lo B k d (il k M) := h2.grown hk hb hT
  have hl := hrow.len
  have keepI : ∀ {a' : Option Addr} {m' k' lo' : Nat} {l' : List Int}, OwnInts w lo' a' m' k' l' → OwnInts w' lo' a' m' k' l' := fun ho => own_kept ho hg (fun b hb e => own_type ho q1.top (by decide) b hb e)
  have hnew : ∀ x, ra.map (·.block) = some x → wo.heap.size ≤ x := fun x hx => (own_block hrow x hx).1
  refine ⟨fun i => if i = n then ra else Ad i, fun i => if i = n then m else Ln i, fun i => if i = n then kk else Cp i, fun i => if i = n then (fun j => l.getD j 0) else X i, M, ⟨?_, fun i hi => ?_, fun i j hi hj x e1 e2 => ?_⟩, keepI q2, fun i hi x hx => ?_, fun i hi => ?_⟩
  · have := ht _ q1.top
    rw [rl_succ, rl_congr n _ (fun i => .slice (Ad i) (Ln i) (Cp i)) (fun i hi => by simp [show i ≠ n by omega])]
    simpa using this
  · by_cases e : i = n
    · subst e
      simp only [if_true]
      rw [il_self l m hl]
      exact (keepI hrow).mono hlo
    · simp only [if_neg e]
      exact keepI (q1.row i (by omega))
  · by_cases ei : i = n
    · by_cases ej : j = n
      · omega
      · rw [if_pos ei] at e1
        rw [if_neg ej] at e2
        have := hnew x e1
        have := (h1.rblo j (by omega) x e2).2
        omega
    · by_cases ej : j = n
      · rw [if_neg ei] at e1
        rw [if_pos ej] at e2
        have := hnew x e2
        have := (h1.rblo i (by omega) x e1).2
        omega
      · rw [if_neg ei] at e1
        rw [if_neg ej] at e2
        exact h1.apart i j (by omega) (by omega) x e1 e2
  · dsimp only at hx
    by_cases e : i = n
    · rw [if_pos e] at hx
      intro hB
      have := hnew x hx
      have := (own_block h2 x hB).2
      omega
    · rw [if_neg e] at hx
      exact h3 i (by omega) x hx
  · by_cases e : i = n
    · simp [e, hm]
    · simp [e]
      exact h4 i (by omega)
/-- A mark is appended. -/
theorem OwnNet.mark {w w' : World} {lo n c k d g c' : Nat} {A B : Option Addr} {x : Int} (h : OwnNet w lo A n c B k d) (ho : ∀ l : List Int, OwnInts w lo B k d l → OwnInts w' lo (some ⟨g, 0, none⟩) (k + 1) c' (l ++ [x])) (hg : w.grownBy w' (B.map (·.block))) (hat : B.map (·.block) = some g ∨ w.heap.size ≤ g) : OwnNet w' lo A n c (some ⟨g, 0, none⟩) (k + 1) c' := by
  obtain ⟨Ad, Ln, Cp, X, M, h1, h2, h3, h4⟩ := h
  refine ⟨Ad, Ln, Cp, X, fun i => if i = k then x else M i, ⟨own_kept h1.top hg (fun b hb e => own_type h2 h1.top (by decide) b e hb), fun i hi => own_kept (h1.row i hi) hg (fun b hb e => h3 i hi b hb e), h1.apart⟩, ?_, fun i hi y hy e => ?_, h4⟩
  · have := ho _ h2
    rw [il_succ, il_congr k _ M (fun i hi => by simp [show i ≠ k by omega])]
    simpa using this
  · have eg : g = y := by simpa using e
    subst eg
    rcases hat with e2 | e2
    · exact h3 i hi g hy e2
    · have := (h1.rblo i hi g hy).2
      omega
/-- How it reads. -/
theorem OwnNet.new (h : OwnNet w lo A n c B k d) (hn : n ≤ 1099511627776) (hk : k ≤ 1099511627776) : ∃ (r : Nat → Option Addr × Nat × Nat) (L : Nat → Nat) (X : Nat → Nat → Int) (M : Nat → Int), NetNew w lo A n r B k L X M ∧ ∀ i, i < n → L i ≤ 7 := by
  obtain ⟨Ad, Ln, Cp, X, M, h1, h2, h3, h4⟩ := h
  exact ⟨fun i => (Ad i, Ln i, Cp i), Ln, X, M, ⟨⟨h1.rows, fun _ _ => rfl, fun v hv => own_cap (h1.row v hv), il_ints h2, by omega, by omega⟩, fun x off e => (h1.blo x (by rw [e]; rfl)).1, h2.from', fun v hv x off e => (h1.rblo v hv x (by dsimp only at e; rw [e]; rfl)).1⟩, h4⟩
end
/-- The row is appended, in a plain statement. -/
theorem wp_netRowG {ops : Array Oper} {rest : List Oper} {o : Oper} {a : Act} {Q : Exit → Act → World → Prop}
    (hgd : o.guard = none) (s y : Operand) (ho : o.op = .call { callee := .builtin .append, args := #[s, y], argTypes := #[25, 25] })
    (lo b p : Nat) (A B : Option Addr) (n c k d : Nat) (wo w : World) (hs : a.eval s = .slice A n c) (hown : OwnNet wo lo A n c B k d) (hk : Gro b wo w) (hrd : Rd wo b p)
    (ra : Option Addr) (m kk : Nat) (l : List Int) (hrow : OwnInts w wo.heap.size ra m kk l) (hm : m ≤ 7) (hlo : lo ≤ wo.heap.size) (hx : a.eval y = .slice (some ⟨w.heap.size, 0, none⟩) 1 1) (hn : n + 1 ≤ 1099511627776)
    (h : ∀ (g c' : Nat) (w' : World), OwnNet w' lo (some ⟨g, 0, none⟩) (n + 1) c' B k d → w.grownBy w' (A.map (·.block)) → wpList Try.prog ops Q rest (a.put o.dst (.slice (some ⟨g, 0, none⟩) (n + 1) c')) w') :
    wpList Try.prog ops Q (o :: rest) a (w.alloc (.cells #[.slice ra m kk] 23)) := by
  have hN := hown
  obtain ⟨Ad, Ln, Cp, X, M, h1, h2, h3, h4⟩ := hown
  obtain ⟨cs, hb⟩ := hrd.blk
  have q1 := matGro h1 hk hb (by decide) (by decide)
  refine wp_app Try.underlying25 info_ints rfl (by omega) hgd s y ho lo A n c _ w hs q1.top _ rfl hx hn (Nat.le_trans hlo hk.size) (fun g c' w' g1 g2 => h g c' w' (hN.row hk hb (by decide) (by decide) hrow hm hlo (fun ys hys => ?_) g2) g2)
  rw [own_ys hys q1.top]
  exact g1
/-- A row is appended, in a statement that draws its order; what the rows hold is known. -/
theorem step_oneRN {ops : Array Oper} {o : Oper} {a : Act} {K : Act → World → Prop} {Q : Exit → Act → World → Prop} {D : Prop}
    (hgd : o.guard = none) (s y : Operand) (ho : o.op = .call { callee := .builtin .append, args := #[s, y], argTypes := #[25, 25] })
    (lo : Nat) (A B : Option Addr) (n c k d : Nat) (L : List (List Int)) (wo w : World) (hs : a.eval s = .slice A n c) (hown : OwnRows w lo A n c L) (hnet : OwnNet wo lo A n c B k d)
    {b : Nat} {T : TypeId} {cs : Array Value} (hk : Gro b wo w) (hb : Blk wo b T cs) (hT : T ≠ 3) (hT2 : T ≠ 23)
    (ra : Option Addr) (m kk : Nat) (l : List Int) (hrow : OwnInts w wo.heap.size ra m kk l) (hm : m ≤ 7) (hlo : lo ≤ wo.heap.size) (Bk : Nat) (hB : Blk w Bk 23 #[.slice ra m kk]) (hx : a.eval y = .slice (some ⟨Bk, 0, none⟩) 1 1) (hn : n + 1 ≤ 1099511627776)
    (h : ∀ (g c' : Nat) (w' : World), OwnRows w' lo (some ⟨g, 0, none⟩) (n + 1) c' (L ++ [l]) → OwnNet w' lo (some ⟨g, 0, none⟩) (n + 1) c' B k d → w.grownBy w' (A.map (·.block)) → K (a.put o.dst (.slice (some ⟨g, 0, none⟩) (n + 1) c')) w') :
    if Region.wanted o (yielded ops a.tmps) = true then Oper.wp Try.prog o a w K Q else D := by
  obtain ⟨ys, h1, h2, h3⟩ := hown
  refine step_any hgd (wpo_app Try.underlying25 info_ints rfl (by omega) (by omega) s y ho lo A n c ys hs h1 ⟨Bk, 0, none⟩ 1 1 [.slice ra m kk] hx rfl (World.news_of_block hB) (by simp [Value.oneCell']) hn (Nat.le_trans hlo hk.size) (fun A' c' w' g1 g2 _ => ?_))
  have hyl : ys.length = n := by have := h1.1; simpa using this
  have keep : ∀ {a' : Option Addr} {m' k' lo' : Nat} {l' : List Int}, OwnInts w lo' a' m' k' l' → OwnInts w' lo' a' m' k' l' := fun ho => own_kept ho g2 (fun b hb e => own_type ho h1 (by decide) b hb e)
  rcases g1.2 with ⟨e, e0⟩ | ⟨g, cap, cur, e, _⟩
  · omega
  · cases e
    refine h g _ w' ⟨ys ++ [.slice ra m kk], g1, by simp [h2], fun i hi => ?_⟩ (hnet.row hk hb hT hT2 hrow hm hlo (fun zs hzs => by rw [own_ys hzs h1]; exact g1) g2) g2
    by_cases hin : i < n
    · obtain ⟨a', m', k', e, ho⟩ := h3 i hin
      refine ⟨a', m', k', by rw [List.getElem?_append_left (by omega)]; exact e, ?_⟩
      rw [List.getD_eq_getElem?_getD, List.getElem?_append_left (by omega), ← List.getD_eq_getElem?_getD]
      exact keep ho
    · have : i = n := by omega
      subst this
      refine ⟨ra, m, kk, by rw [List.getElem?_append_right (by omega), hyl]; simp, ?_⟩
      rw [List.getD_eq_getElem?_getD, List.getElem?_append_right (by omega), h2]
      simpa using (keep hrow).mono hlo
/-- A mark is appended, in a statement that draws its order. -/
theorem step_netMark {ops : Array Oper} {o : Oper} {a : Act} {K : Act → World → Prop} {Q : Exit → Act → World → Prop} {D : Prop}
    (hgd : o.guard = none) (s y : Operand) (ho : o.op = .call { callee := .builtin .append, args := #[s, y], argTypes := #[23, 23] })
    (lo : Nat) (A B : Option Addr) (n c k d : Nat) (W : World) (hs : a.eval s = .slice B k d) (hown : OwnNet W lo A n c B k d)
    (b : Nat) (x : Int) (hB : Blk W b 3 #[.int .i64 x]) (hx : a.eval y = .slice (some ⟨b, 0, none⟩) 1 1) (hn : k + 1 ≤ 1099511627776) (hbase : lo ≤ W.heap.size)
    (h : ∀ (g c' : Nat) (w' : World), OwnNet w' lo A n c (some ⟨g, 0, none⟩) (k + 1) c' → W.grownBy w' (B.map (·.block)) → K (a.put o.dst (.slice (some ⟨g, 0, none⟩) (k + 1) c')) w') :
    if Region.wanted o (yielded ops a.tmps) = true then Oper.wp Try.prog o a W K Q else D := by
  have hN := hown
  obtain ⟨Ad, Ln, Cp, X, M, h1, h2, h3, h4⟩ := hown
  obtain ⟨i0, hi, hz0, hz1, hz2⟩ := info_parts info_int
  have hob : (Value.slice B k d).ownBlock = B.map (·.block) := by cases B <;> rfl
  refine step_append_lies (P := Try.prog) _ hgd s y 23 ho lo 3 i0 _ 1 8 Try.underlying23 hi hz0 hz1 hz2 rfl (by omega) _ k _ hs h2 ⟨b, 0, none⟩ 1 1 [.int .i64 x] hx rfl (World.news_of_block hB) (by simp [Value.oneCell']) (by omega)
    (by unfold maxLen; omega) (by omega) hbase _ rfl (fun g c' w' g1 g2 g3 _ => h g c' w' ?_ (by rw [hob] at g2; exact g2))
  rw [hob] at g2 g3
  have hO : OwnInts w' lo (some ⟨g, 0, none⟩) (k + 1) c' (il k M ++ [x]) := by unfold OwnInts; rw [List.map_append]; exact g1
  refine ⟨Ad, Ln, Cp, X, fun i => if i = k then x else M i, ⟨own_kept h1.top g2 (fun b hb e => own_type h2 h1.top (by decide) b e hb), fun i hi => own_kept (h1.row i hi) g2 (fun b hb e => h3 i hi b hb e), h1.apart⟩, ?_, fun i hi y hy e => ?_, h4⟩
  · rw [il_succ, il_congr k _ M (fun i hi => by simp [show i ≠ k by omega])]
    simpa using hO
  · have eg : g = y := by simpa using e
    subst eg
    rcases g3 with e2 | e2
    · exact h3 i hi g hy e2
    · have := (h1.rblo i hi g hy).2
      omega
end Go.Proofs.Ytdjilgbcpdlkfaa
