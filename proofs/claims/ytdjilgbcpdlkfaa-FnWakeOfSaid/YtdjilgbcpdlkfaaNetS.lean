/-
  Nets whose blocks lie in a set, and what becomes of a net of the call's own by a store or an append. Plain laws; no condition but bounds on lengths.
-/
import Derived.Test.YtdjilgbcpdlkfaaMat
namespace Go.Proofs.Ytdjilgbcpdlkfaa
open Go.RowKit

/-- A net all of whose blocks have S. -/
structure NetS (w : World) (S : Nat → Prop) (A : Option Addr) (m : Nat) (r : Nat → Option Addr × Nat × Nat) (B : Option Addr) (mm : Nat) (L : Nat → Nat) (X : Nat → Nat → Int) (M : Nat → Int) : Prop where
  net : NetAt w A m r B mm L X M
  a : ∀ d off, A = some ⟨d, off, none⟩ → S d
  b : ∀ d off, B = some ⟨d, off, none⟩ → S d
  r : ∀ v, v < m → ∀ d off, (r v).1 = some ⟨d, off, none⟩ → S d
section
variable {w w' : World} {S : Nat → Prop} {A B : Option Addr} {m mm : Nat} {r : Nat → Option Addr × Nat × Nat} {L : Nat → Nat} {X : Nat → Nat → Int} {M : Nat → Int}
theorem NetS.grown {row : Option Nat} (h : NetS w S A m r B mm L X M) (g : w.grownBy w' row) (hr : ∀ x, row = some x → ¬ S x) : NetS w' S A m r B mm L X M := by
  have keep : ∀ {d off : Nat} {v : Value}, S d → w.cell? ⟨d, off, none⟩ = some v → w'.cell? ⟨d, off, none⟩ = some v := fun hd hc => World.grownBy.cell g hc (fun e => hr _ e.symm hd)
  refine ⟨⟨fun i hi => ⟨?_, fun p hp => ?_⟩, h.net.len, h.net.cap, fun i hi => ?_, h.net.mb, h.net.mmb⟩, h.a, h.b, h.r⟩
  · obtain ⟨⟨d, off, e, hc⟩, _⟩ := h.net.rows i hi
    exact ⟨d, off, e, keep (h.a d off e) hc⟩
  · obtain ⟨d, off, e, hc⟩ := (h.net.rows i hi).2 p hp
    exact ⟨d, off, e, keep (h.r i hi d off e) hc⟩
  · obtain ⟨d, off, e, hc⟩ := h.net.marks i hi
    exact ⟨d, off, e, keep (h.b d off e) hc⟩
theorem NetS.mono {S' : Nat → Prop} (h : NetS w S A m r B mm L X M) (hS : ∀ x, S x → S' x) : NetS w S' A m r B mm L X M :=
  ⟨h.net, fun d off e => hS _ (h.a d off e), fun d off e => hS _ (h.b d off e), fun v hv d off e => hS _ (h.r v hv d off e)⟩
theorem NetS.new {lo : Nat} (h : NetS w (fun d => lo ≤ d) A m r B mm L X M) : NetNew w lo A m r B mm L X M := ⟨h.net, h.a, h.b, h.r⟩
end
/-- The blocks that a net of the call's own may have: from lo on, and not those of two boxes. -/
def Free (lo R V d : Nat) : Prop := lo ≤ d ∧ d ≠ R ∧ d ≠ V
theorem own_ne {w : World} {lo s n c m : Nat} {E T : TypeId} {A : Option Addr} {xs : List Value} {R : Nat} {cs : Array Value} (h : w.ownsRow lo E s (.slice A n c) m xs) (hR : Blk w R T cs) (hT : T ≠ E) : ∀ d off, A = some ⟨d, off, none⟩ → d ≠ R := fun d off e he => by
  subst e
  exact own_other h hR hT d rfl (by rw [he])
section
variable {w w' : World} {lo n c k d R V : Nat} {A B : Option Addr} {cR cV : Array Value}
theorem OwnNet.newS (h : OwnNet w lo A n c B k d) (hR : Blk w R 27 cR) (hV : Blk w V 27 cV) (hn : n ≤ 1099511627776) (hk : k ≤ 1099511627776) :
    ∃ (r : Nat → Option Addr × Nat × Nat) (L : Nat → Nat) (X : Nat → Nat → Int) (M : Nat → Int), NetS w (Free lo R V) A n r B k L X M ∧ ∀ i, i < n → L i ≤ 8 := by
  obtain ⟨Ad, Ln, Cp, X, M, h1, h2, h3, h4⟩ := h
  refine ⟨fun i => (Ad i, Ln i, Cp i), Ln, X, M, ⟨⟨h1.rows, fun _ _ => rfl, fun v hv => own_cap (h1.row v hv), il_ints h2, by omega, by omega⟩, fun x off e => ⟨(h1.blo x (by rw [e]; rfl)).1, own_ne h1.top hR (by decide) x off e, own_ne h1.top hV (by decide) x off e⟩, fun x off e => ⟨h2.from' x off e, own_ne h2 hR (by decide) x off e, own_ne h2 hV (by decide) x off e⟩, fun v hv x off e => ?_⟩, fun i hi => by have := h4 i hi; omega⟩
  dsimp only at e
  exact ⟨(h1.rblo v hv x (by rw [e]; rfl)).1, own_ne (h1.row v hv) hR (by decide) x off e, own_ne (h1.row v hv) hV (by decide) x off e⟩
/-- The first mark is stored. -/
theorem OwnNet.setMark {g : Nat} (h : OwnNet w lo A n c (some ⟨g, 0, none⟩) k d) (j : Nat) (x : Int) : OwnNet (w.setCell ⟨g, j, none⟩ (.int .i64 x)) lo A n c (some ⟨g, 0, none⟩) k d := by
  obtain ⟨Ad, Ln, Cp, X, M, h1, h2, h3, h4⟩ := h
  refine ⟨Ad, Ln, Cp, X, fun i => if i = j then x else M i, ⟨own_kept h1.top (grown_set w g j _) (fun b hb e => own_type h2 h1.top (by decide) g rfl (by rw [hb, ← e])), fun i hi => own_kept (h1.row i hi) (grown_set w g j _) (fun b hb e => h3 i hi b hb (by rw [← e]; rfl)), h1.apart⟩, ?_, h3, h4⟩
  have := h2.set j x
  rwa [il_set] at this
/-- The first mark. -/
theorem OwnNet.mark0 (h : OwnNet w lo A n c B k d) (hk : 1 ≤ k) : ∃ (g : Nat) (x : Int), B = some ⟨g, 0, none⟩ ∧ w.cell? ⟨g, 0, none⟩ = some (.int .i64 x) ∧ w.frozen? ⟨g, 0, none⟩ = false ∧ lo ≤ g ∧ g < w.heap.size ∧ ∀ R cs, Blk w R 27 cs → g ≠ R := by
  obtain ⟨Ad, Ln, Cp, X, M, h1, h2, h3, h4⟩ := h
  obtain ⟨g, rfl⟩ := h2.at hk
  exact ⟨g, _, rfl, h2.cell 0 (by omega), h2.frozen 0, h2.block.1, h2.block.2, fun R cs hR => own_ne h2 hR (by decide) g 0 rfl⟩
/-- The header of the first row. -/
theorem OwnNet.head (h : OwnNet w lo A n c B k d) (hn : 1 ≤ n) : ∃ (g : Nat) (ra : Option Addr) (m kk : Nat), A = some ⟨g, 0, none⟩ ∧ w.cell? ⟨g, 0, none⟩ = some (.slice ra m kk) ∧ w.frozen? ⟨g, 0, none⟩ = false ∧ m ≤ 7 ∧ m ≤ kk ∧ kk ≤ 9223372036854775807 ∧ lo ≤ g ∧ g < w.heap.size ∧ (1 ≤ m → ∃ x, ra = some ⟨x, 0, none⟩) := by
  obtain ⟨Ad, Ln, Cp, X, M, h1, h2, h3, h4⟩ := h
  obtain ⟨g, rfl⟩ := h1.at hn
  have hc := own_cap (h1.row 0 (by omega))
  have hb := h1.blo g rfl
  exact ⟨g, Ad 0, Ln 0, Cp 0, rfl, h1.cell 0 (by omega), World.ownsRow.frozenAt h1.top 0, h4 0 (by omega), hc.1, hc.2, hb.1, hb.2, fun hm => (h1.row 0 (by omega)).at hm⟩
/-- The first row loses its first port. -/
theorem OwnNet.cut0 {g x m kk : Nat} {ra' : Option Addr} (h : OwnNet w lo (some ⟨g, 0, none⟩) n c B k d) (hR : Blk w R 27 cR) (hV : Blk w V 27 cV) (hn1 : 1 ≤ n) (hn : n ≤ 1099511627776) (hk : k ≤ 1099511627776) (hc : w.cell? ⟨g, 0, none⟩ = some (.slice (some ⟨x, 0, none⟩) (m + 1) (kk + 1))) (hra : 0 < kk → ra' = some ⟨x, 1, none⟩) (hra0 : kk = 0 → ra' = some ⟨x, 0, none⟩) :
    ∃ (r : Nat → Option Addr × Nat × Nat) (L : Nat → Nat) (X : Nat → Nat → Int) (M : Nat → Int), NetS (w.setCell ⟨g, 0, none⟩ (.slice ra' m kk)) (Free lo R V) (some ⟨g, 0, none⟩) n r B k L X M ∧ ∀ i, i < n → L i ≤ 8 := by
  obtain ⟨Ad, Ln, Cp, X, M, h1, h2, h3, h4⟩ := h
  have h0 := h1.cell 0 (by omega)
  rw [hc] at h0
  simp only [Option.some.injEq, Value.slice.injEq] at h0
  obtain ⟨e1, e2, e3⟩ := h0
  have hcap := own_cap (h1.row 0 (by omega))
  have h40 := h4 0 (by omega)
  have hst := (World.ownsRow.stored h1.top 0 (.slice ra' m kk)).1
  rw [rl_set] at hst
  have hrowk : ∀ i, i < n → OwnInts (w.setCell ⟨g, 0, none⟩ (.slice ra' m kk)) lo (Ad i) (Ln i) (Cp i) (il (Ln i) (X i)) := fun i hi => own_kept (h1.row i hi) (grown_set w g 0 _) (fun b hb e => own_type (h1.row i hi) h1.top (by decide) b hb (by rw [← e]; rfl))
  have hmk : OwnInts (w.setCell ⟨g, 0, none⟩ (.slice ra' m kk)) lo B k d (il k M) := own_kept h2 (grown_set w g 0 _) (fun b hb e => own_type h2 h1.top (by decide) b hb (by rw [← e]; rfl))
  refine ⟨fun i => if i = 0 then (ra', m, kk) else (Ad i, Ln i, Cp i), fun i => if i = 0 then m else Ln i, fun i p => if i = 0 then X 0 (p + 1) else X i p, M, ⟨⟨fun i hi => ⟨?_, fun p hp => ?_⟩, fun v hv => by by_cases e : v = 0 <;> simp [e], fun v hv => ?_, il_ints hmk, by omega, by omega⟩, fun y off e => ⟨(h1.blo y (by rw [e]; rfl)).1, own_ne h1.top hR (by decide) y off e, own_ne h1.top hV (by decide) y off e⟩, fun y off e => ⟨h2.from' y off e, own_ne h2 hR (by decide) y off e, own_ne h2 hV (by decide) y off e⟩, fun v hv y off e => ?_⟩, fun i hi => ?_⟩
  · refine ⟨g, 0, rfl, ?_⟩
    rw [Nat.zero_add, hst.cellAt i (by omega), rl_get n _ i hi]
    by_cases e : i = 0 <;> simp [e]
  · by_cases e : i = 0
    · subst e
      simp only [if_true] at hp ⊢
      have hkk : 0 < kk := by omega
      obtain ⟨y, off, ey, hcy⟩ := il_ints (hrowk 0 (by omega)) (p + 1) (by omega)
      rw [← e1] at ey
      cases ey
      exact ⟨x, 1, hra hkk, by rw [show 1 + p = 0 + (p + 1) by omega]; exact hcy⟩
    · simp only [if_neg e] at hp ⊢
      exact il_ints (hrowk i hi) p hp
  · by_cases e : v = 0
    · simp only [if_pos e]; omega
    · simp only [if_neg e]; exact own_cap (h1.row v hv)
  · by_cases ev : v = 0
    · subst ev
      simp only [if_true] at e
      have hx : y = x := by
        by_cases hkk : kk = 0
        · rw [hra0 hkk] at e; cases e; rfl
        · rw [hra (by omega)] at e; cases e; rfl
      subst hx
      exact ⟨(h1.rblo 0 (by omega) y (by rw [← e1]; rfl)).1, own_ne (h1.row 0 (by omega)) hR (by decide) y 0 e1.symm, own_ne (h1.row 0 (by omega)) hV (by decide) y 0 e1.symm⟩
    · simp only [if_neg ev] at e
      exact ⟨(h1.rblo v hv y (by rw [e]; rfl)).1, own_ne (h1.row v hv) hR (by decide) y off e, own_ne (h1.row v hv) hV (by decide) y off e⟩
  · by_cases e : i = 0
    · simp only [if_pos e]; omega
    · simp only [if_neg e]; have := h4 i hi; omega
/-- The first row, one longer, is stored back. -/
theorem OwnNet.row0 {g gr c' : Nat} {ra : Option Addr} {m kk : Nat} {y : Int} (h : OwnNet w lo (some ⟨g, 0, none⟩) n c B k d) (hR : Blk w R 27 cR) (hV : Blk w V 27 cV) (hn1 : 1 ≤ n) (hn : n ≤ 1099511627776) (hk : k ≤ 1099511627776) (hc : w.cell? ⟨g, 0, none⟩ = some (.slice ra m kk))
    (ho : ∀ l : List Int, OwnInts w lo ra m kk l → OwnInts w' lo (some ⟨gr, 0, none⟩) (m + 1) c' (l ++ [y])) (hg : w.grownBy w' (ra.map (·.block))) (hat : ra.map (·.block) = some gr ∨ w.heap.size ≤ gr) :
    ∃ (r : Nat → Option Addr × Nat × Nat) (L : Nat → Nat) (X : Nat → Nat → Int) (M : Nat → Int), NetS (w'.setCell ⟨g, 0, none⟩ (.slice (some ⟨gr, 0, none⟩) (m + 1) c')) (Free lo R V) (some ⟨g, 0, none⟩) n r B k L X M ∧ ∀ i, i < n → L i ≤ 8 := by
  obtain ⟨Ad, Ln, Cp, X, M, h1, h2, h3, h4⟩ := h
  have h0 := h1.cell 0 (by omega)
  rw [hc] at h0
  simp only [Option.some.injEq, Value.slice.injEq] at h0
  obtain ⟨e1, e2, e3⟩ := h0
  have h40 := h4 0 (by omega)
  have hnew := ho (il (Ln 0) (X 0)) (by rw [e1, e2, e3]; exact h1.row 0 (by omega))
  have hRV : R ≠ gr ∧ V ≠ gr := by
    have f1 := own_other' (h1.row 0 (by omega)) hR (by decide)
    have f2 := own_other' (h1.row 0 (by omega)) hV (by decide)
    rcases hat with e | e
    · rw [← e1] at f1 f2
      rw [e] at f1 f2
      exact ⟨fun e => f1 (by rw [e]), fun e => f2 (by rw [e])⟩
    · have := hR.lt
      have := hV.lt
      exact ⟨by omega, by omega⟩
  have htop' := own_kept h1.top hg (fun b hb e => own_type (h1.row 0 (by omega)) h1.top (by decide) b (by rw [← e1]; exact e) hb)
  have hst := (World.ownsRow.stored htop' 0 (.slice (some ⟨gr, 0, none⟩) (m + 1) c')).1
  rw [rl_set] at hst
  have hgs : w'.grownBy (w'.setCell ⟨g, 0, none⟩ (.slice (some ⟨gr, 0, none⟩) (m + 1) c')) (some g) := grown_set w' g 0 _
  have hrowk : ∀ i, i < n → i ≠ 0 → OwnInts (w'.setCell ⟨g, 0, none⟩ (.slice (some ⟨gr, 0, none⟩) (m + 1) c')) lo (Ad i) (Ln i) (Cp i) (il (Ln i) (X i)) := fun i hi h0 => by
    have q := own_kept (h1.row i hi) hg (fun b hb e => h0 (h1.apart i 0 hi (by omega) b hb (by rw [← e1]; exact e)))
    exact own_kept q hgs (fun b hb e => own_type q htop' (by decide) b hb (by rw [← e]; rfl))
  have hmk1 : OwnInts w' lo B k d (il k M) := own_kept h2 hg (fun b hb e => h3 0 (by omega) b (by rw [← e1]; exact e) hb)
  have hmk : OwnInts (w'.setCell ⟨g, 0, none⟩ (.slice (some ⟨gr, 0, none⟩) (m + 1) c')) lo B k d (il k M) := own_kept hmk1 hgs (fun b hb e => own_type hmk1 htop' (by decide) b hb (by rw [← e]; rfl))
  have hn0 : OwnInts (w'.setCell ⟨g, 0, none⟩ (.slice (some ⟨gr, 0, none⟩) (m + 1) c')) lo (some ⟨gr, 0, none⟩) (m + 1) c' (il (Ln 0) (X 0) ++ [y]) := own_kept hnew hgs (fun b hb e => own_type hnew htop' (by decide) b hb (by rw [← e]; rfl))
  have hgrb := hn0.block
  refine ⟨fun i => if i = 0 then (some ⟨gr, 0, none⟩, m + 1, c') else (Ad i, Ln i, Cp i), fun i => if i = 0 then m + 1 else Ln i, fun i p => if i = 0 then (il (Ln 0) (X 0) ++ [y]).getD p 0 else X i p, M, ⟨⟨fun i hi => ⟨?_, fun p hp => ?_⟩, fun v hv => by by_cases e : v = 0 <;> simp [e], fun v hv => ?_, il_ints hmk, by omega, by omega⟩, fun y off e => ⟨(h1.blo y (by rw [e]; rfl)).1, own_ne h1.top hR (by decide) y off e, own_ne h1.top hV (by decide) y off e⟩, fun y off e => ⟨h2.from' y off e, own_ne h2 hR (by decide) y off e, own_ne h2 hV (by decide) y off e⟩, fun v hv y off e => ?_⟩, fun i hi => ?_⟩
  · refine ⟨g, 0, rfl, ?_⟩
    rw [Nat.zero_add, hst.cellAt i (by omega), rl_get n _ i hi]
    by_cases e : i = 0 <;> simp [e]
  · by_cases e : i = 0
    · subst e
      simp only [if_true] at hp ⊢
      exact ⟨gr, 0, rfl, by rw [Nat.zero_add]; exact hn0.cell p hp⟩
    · simp only [if_neg e] at hp ⊢
      exact il_ints (hrowk i hi e) p hp
  · by_cases e : v = 0
    · simp only [if_pos e]; exact own_cap hn0
    · simp only [if_neg e]; exact own_cap (h1.row v hv)
  · by_cases ev : v = 0
    · subst ev
      simp only [if_true, Option.some.injEq, Addr.mk.injEq] at e
      obtain ⟨rfl, _⟩ := e
      exact ⟨hgrb.1, fun e => hRV.1 e.symm, fun e => hRV.2 e.symm⟩
    · simp only [if_neg ev] at e
      exact ⟨(h1.rblo v hv y (by rw [e]; rfl)).1, own_ne (h1.row v hv) hR (by decide) y off e, own_ne (h1.row v hv) hV (by decide) y off e⟩
  · by_cases e : i = 0
    · simp only [if_pos e]; omega
    · simp only [if_neg e]; have := h4 i hi; omega
end
/-- A mark is appended, in a plain statement. -/
theorem wp_netMark {ops : Array Oper} {rest : List Oper} {o : Oper} {a : Act} {Q : Exit → Act → World → Prop}
    (hgd : o.guard = none) (s y : Operand) (ho : o.op = .call { callee := .builtin .append, args := #[s, y], argTypes := #[23, 23] })
    (lo : Nat) (A B : Option Addr) (n c k d : Nat) (W : World) (hs : a.eval s = .slice B k d) (hown : OwnNet W lo A n c B k d)
    (b : Nat) (x : Int) (hB : Blk W b 3 #[.int .i64 x]) (hx : a.eval y = .slice (some ⟨b, 0, none⟩) 1 1) (hn : k + 1 ≤ 1099511627776) (hbase : lo ≤ W.heap.size)
    (h : ∀ (g c' : Nat) (w' : World), OwnNet w' lo A n c (some ⟨g, 0, none⟩) (k + 1) c' → W.grownBy w' (B.map (·.block)) → wpList Try.prog ops Q rest (a.put o.dst (.slice (some ⟨g, 0, none⟩) (k + 1) c')) w') :
    wpList Try.prog ops Q (o :: rest) a W := by
  have hN := hown
  obtain ⟨Ad, Ln, Cp, X, M, h1, h2, h3, h4⟩ := hown
  obtain ⟨i0, hi, hz0, hz1, hz2⟩ := info_parts info_int
  have hob : (Value.slice B k d).ownBlock = B.map (·.block) := by cases B <;> rfl
  refine wpList_append_lies (P := Try.prog) _ hgd s y 23 ho lo 3 i0 _ 1 8 Try.underlying23 hi hz0 hz1 hz2 rfl (by omega) _ k _ hs h2 ⟨b, 0, none⟩ 1 1 [.int .i64 x] hx rfl (World.news_of_block hB) (by simp [Value.oneCell']) (by omega)
    (by unfold maxLen; omega) (by omega) hbase _ rfl (fun g c' w' g1 g2 g3 _ => h g c' w' ?_ (by rw [hob] at g2; exact g2))
  rw [hob] at g2 g3
  have hO : OwnInts w' lo (some ⟨g, 0, none⟩) (k + 1) c' (il k M ++ [x]) := by unfold OwnInts; rw [List.map_append]; exact g1
  refine ⟨Ad, Ln, Cp, X, fun i => if i = k then x else M i, ⟨own_kept h1.top g2 (fun b hb e => own_type h2 h1.top (by decide) b e hb), fun i hi => own_kept (h1.row i hi) g2 (fun b hb e => h3 i hi b hb e), h1.apart⟩, ?_, fun i hi y hy e => ?_, h4⟩
  · rw [il_succ, il_congr k _ M (fun i hi => by simp [show i ≠ k by omega])]
    simpa using hO
  · have eg : g = y := by simpa using e
    subst eg
    rcases g3 with e2 | e2
    · exact h3 i hi g hy e2
    · have := (h1.rblo i hi g hy).2
      omega
/-- A port is appended to the first row, in a statement that draws its order; behind it the row's header is still the old one. -/
theorem step_netRow0 {ops : Array Oper} {o : Oper} {a : Act} {K : Act → World → Prop} {Q : Exit → Act → World → Prop} {D : Prop}
    (hgd : o.guard = none) (s y : Operand) (ho : o.op = .call { callee := .builtin .append, args := #[s, y], argTypes := #[23, 23] })
    (lo R V g n c k d m kk : Nat) (B ra : Option Addr) (cR cV : Array Value) (W : World) (hs : a.eval s = .slice ra m kk) (hown : OwnNet W lo (some ⟨g, 0, none⟩) n c B k d) (hR : Blk W R 27 cR) (hV : Blk W V 27 cV) (hn1 : 1 ≤ n) (hn : n ≤ 1099511627776) (hk : k ≤ 1099511627776) (hm : m ≤ 7) (hc : W.cell? ⟨g, 0, none⟩ = some (.slice ra m kk))
    (b : Nat) (x : Int) (hB : Blk W b 3 #[.int .i64 x]) (hx : a.eval y = .slice (some ⟨b, 0, none⟩) 1 1) (hbase : lo ≤ W.heap.size)
    (h : ∀ (g' c' : Nat) (w' : World), (∃ (r : Nat → Option Addr × Nat × Nat) (L : Nat → Nat) (X : Nat → Nat → Int) (M : Nat → Int), NetS (w'.setCell ⟨g, 0, none⟩ (.slice (some ⟨g', 0, none⟩) (m + 1) c')) (Free lo R V) (some ⟨g, 0, none⟩) n r B k L X M ∧ ∀ i, i < n → L i ≤ 8) → W.grownBy w' (ra.map (·.block)) → (∀ z, ra.map (·.block) = some z → lo ≤ z ∧ z ≠ g ∧ z ≠ R ∧ z ≠ V) → K (a.put o.dst (.slice (some ⟨g', 0, none⟩) (m + 1) c')) w') :
    if Region.wanted o (yielded ops a.tmps) = true then Oper.wp Try.prog o a W K Q else D := by
  have hN := hown
  obtain ⟨Ad, Ln, Cp, X, M, h1, h2, h3, h4⟩ := hown
  have h0 := h1.cell 0 (by omega)
  rw [hc] at h0
  simp only [Option.some.injEq, Value.slice.injEq] at h0
  obtain ⟨e1, e2, e3⟩ := h0
  have hrow := h1.row 0 (by omega)
  rw [← e1, ← e2, ← e3] at hrow
  obtain ⟨i0, hi, hz0, hz1, hz2⟩ := info_parts info_int
  have hob : (Value.slice ra m kk).ownBlock = ra.map (·.block) := by cases ra <;> rfl
  refine step_append_lies (P := Try.prog) _ hgd s y 23 ho lo 3 i0 _ 1 8 Try.underlying23 hi hz0 hz1 hz2 rfl (by omega) _ m _ hs hrow ⟨b, 0, none⟩ 1 1 [.int .i64 x] hx rfl (World.news_of_block hB) (by simp [Value.oneCell']) (by omega)
    (by unfold maxLen; omega) (by omega) hbase _ rfl (fun g' c' w' g1 g2 g3 _ => h g' c' w' ?_ (by rw [hob] at g2; exact g2) (fun z hz => ⟨(own_block hrow z hz).1, fun e => own_type hrow h1.top (by decide) z hz (by rw [e]; rfl), fun e => own_other' hrow hR (by decide) (by rw [← e]; exact hz.symm), fun e => own_other' hrow hV (by decide) (by rw [← e]; exact hz.symm)⟩))
  rw [hob] at g2 g3
  refine hN.row0 hR hV hn1 hn hk hc (y := x) (fun l hl => ?_) g2 (by rcases g3 with e | e; exact .inl e; exact .inr (by omega))
  have e := own_ys hl hrow
  have el : OwnInts w' lo (some ⟨g', 0, none⟩) (m + 1) c' (l ++ [x]) := by
    unfold OwnInts
    rw [List.map_append, e]
    exact g1
  exact el
end Go.Proofs.Ytdjilgbcpdlkfaa
