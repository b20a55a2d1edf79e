/-
  The contract of AreEnough of the reference. Condition: at most three processes.
-/
import Derived.Test.YtepgogaoppdllaaAre
import Derived.Deep.DeepCutAuto
import Derived.Deep.CutBlock
namespace Go.Proofs.Ytepgogaoppdllaa
open Go.RowKit

/-- An append to a row of the call's own, as an operation. -/
theorem wpo_app {o : Oper} {a : Act} {w : World} {K : Act → World → Prop} {Q : Exit → Act → World → Prop} {T E : TypeId} {z : Value} {size bytes : Nat}
    (hu : Try.prog.underlying T = some (.slice E)) (hinfo : (Try.prog.info? E).map (fun i => (i.zero, i.size, i.bytes)) = some (some z, size, bytes)) (hz : z.cells.size = size) (h0 : 0 < size) (hby : bytes ≤ 64)
    (s y : Operand) (ho : o.op = .call { callee := .builtin .append, args := #[s, y], argTypes := #[T, T] })
    (base : Nat) (A : Option Addr) (n c : Nat) (xs : List Value) (hs : a.eval s = .slice A n c) (hown : w.ownsRow base E size (.slice A n c) n xs)
    (ad : Addr) (m k : Nat) (news : List Value) (hx : a.eval y = .slice (some ad) m k) (hl : news.length = m * size) (hnews : ∀ j u, news[j]? = some u → w.cell? (ad.add j) = some u) (h1 : ∀ u ∈ news, u.oneCell' = true) (hn : n + m ≤ 1099511627776) (hbase : base ≤ w.heap.size)
    (h : ∀ (A' : Option Addr) (c' : Nat) (w' : World), w'.ownsRow base E size (.slice A' (n + m) c') (n + m) (xs ++ news) → w.grownBy w' (A.map (·.block)) → K (a.put o.dst (.slice A' (n + m) c')) w') :
    o.wp Try.prog a w K Q := by
  obtain ⟨i0, hi, hz0, hz1, hz2⟩ := info_parts hinfo
  obtain ⟨v', w', hrun, hown', hg, _⟩ := run_append_own (P := Try.prog) w base T o.type E i0 z size bytes hu hi hz0 hz1 hz2 hz h0 (.slice A n c) n xs hown ad m k news hl hnews h1 (by unfold maxLen; omega) (Nat.le_trans (Nat.mul_le_mul_left _ hby) (by omega)) hbase
  have hob : (Value.slice A n c).ownBlock = A.map (·.block) := by cases A <;> rfl
  rw [hob] at hg
  unfold Oper.wp
  simp [execOp, ho, resolve, invoke, builtin, hs, hx, hrun, Result.andThen]
  rcases hown'.2 with ⟨e, e0⟩ | ⟨g, cap, cur, rfl, rest'⟩
  · subst e
    have := h none 0 w' (by rw [e0] at hown' ⊢; exact hown') hg
    rwa [e0] at this
  · exact h _ cap w' hown' hg
theorem wp_of_oper {ops : Array Oper} {rest : List Oper} {o : Oper} {a : Act} {w : World} {Q : Exit → Act → World → Prop} (hgd : o.guard = none) (h : ∀ K : Act → World → Prop, (∀ a w, wpList Try.prog ops Q rest a w → K a w) → o.wp Try.prog a w K Q) : wpList Try.prog ops Q (o :: rest) a w :=
  wpList_plain hgd h
theorem wpl_app {ops : Array Oper} {rest : List Oper} {o : Oper} {a : Act} {w : World} {Q : Exit → Act → World → Prop} {T E : TypeId} {z : Value} {size bytes : Nat}
    (hw : Region.wanted o (yielded ops a.tmps) = true) (hu : Try.prog.underlying T = some (.slice E)) (hinfo : (Try.prog.info? E).map (fun i => (i.zero, i.size, i.bytes)) = some (some z, size, bytes)) (hz : z.cells.size = size) (h0 : 0 < size) (hby : bytes ≤ 64)
    (s y : Operand) (ho : o.op = .call { callee := .builtin .append, args := #[s, y], argTypes := #[T, T] })
    (base : Nat) (A : Option Addr) (n c : Nat) (xs : List Value) (hs : a.eval s = .slice A n c) (hown : w.ownsRow base E size (.slice A n c) n xs)
    (ad : Addr) (m k : Nat) (news : List Value) (hx : a.eval y = .slice (some ad) m k) (hl : news.length = m * size) (hnews : ∀ j u, news[j]? = some u → w.cell? (ad.add j) = some u) (h1 : ∀ u ∈ news, u.oneCell' = true) (hn : n + m ≤ 1099511627776) (hbase : base ≤ w.heap.size)
    (h : ∀ (A' : Option Addr) (c' : Nat) (w' : World), w'.ownsRow base E size (.slice A' (n + m) c') (n + m) (xs ++ news) → w.grownBy w' (A.map (·.block)) → wpList Try.prog ops Q rest (a.put o.dst (.slice A' (n + m) c')) w') :
    wpList Try.prog ops Q (o :: rest) a w := by
  unfold wpList
  rw [if_pos hw]
  exact .inl (wpo_app hu hinfo hz h0 hby s y ho base A n c xs hs hown ad m k news hx hl hnews h1 hn hbase h)
/-- A copy of stops, in an operation under a guard that holds. -/
theorem wpl_spreadS {ops : Array Oper} {rest : List Oper} {o : Oper} {a : Act} {w : World} {Q : Exit → Act → World → Prop}
    (hw : Region.wanted o (yielded ops a.tmps) = true) (s y : Operand) (ho : o.op = .call { callee := .builtin .append, args := #[s, y], argTypes := #[24, 24] })
    (hs : a.eval s = .slice (some ⟨w.heap.size, 0, none⟩) 0 0) (lo g m c : Nat) (zs : List Int) (hO : OwnStops w lo (some ⟨g, 0, none⟩) m c zs) (hy : a.eval y = .slice (some ⟨g, 0, none⟩) m c) (hm : m ≤ 1000)
    (h : ∀ (A' : Option Addr) (c' : Nat) (w' : World), OwnStops w' w.heap.size A' m c' zs → Keeps w w' → wpList Try.prog ops Q rest (a.put o.dst (.slice A' m c')) w') :
    wpList Try.prog ops Q (o :: rest) a (w.alloc (.cells #[] 65)) := by
  have hk := Keeps.alloc w (.cells #[] 65)
  have hO' := hO.keeps hk
  have hown : (w.alloc (.cells #[] 65)).ownsRow w.heap.size 65 3 (.slice (some ⟨w.heap.size, 0, none⟩) 0 0) 0 [] := World.ownsRow_made w #[] 0 (Nat.le_refl _) (by unfold maxLen; omega) rfl
  refine wpl_app hw Try.underlying24 info_stop rfl (by omega) (by omega) s y ho w.heap.size _ 0 0 [] hs hown ⟨g, 0, none⟩ m c (zs.map (Value.int .i64)) hy (by rw [List.length_map]; exact hO.len) ?_ ?_ (by omega) hk.size ?_
  · intro j u hj
    rw [List.getElem?_map] at hj
    by_cases hlt : j < zs.length
    · have hc := hO'.cell j (by have := hO.len; omega)
      rw [List.getElem?_eq_getElem hlt] at hj
      simp only [Option.map_some, Option.some.injEq] at hj
      subst hj
      have he : (Addr.add ⟨g, 0, none⟩ j) = ⟨g, j, none⟩ := by simp [Addr.add]; omega
      rw [he, hc]
      congr 2
      simp [hlt]
    · rw [List.getElem?_eq_none (by omega)] at hj
      simp at hj
  · intro u hu
    rw [List.mem_map] at hu
    obtain ⟨z, _, rfl⟩ := hu
    rfl
  · intro A' c' w' h1 h2
    rw [Nat.zero_add] at h1 ⊢
    exact h A' c' w' h1 (hk.grown hown (Nat.le_refl _) h2)
theorem wpl_oneS {ops : Array Oper} {rest : List Oper} {o : Oper} {a : Act} {W : World} {Q : Exit → Act → World → Prop}
    (hw : Region.wanted o (yielded ops a.tmps) = true) (s y : Operand) (ho : o.op = .call { callee := .builtin .append, args := #[s, y], argTypes := #[24, 24] })
    (lo : Nat) (S : Option Addr) (m d : Nat) (zs : List Int) (hs : a.eval s = .slice S m d) (hown : OwnStops W lo S m d zs)
    (x y1 z : Int) (hx : a.eval y = .slice (some ⟨W.heap.size, 0, none⟩) 1 1) (hn : m + 1 ≤ 1099511627776) (hbase : lo ≤ W.heap.size)
    (h : ∀ (g c' : Nat) (w' : World), OwnStops w' lo (some ⟨g, 0, none⟩) (m + 1) c' (zs ++ [x, y1, z]) → (W.alloc (.cells #[.int .i64 x, .int .i64 y1, .int .i64 z] 65)).grownBy w' (S.map (·.block)) → wpList Try.prog ops Q rest (a.put o.dst (.slice (some ⟨g, 0, none⟩) (m + 1) c')) w') :
    wpList Try.prog ops Q (o :: rest) a (W.alloc (.cells #[.int .i64 x, .int .i64 y1, .int .i64 z] 65)) := by
  have hk := Keeps.alloc W (.cells #[.int .i64 x, .int .i64 y1, .int .i64 z] 65)
  have hB := Blk.new W #[.int .i64 x, .int .i64 y1, .int .i64 z] 65
  refine wpl_app hw Try.underlying24 info_stop rfl (by omega) (by omega) s y ho lo _ m d _ hs (hown.keeps hk) ⟨W.heap.size, 0, none⟩ 1 1 [.int .i64 x, .int .i64 y1, .int .i64 z] hx rfl (World.news_of_block hB) (by simp [Value.oneCell']) (by omega) (Nat.le_trans hbase hk.size) ?_
  intro A' c' w' h1 h2
  have h3 : OwnStops w' lo A' (m + 1) c' (zs ++ [x, y1, z]) := by unfold OwnStops; rw [List.map_append]; exact h1
  obtain ⟨g, rfl⟩ := h3.at (by omega)
  exact h g c' w' h3 h2
/-- The same for ints. -/
theorem wpl_spreadI {ops : Array Oper} {rest : List Oper} {o : Oper} {a : Act} {w : World} {Q : Exit → Act → World → Prop}
    (hw : Region.wanted o (yielded ops a.tmps) = true) (s y : Operand) (ho : o.op = .call { callee := .builtin .append, args := #[s, y], argTypes := #[23, 23] })
    (hs : a.eval s = .slice (some ⟨w.heap.size, 0, none⟩) 0 0) (lo g m c : Nat) (zs : List Int) (hO : OwnInts w lo (some ⟨g, 0, none⟩) m c zs) (hy : a.eval y = .slice (some ⟨g, 0, none⟩) m c) (hm : m ≤ 1000)
    (h : ∀ (A' : Option Addr) (c' : Nat) (w' : World), OwnInts w' w.heap.size A' m c' zs → Keeps w w' → wpList Try.prog ops Q rest (a.put o.dst (.slice A' m c')) w') :
    wpList Try.prog ops Q (o :: rest) a (w.alloc (.cells #[] 3)) := by
  have hk := Keeps.alloc w (.cells #[] 3)
  have hO' := hO.keeps hk
  have hown : (w.alloc (.cells #[] 3)).ownsRow w.heap.size 3 1 (.slice (some ⟨w.heap.size, 0, none⟩) 0 0) 0 [] := World.ownsRow_made w #[] 0 (Nat.le_refl _) (by unfold maxLen; omega) rfl
  refine wpl_app hw Try.underlying23 info_int rfl (by omega) (by omega) s y ho w.heap.size _ 0 0 [] hs hown ⟨g, 0, none⟩ m c (zs.map (Value.int .i64)) hy (by rw [List.length_map, hO.len]; omega) ?_ ?_ (by omega) hk.size ?_
  · intro j u hj
    have hc := World.ownsRow.cellAt hO' j (by
      have := hO.len
      by_cases hlt : j < zs.length
      · omega
      · rw [List.getElem?_eq_none (by rw [List.length_map]; omega)] at hj; simp at hj)
    have he : (Addr.add ⟨g, 0, none⟩ j) = ⟨g, j, none⟩ := by simp [Addr.add]; omega
    rw [he, hc]
    exact hj
  · intro u hu
    rw [List.mem_map] at hu
    obtain ⟨z, _, rfl⟩ := hu
    rfl
  · intro A' c' w' h1 h2
    rw [Nat.zero_add] at h1 ⊢
    exact h A' c' w' h1 (hk.grown hown (Nat.le_refl _) h2)
theorem wpl_oneI {ops : Array Oper} {rest : List Oper} {o : Oper} {a : Act} {W : World} {Q : Exit → Act → World → Prop}
    (hw : Region.wanted o (yielded ops a.tmps) = true) (s y : Operand) (ho : o.op = .call { callee := .builtin .append, args := #[s, y], argTypes := #[23, 23] })
    (lo : Nat) (S : Option Addr) (m d : Nat) (zs : List Int) (hs : a.eval s = .slice S m d) (hown : OwnInts W lo S m d zs)
    (x : Int) (hx : a.eval y = .slice (some ⟨W.heap.size, 0, none⟩) 1 1) (hn : m + 1 ≤ 1099511627776) (hbase : lo ≤ W.heap.size)
    (h : ∀ (g c' : Nat) (w' : World), OwnInts w' lo (some ⟨g, 0, none⟩) (m + 1) c' (zs ++ [x]) → (W.alloc (.cells #[.int .i64 x] 3)).grownBy w' (S.map (·.block)) → wpList Try.prog ops Q rest (a.put o.dst (.slice (some ⟨g, 0, none⟩) (m + 1) c')) w') :
    wpList Try.prog ops Q (o :: rest) a (W.alloc (.cells #[.int .i64 x] 3)) := by
  have hk := Keeps.alloc W (.cells #[.int .i64 x] 3)
  have hB := Blk.new W #[.int .i64 x] 3
  refine wpl_app hw Try.underlying23 info_int rfl (by omega) (by omega) s y ho lo _ m d _ hs (hown.keeps hk) ⟨W.heap.size, 0, none⟩ 1 1 [.int .i64 x] hx rfl (World.news_of_block hB) (by simp [Value.oneCell']) (by omega) (Nat.le_trans hbase hk.size) ?_
  intro A' c' w' h1 h2
  have h3 : OwnInts w' lo A' (m + 1) c' (zs ++ [x]) := by unfold OwnInts; rw [List.map_append]; exact h1
  have h4 : ∃ g, A' = some ⟨g, 0, none⟩ := by
    rcases h3.2 with ⟨e, h0⟩ | ⟨g, cap, cur, e, _⟩
    · omega
    · cases e; exact ⟨g, rfl⟩
  obtain ⟨g, rfl⟩ := h4
  exact h g c' w' h3 h2
theorem treeS_zero (n R : Nat) (x : Nat → Int) (p m : Nat) (zs : List Int) : treeS n R x 0 p m zs = agrZ n x R m zs := rfl
set_option maxRecDepth 100000 in
set_option maxHeartbeats 8000000 in
theorem srec_any (n R ci : Nat) (I : Option Addr) (x : Nat → Int) (hn : n ≤ 3) (hR : R ≤ 4) :
    ∀ (f p m lo g c : Nat) (zs : List Int) (w : World), f ≤ 3 → m + f ≤ 3 → RunZ n x p m zs → (p : Int) = lastP (stopsOf zs) m + 1 → Ints w I n x → OwnStops w lo (some ⟨g, 0, none⟩) m c zs →
      Calls Try.prog 83 #[.slice I n ci, .slice (some ⟨g, 0, none⟩) m c, .int .i64 f, .int .i64 R] w fun e w' => e = .returned (.bool (treeS n R x f p m zs)) ∧ Keeps w w' := by
  intro f
  induction f with
  | zero =>
    intro p m lo g c zs w hf hm hZ hp hI hO
    have CD := Lib.hid (sdecisions_any I (some ⟨g, 0, none⟩) n ci m c R x (stopsOf zs) w (by omega) hR hI hO.stops hZ.ok)
    have HV : Hid (agrB n (dec n x m (stopsOf zs) R) = treeS n R x 0 p m zs) := Lib.hid rfl
    generalize dec n x m (stopsOf zs) R = d at *
    clear hI hO hZ hp
    go_enter Try.func83, Try.ntmps83
    go_wp2_with fail
    refine CD.out.mono ?_
    intro e w1 hA
    obtain ⟨A, ca, rfl, hO1, hk1⟩ := hA
    rw [il_len] at hO1 ⊢
    have CG := Lib.hid (sagreed_any A n ca d w1 (by omega) (fun i hi => by obtain ⟨b, off, e, hc⟩ := hO1.ints i hi; exact ⟨b, off, e, by dsimp only at hc; rw [il_getD _ _ _ hi] at hc; exact hc⟩))
    clear hO1
    go_wp2_with fail
    refine CG.out.mono ?_
    rintro e w2 ⟨rfl, hk2⟩
    cases e1 : agrB n d
    · have HV2 : Hid (false = treeS n R x 0 p m zs) := Lib.hid (by rw [← HV.out, e1])
      clear e1
      go_wp2
      go_ret
      exact ⟨ret_bool HV2.out, hk1.step hk2⟩
    · have HV2 : Hid (true = treeS n R x 0 p m zs) := Lib.hid (by rw [← HV.out, e1])
      clear e1
      go_wp2
      go_ret
      exact ⟨ret_bool HV2.out, hk1.step hk2⟩
  | succ f ih =>
    intro p m lo g c zs w hf hm hZ hp hI hO
    have CD := Lib.hid (sdecisions_any I (some ⟨g, 0, none⟩) n ci m c R x (stopsOf zs) w (by omega) hR hI hO.stops hZ.ok)
    have HT : Hid (treeS n R x (f + 1) p m zs = (agrB n (dec n x m (stopsOf zs) R) && allN (fun i => decide (i < p) || allN (fun r => allN (fun h => h.testBit i || treeS n R x f (i + 1) (m + 1) (zs ++ [(i : Int), ((r + 1 : Nat) : Int), (h : Int)])) (2 ^ n)) R) n)) := Lib.hid rfl
    have HI := Lib.hid hI
    have HO := Lib.hid hO
    have HZ := Lib.hid hZ
    have HPL := Lib.hid hp
    have HIH : Hid (∀ (p m lo g c : Nat) (zs : List Int) (w : World), m + f ≤ 3 → RunZ n x p m zs → (p : Int) = lastP (stopsOf zs) m + 1 → Ints w I n x → OwnStops w lo (some ⟨g, 0, none⟩) m c zs →
      Calls Try.prog 83 #[.slice I n ci, .slice (some ⟨g, 0, none⟩) m c, .int .i64 f, .int .i64 R] w fun e w' => e = .returned (.bool (treeS n R x f p m zs)) ∧ Keeps w w') := Lib.hid (fun p m lo g c zs w h1 h2 h3 h4 h5 => ih p m lo g c zs w (by omega) h1 h2 h3 h4 h5)
    clear ih
    have hfe : ((f : Int) + 1 == 0) = false := by simp; omega
    have hcap := stops_cap hO
    have hp8 : 2 ^ n ≤ 8 := Nat.le_trans (Nat.pow_le_pow_right (by omega) hn) (by omega)
    have CPW := Lib.hid (fun w => spower_any n w (by omega))
    generalize dec n x m (stopsOf zs) R = d at *
    clear hI hO hZ hp
    go_enter Try.func83, Try.ntmps83
    go_wp2_with fail
    refine CD.out.mono ?_
    intro e w1 hA
    obtain ⟨A, ca, rfl, hO1, hk1⟩ := hA
    rw [il_len] at hO1 ⊢
    have CG := Lib.hid (sagreed_any A n ca d w1 (by omega) (fun i hi => by obtain ⟨b, off, e, hc⟩ := hO1.ints i hi; exact ⟨b, off, e, by dsimp only at hc; rw [il_getD _ _ _ hi] at hc; exact hc⟩))
    clear hO1
    go_wp2_with fail
    refine CG.out.mono ?_
    rintro e w2 ⟨rfl, hk2⟩
    have K12 := hk1.step hk2
    clear hk1 hk2
    cases e1 : agrB n d
    · have HV2 : Hid (false = treeS n R x (f + 1) p m zs) := Lib.hid (by rw [HT.out, e1]; rfl)
      clear e1
      go_wp2
      go_ret
      exact ⟨ret_bool HV2.out, K12⟩
    · have HT2 : Hid (treeS n R x (f + 1) p m zs = allN (fun i => decide (i < p) || allN (fun r => allN (fun h => h.testBit i || treeS n R x f (i + 1) (m + 1) (zs ++ [(i : Int), ((r + 1 : Nat) : Int), (h : Int)])) (2 ^ n)) R) n) := Lib.hid (by rw [HT.out, e1]; rfl)
      clear e1
      have HO2 := Lib.hid (HO.out.keeps K12)
      have HI2 := Lib.hid (HI.out.keeps K12)
      have hpn : p ≤ n := by
        by_cases h0 : m = 0
        · have := HPL.out; rw [h0] at this; simp [lastP] at this; omega
        · obtain ⟨k, rfl⟩ : ∃ k, m = k + 1 := ⟨m - 1, by omega⟩
          have h1 := (stop_good HZ.out.ok k (by omega)).2
          have := HPL.out
          simp only [lastP] at this
          omega
      have HFROM : Hid (1 ≤ m → w2.cell? ⟨g, (m - 1) * 3, none⟩ = some (.int .i64 ((p : Int) - 1))) := Lib.hid (fun h1 => by
        obtain ⟨k, rfl⟩ : ∃ k, m = k + 1 := ⟨m - 1, by omega⟩
        have h2 := HO2.out.cell (k * 3) (by omega)
        have h3 := HPL.out
        simp only [lastP, stopsOf] at h3
        rw [show k + 1 - 1 = k by omega, h2]
        congr 2
        omega)
      have HPW := Lib.hid (fun w => spower_any n w (by omega))
      generalize hP : 2 ^ n = P at *
      have HPE := Lib.hid hP
      clear hP CPW
      go_upto_if 24 with fail
      go_cut [9] (fun v wx => v = .int .i64 p ∧ wx = w2)
      case first =>
        by_cases h0 : m = 0
        · have hp0 : p = 0 := by have := HPL.out; rw [h0] at this; simp [lastP] at this; omega
          have hmi : ¬ ((0 : Int) < m) := by omega
          clear h0
          subst hp0
          go_wp2_with fail
          go_meet
          exact ⟨rfl, rfl⟩
        · have hmi : (0 : Int) < m := by omega
          have hmn : 0 < m := by omega
          have hc := HFROM.out (by omega)
          obtain ⟨k, rfl⟩ : ∃ k, m = k + 1 := ⟨m - 1, by omega⟩
          rw [show (k + 1 - 1) * 3 = k * 3 by omega] at hc
          clear h0
          go_wp2_with fail
          go_meet
          exact ⟨by go_num, rfl⟩
      case rest =>
        obtain ⟨rfl, rfl⟩ := hcut
        clear HFROM
        obtain ⟨wd, rfl⟩ : ∃ wd : World, wd = wc := ⟨_, rfl⟩
        go_wp2_with fail
        go_loopw [10] (fun i wr => ∃ q : Nat, p ≤ q ∧ q ≤ n ∧ i = .int .i64 q ∧ Hid (allN (fun i => decide (i < p) || allN (fun r => allN (fun h => h.testBit i || treeS n R x f (i + 1) (m + 1) (zs ++ [(i : Int), ((r + 1 : Nat) : Int), (h : Int)])) P) R) q = true) ∧ Keeps wd wr) (fun i _ => n - (intOf i).toNat)
        case atStart => exact ⟨p, Nat.le_refl _, hpn, rfl, Lib.hid ((allN_iff _ _).2 fun i hi => by simp [hi]), Keeps.refl _⟩
        case round =>
          obtain ⟨q, hpq, hq, rfl, HA, hK⟩ := hrel
          by_cases hltq : q < n
          · have hqi : (q : Int) < n := by omega
            have HANX : Hid (allN (fun r => allN (fun h => h.testBit q || treeS n R x f (q + 1) (m + 1) (zs ++ [(q : Int), ((r + 1 : Nat) : Int), (h : Int)])) P) R = true → allN (fun i => decide (i < p) || allN (fun r => allN (fun h => h.testBit i || treeS n R x f (i + 1) (m + 1) (zs ++ [(i : Int), ((r + 1 : Nat) : Int), (h : Int)])) P) R) (q + 1) = true) := Lib.hid (fun h => by rw [allN, HA.out, h]; simp)
            have HABAD : Hid (allN (fun r => allN (fun h => h.testBit q || treeS n R x f (q + 1) (m + 1) (zs ++ [(q : Int), ((r + 1 : Nat) : Int), (h : Int)])) P) R = false → false = treeS n R x (f + 1) p m zs) := Lib.hid (fun h => by
              rw [HT2.out]
              exact (allN_false _ n q hltq (by rw [h]; simp; omega)).symm)
            go_wp2_with fail
            go_loopw [11] (fun i wr => ∃ r : Nat, r ≤ R ∧ i = .int .i64 ((r : Int) + 1) ∧ Hid (allN (fun r => allN (fun h => h.testBit q || treeS n R x f (q + 1) (m + 1) (zs ++ [(q : Int), ((r + 1 : Nat) : Int), (h : Int)])) P) r = true) ∧ Keeps wd wr) (fun i _ => R + 1 - (intOf i).toNat)
            case atStart => exact ⟨0, by omega, rfl, Lib.hid rfl, hK⟩
            case round =>
              clear hK HA
              obtain ⟨r, hr, rfl, HR, hK⟩ := hrel
              by_cases hltr : r < R
              · have hri : (r : Int) + 1 ≤ R := by omega
                have HRNX : Hid (allN (fun h => h.testBit q || treeS n R x f (q + 1) (m + 1) (zs ++ [(q : Int), ((r + 1 : Nat) : Int), (h : Int)])) P = true → allN (fun r => allN (fun h => h.testBit q || treeS n R x f (q + 1) (m + 1) (zs ++ [(q : Int), ((r + 1 : Nat) : Int), (h : Int)])) P) (r + 1) = true) := Lib.hid (fun h => by rw [allN, HR.out, h]; rfl)
                have HRBAD : Hid (allN (fun h => h.testBit q || treeS n R x f (q + 1) (m + 1) (zs ++ [(q : Int), ((r + 1 : Nat) : Int), (h : Int)])) P = false → false = treeS n R x (f + 1) p m zs) := Lib.hid (fun h => HABAD.out (allN_false _ R r hltr h))
                go_wp2_with fail
                go_loopw [12] (fun i wr => ∃ h : Nat, h ≤ P ∧ i = .int .i64 h ∧ Hid (allN (fun h => h.testBit q || treeS n R x f (q + 1) (m + 1) (zs ++ [(q : Int), ((r + 1 : Nat) : Int), (h : Int)])) h = true) ∧ Keeps wd wr) (fun i _ => P - (intOf i).toNat)
                case atStart => exact ⟨0, by omega, rfl, Lib.hid rfl, hK⟩
                case round =>
                  clear hK HR
                  obtain ⟨h, hh, rfl, HH, hK⟩ := hrel
                  go_wp2_with fail
                  refine (HPW.out _).mono ?_
                  rintro e w5 ⟨rfl, rfl⟩
                  by_cases hlth : h < P
                  · have hhi : (h : Int) < P := by omega
                    have HHNX : Hid ((h.testBit q || treeS n R x f (q + 1) (m + 1) (zs ++ [(q : Int), ((r + 1 : Nat) : Int), (h : Int)])) = true → allN (fun h => h.testBit q || treeS n R x f (q + 1) (m + 1) (zs ++ [(q : Int), ((r + 1 : Nat) : Int), (h : Int)])) (h + 1) = true) := Lib.hid (fun e => by rw [allN, HH.out, e]; rfl)
                    have HHBAD : Hid ((h.testBit q || treeS n R x f (q + 1) (m + 1) (zs ++ [(q : Int), ((r + 1 : Nat) : Int), (h : Int)])) = false → false = treeS n R x (f + 1) p m zs) := Lib.hid (fun e => HRBAD.out (allN_false _ P h hlth e))
                    have CB := Lib.hid (fun w => sbit_any h q w (by omega) (by omega))
                    go_wp2_with fail
                    refine (CB.out _).mono ?_
                    rintro e w5 ⟨rfl, rfl⟩
                    cases e1 : h.testBit q
                    · have E1 := Lib.hid e1
                      clear e1
                      have hb0 : bitI false = 0 := rfl
                      rw [hb0]
                      clear hb0
                      have HRZ := Lib.hid (HZ.out.add q r h hpq hltq (by omega) (by have := HPE.out; omega))
                      have HOr := Lib.hid (HO2.out.keeps hK)
                      have HIr := Lib.hid (HI2.out.keeps hK)
                      have hm1 : m + 1 ≤ 1000 := by omega
                      have hm2 : m ≤ 1000 := by omega
                      go_wp2_with (first
                        | ((with_reducible show wpList _ _ _ (⟨some 60, _, _, _, _, _⟩ :: _) _ _); refine wpl_spreadS (by go_simp) _ _ rfl rfl lo g m c zs HOr.out rfl hm2 ?_; intro A4 c4 w4 hO4 hk4)
                        | ((with_reducible show wpList _ _ _ (⟨some 66, _, _, _, _, _⟩ :: _) _ _); refine wpl_oneS (by go_simp) _ _ rfl wr.heap.size A4 m c4 zs rfl hO4 _ _ _ rfl (by omega) hk4.size ?_; intro g6 c6 w6 hO6 hg6))
                      have K6 : Keeps wr w6 := (hk4.step (Keeps.alloc w4 _)).grown (hO4.keeps (Keeps.alloc w4 _)) (Nat.le_refl _) hg6
                      have hr1 : ((r + 1 : Nat) : Int) = (r : Int) + 1 := rfl
                      rw [← hr1] at hO6
                      have hPL6 : ((q + 1 : Nat) : Int) = lastP (stopsOf (zs ++ [(q : Int), ((r + 1 : Nat) : Int), (h : Int)])) (m + 1) + 1 := by
                        simp only [lastP]
                        rw [stopsOf_new zs m _ _ _ HZ.out.len]
                        rfl
                      have CR := Lib.hid (HIH.out (q + 1) (m + 1) wr.heap.size g6 c6 (zs ++ [(q : Int), ((r + 1 : Nat) : Int), (h : Int)]) w6 (by omega) HRZ.out hPL6 (HIr.out.keeps K6) hO6)
                      clear hO4 hO6 hg6 hk4 hPL6
                      refine CR.out.mono ?_
                      rintro e w7 ⟨rfl, hk7⟩
                      cases e2 : treeS n R x f (q + 1) (m + 1) (zs ++ [(q : Int), ((r + 1 : Nat) : Int), (h : Int)])
                      · have HV := Lib.hid (HHBAD.out (by rw [E1.out, e2]; rfl))
                        clear e2
                        go_wp2
                        go_ret
                        exact ⟨ret_bool HV.out, K12.step (hK.step (K6.step hk7))⟩
                      · have HV := Lib.hid (HHNX.out (by rw [e2]; simp))
                        clear e2
                        go_wp2
                        go_roundw
                        case rel => exact ⟨h + 1, by omega, by go_num, HV, hK.step (K6.step hk7)⟩
                        case measure => simp [intOf]; omega
                    · have HV := Lib.hid (HHNX.out (by rw [e1]; rfl))
                      have hb1 : bitI true = 1 := rfl
                      rw [hb1]
                      clear hb1 e1
                      go_wp2
                      go_roundw
                      case rel => exact ⟨h + 1, by omega, by go_num, HV, hK⟩
                      case measure => simp [intOf]; omega
                  · obtain rfl : h = P := by omega
                    have HV := Lib.hid (HRNX.out HH.out)
                    go_wp2
                    go_roundw
                    case rel => exact ⟨r + 1, by omega, by go_num, HV, hK⟩
                    case measure => simp [intOf]; omega
              · obtain rfl : r = R := by omega
                have HV := Lib.hid (HANX.out HR.out)
                go_wp2
                go_roundw
                case rel => exact ⟨q + 1, by omega, by omega, by go_num, HV, hK⟩
                case measure => simp [intOf]; omega
          · obtain rfl : q = n := by omega
            have HV : Hid (true = treeS q R x (f + 1) p m zs) := Lib.hid (by rw [HT2.out, HA.out])
            go_wp2
            go_ret
            exact ⟨ret_bool HV.out, K12.step hK⟩
theorem bits_add {l : List Int} (h : ∀ i, 0 ≤ l.getD i 0 ∧ l.getD i 0 ≤ 3) (x : Int) (hx : 0 ≤ x ∧ x ≤ 3) : ∀ i, 0 ≤ (l ++ [x]).getD i 0 ∧ (l ++ [x]).getD i 0 ≤ 3 := by
  intro i
  have hi := h i
  simp only [List.getD_eq_getElem?_getD] at hi ⊢
  by_cases h1 : i < l.length
  · rw [List.getElem?_append_left h1]; exact hi
  · rw [List.getElem?_append_right (by omega)]
    by_cases h2 : i - l.length = 0
    · rw [h2]; exact hx
    · rw [List.getElem?_eq_none (by simp; omega)]; simp
set_option maxRecDepth 100000 in
set_option maxHeartbeats 8000000 in
theorem sinp_any (n s R : Nat) (h1n : 1 ≤ n) (hn : n ≤ 3) (hs : s + 1 ≤ n) (hR : R ≤ 4) :
    ∀ (f k lo g c : Nat) (l : List Int) (w : World), k + f = n → (∀ i, 0 ≤ l.getD i 0 ∧ l.getD i 0 ≤ 3) → OwnInts w lo (some ⟨g, 0, none⟩) k c l →
      Calls Try.prog 58 #[.int .i64 n, .slice (some ⟨g, 0, none⟩) k c, .int .i64 s, .int .i64 R] w fun e w' => e = .returned (.bool (searchS n s R f l)) ∧ Keeps w w' := by
  intro f
  induction f with
  | zero =>
    intro k lo g c l w hk hl hO
    obtain rfl : k = n := by omega
    have CS := Lib.hid (srec_any k R c (some ⟨g, 0, none⟩) (fun i => l.getD i 0) hn hR s 0 0 w.heap.size w.heap.size 0 [] (w.alloc (.cells #[] 65)) (by omega) (by omega) (RunZ.nil k _ h1n (by omega) (fun i _ => hl i)) rfl ((hO.keeps (Keeps.alloc w _)).ints) (World.ownsRow_made w #[] 0 (Nat.le_refl _) (by unfold maxLen; omega) rfl))
    have HV : Hid (treeS k R (fun i => l.getD i 0) s 0 0 [] = searchS k s R 0 l) := Lib.hid rfl
    clear hO hl
    go_enter Try.func58, Try.ntmps58
    go_wp2_with fail
    refine CS.out.mono ?_
    rintro e w1 ⟨rfl, hk1⟩
    go_wp2
    go_ret
    exact ⟨ret_bool HV.out, (Keeps.alloc w _).step hk1⟩
  | succ f ih =>
    intro k lo g c l w hk hl hO
    have HIH : Hid (∀ (k lo g c : Nat) (l : List Int) (w : World), k + f = n → (∀ i, 0 ≤ l.getD i 0 ∧ l.getD i 0 ≤ 3) → OwnInts w lo (some ⟨g, 0, none⟩) k c l →
      Calls Try.prog 58 #[.int .i64 n, .slice (some ⟨g, 0, none⟩) k c, .int .i64 s, .int .i64 R] w fun e w' => e = .returned (.bool (searchS n s R f l)) ∧ Keeps w w') := Lib.hid ih
    clear ih
    have HO := Lib.hid hO
    have HL := Lib.hid hl
    clear hO hl
    have hlt : ((k : Int) == n) = false := by simp; omega
    have hm2 : k ≤ 1000 := by omega
    have HV : Hid (searchS n s R (f + 1) l = (searchS n s R f (l ++ [0]) && searchS n s R f (l ++ [1]))) := Lib.hid rfl
    go_enter Try.func58, Try.ntmps58
    go_wp2_with (first
      | ((with_reducible show wpList _ _ _ (⟨some 21, _, _, _, _, _⟩ :: _) _ _); refine wpl_spreadI (by go_simp) _ _ rfl rfl lo g k c l HO.out rfl hm2 ?_; intro A4 c4 w4 hO4 hk4)
      | ((with_reducible show wpList _ _ _ (⟨some 23, _, _, _, _, _⟩ :: _) _ _); refine wpl_oneI (by go_simp) _ _ rfl w.heap.size A4 k c4 l rfl hO4 _ rfl (by omega) hk4.size ?_; intro g6 c6 w6 hO6 hg6))
    have K6 : Keeps w w6 := (hk4.step (Keeps.alloc w4 _)).grown (hO4.keeps (Keeps.alloc w4 _)) (Nat.le_refl _) hg6
    have CR := Lib.hid (HIH.out (k + 1) w.heap.size g6 c6 (l ++ [0]) w6 (by omega) (bits_add HL.out 0 (by omega)) hO6)
    clear hO4 hO6 hg6 hk4
    refine CR.out.mono ?_
    rintro e w7 ⟨rfl, hk7⟩
    have K7 := K6.step hk7
    have HO7 := Lib.hid (HO.out.keeps K7)
    cases e1 : searchS n s R f (l ++ [0])
    · have HV2 : Hid (false = searchS n s R (f + 1) l) := Lib.hid (by rw [HV.out, e1]; rfl)
      clear e1
      go_wp2
      go_ret
      exact ⟨ret_bool HV2.out, K7⟩
    · have HV2 : Hid (searchS n s R f (l ++ [1]) = searchS n s R (f + 1) l) := Lib.hid (by rw [HV.out, e1]; rfl)
      clear e1
      go_wp2_with (first
        | ((with_reducible show wpList _ _ _ (⟨some 31, _, _, _, _, _⟩ :: _) _ _); refine wpl_spreadI (by go_simp) _ _ rfl rfl lo g k c l HO7.out rfl hm2 ?_; intro A4 c4 w4 hO4 hk4)
        | ((with_reducible show wpList _ _ _ (⟨some 33, _, _, _, _, _⟩ :: _) _ _); refine wpl_oneI (by go_simp) _ _ rfl w7.heap.size A4 k c4 l rfl hO4 _ rfl (by omega) hk4.size ?_; intro g9 c9 w9 hO9 hg9))
      have K9 : Keeps w7 w9 := (hk4.step (Keeps.alloc w4 _)).grown (hO4.keeps (Keeps.alloc w4 _)) (Nat.le_refl _) hg9
      have CR2 := Lib.hid (HIH.out (k + 1) w7.heap.size g9 c9 (l ++ [1]) w9 (by omega) (bits_add HL.out 1 (by omega)) hO9)
      clear hO4 hO9 hg9 hk4
      refine CR2.out.mono ?_
      rintro e w10 ⟨rfl, hk10⟩
      rw [HV2.out]
      go_wp2
      go_ret
      exact ⟨rfl, K7.step (K9.step hk10)⟩
set_option maxRecDepth 100000 in
set_option maxHeartbeats 8000000 in
theorem sare_any (n s R : Int) (w : World) :
    Calls Try.prog 24 #[.int .i64 n, .int .i64 s, .int .i64 R] w fun e w' => e = .returned (.bool (enoughB n s R)) ∧ Keeps w w' := by
  cases v1 : inB n 1 3
  · have HV := Lib.hid (enough_not (s := s) (R := R) (.inl v1))
    have V1 := Lib.hid v1
    clear v1
    go_enter Try.func24, Try.ntmps24
    go_wp2_with fail
    refine (inRange_any _ _ _ _).mono ?_
    rintro e w1 ⟨rfl, rfl⟩
    rw [V1.out]
    go_wp2
    go_ret
    exact ⟨ret_bool HV.out, Keeps.refl _⟩
  · have hn2 := inB_true v1
    have W1 : IntKind.i64.wrap (n - 1) = n - 1 := by rw [IntKind.wrap_i64]; omega
    cases v2 : inB s 0 (n - 1)
    · have HV := Lib.hid (enough_not (R := R) (.inr (.inl v2)))
      have V1 := Lib.hid v1
      have V2 := Lib.hid v2
      clear v1 v2
      go_enter Try.func24, Try.ntmps24
      go_wp2_with fail
      refine (inRange_any _ _ _ _).mono ?_
      rintro e w1 ⟨rfl, rfl⟩
      rw [V1.out]
      go_wp2_with fail
      refine (inRange_any _ _ _ _).mono ?_
      rintro e w1 ⟨rfl, rfl⟩
      rw [V2.out]
      go_wp2
      go_ret
      exact ⟨ret_bool HV.out, Keeps.refl _⟩
    · cases v3 : inB R 0 4
      · have HV := Lib.hid (enough_not (n := n) (s := s) (.inr (.inr v3)))
        have V1 := Lib.hid v1
        have V2 := Lib.hid v2
        have V3 := Lib.hid v3
        clear v1 v2 v3
        go_enter Try.func24, Try.ntmps24
        go_wp2_with fail
        refine (inRange_any _ _ _ _).mono ?_
        rintro e w1 ⟨rfl, rfl⟩
        rw [V1.out]
        go_wp2_with fail
        refine (inRange_any _ _ _ _).mono ?_
        rintro e w1 ⟨rfl, rfl⟩
        rw [V2.out]
        go_wp2_with fail
        refine (inRange_any _ _ _ _).mono ?_
        rintro e w1 ⟨rfl, rfl⟩
        rw [V3.out]
        go_wp2
        go_ret
        exact ⟨ret_bool HV.out, Keeps.refl _⟩
      · have hs2 := inB_true v2
        have hr2 := inB_true v3
        obtain ⟨n, rfl⟩ := Int.eq_ofNat_of_zero_le (show 0 ≤ n by omega)
        obtain ⟨s, rfl⟩ := Int.eq_ofNat_of_zero_le (show 0 ≤ s by omega)
        obtain ⟨R, rfl⟩ := Int.eq_ofNat_of_zero_le (show 0 ≤ R by omega)
        have HV : Hid (searchS n s R n [] = enoughB n s R) := Lib.hid (by rw [enough_yes (by omega) (by omega) (by omega) (by omega)]; exact (search_eq (by omega) (by omega) (by omega) (by omega)).2)
        have V1 := Lib.hid v1
        have V2 := Lib.hid v2
        have V3 := Lib.hid v3
        have CS := Lib.hid (sinp_any n s R (by omega) (by omega) (by omega) (by omega) n 0 w.heap.size w.heap.size 0 [] (w.alloc (.cells #[] 3)) (by omega) (fun i => by simp) (OwnInts.made w w.heap.size (Nat.le_refl _)))
        clear v1 v2 v3
        go_enter Try.func24, Try.ntmps24
        go_wp2_with fail
        refine (inRange_any _ _ _ _).mono ?_
        rintro e w1 ⟨rfl, rfl⟩
        rw [V1.out]
        go_wp2_with fail
        refine (inRange_any _ _ _ _).mono ?_
        rintro e w1 ⟨rfl, rfl⟩
        rw [V2.out]
        go_wp2_with fail
        refine (inRange_any _ _ _ _).mono ?_
        rintro e w1 ⟨rfl, rfl⟩
        rw [V3.out]
        go_wp2_with fail
        refine CS.out.mono ?_
        rintro e w1 ⟨rfl, hk1⟩
        rw [HV.out]
        go_wp2
        go_ret
        exact ⟨rfl, (Keeps.alloc w _).step hk1⟩
end Go.Proofs.Ytepgogaoppdllaa
