/-
  The states' iterator of the program, for rounds that may turn cells that are no ints. Condition: two to five states and machines.
-/
import Derived.Test.YtpgipkcbdppplaaOverT
import Derived.Test.YtpgipkcbdppplaaTokJ
namespace Go.Proofs.Ytpgipkcbdppplaa
set_option linter.unusedVariables false
open Go.RowKit
attribute [local go_sem] Oper.semAt_some

theorem wp_overST (j : Tmp) {g : Operand} {p : Tmp} {assign body : Code} {Q : Exit → Act → World → Prop} {a : Act} {w : World} {gf : Nat} {lb : Array Value} (hg : a.eval g = .func (.func gf) #[] lb) (eg : ∀ args w, (callFunc gf args).run Try.prog w = .ok (.enter gf args) w)
    {N : Nat} {Rdb : World → Prop} {Pr : Nat → Value → World → Prop} {St : World → World → Prop} (hit : IterT St gf lb N w.heap.size Rdb Pr) (hS1 : ∀ W W', St W W' → ∀ (i : Nat) (o : Obj), W.heap[i]? = some o → o.isCells = false → W'.heap[i]? = some o)
    (J : Nat → World → Prop) (Jx : World → Prop) (hJ : ∀ i W W', J i W → Moves w.heap.size W W' → J i W') (hJx : ∀ W W', Jx W → Moves w.heap.size W W' → Jx W') (hS2 : ∀ i W W', J i W → St W W' → J i W') (hJR : ∀ i W, J i W → Rdb W)
    (hPr : ∀ i v W W', Pr i v W → Moves w.heap.size W W' → Pr i v W') (h0 : J 0 w)
    (hassign : ∀ (l : Nat) (i : Nat) (v : Value) (W : World) (K : Act → World → Prop), Pr i v W → K { tmps := (a.tmps.setIfInBounds p v).setIfInBounds j v, defers := [] } W → assign.wpIn (Fence.wide.inRound l) 1 Try.prog (Exit.then K (fun _ _ _ => False)) { tmps := ((#[p] : Array Tmp).zip #[v]).foldl (fun t (p, v) => t.setIfInBounds p v) a.tmps, defers := [] } W)
    (hbody : ∀ (l i : Nat) (v : Value) (W : World), i < N → w.heap.size ≤ W.heap.size → J i W → Pr i v W → body.wpIn (Fence.wide.inRound l) 1 Try.prog (roundEndT w.heap.size (J (i + 1)) Jx W) { tmps := (a.tmps.setIfInBounds p v).setIfInBounds j v, defers := [] } W)
    (hdone : ∀ (W : World), J N W → W.heap[w.heap.size]? = some (.deferred (some [])) → Q .normal { a with defers := { target := .collected w.heap.size, args := #[] } :: a.defers } W)
    (hstop : ∀ (W : World), Jx W → W.heap[w.heap.size]? = some (.deferred (some [])) → Code.ret.wpIn Fence.wide 3 Try.prog Q { a with defers := { target := .collected w.heap.size, args := #[] } :: a.defers } W) :
    (Code.rangeFunc g #[p] assign body).wp Try.prog Q a w :=
  wp_overT hg eg hit hS1 J Jx hJ hJx hS2 hJR hPr h0 (fun v => { tmps := (a.tmps.setIfInBounds p v).setIfInBounds j v, defers := [] }) hassign hbody hdone hstop
theorem own_sameT {w w' : World} {lo g n c : Nat} {l : List Int} (h : OwnInts w lo (some ⟨g, 0, none⟩) n c l) (he : ∀ o, w.heap[g]? = some o → o.isCells = true → heldO o = true → w'.heap[g]? = some o) : OwnInts w' lo (some ⟨g, 0, none⟩) n c l := by
  obtain ⟨h1, h2 | ⟨g', cap, cur, hv, hb, hg, rest⟩⟩ := h
  · exact ⟨h1, .inl h2⟩
  · cases hv
    exact ⟨h1, .inr ⟨g, _, cur, rfl, hb, he _ hg rfl rfl, rest⟩⟩
def StatesAtC (k n : Nat) (i : Nat) (v : Value) (W : World) : Prop :=
  ∃ g c : Nat, v = .slice (some ⟨g, 0, none⟩) n c ∧ n ≤ c ∧ Ints W (some ⟨g, 0, none⟩) n (nf (digN k n i))
set_option maxRecDepth 100000 in
set_option maxHeartbeats 4000000 in
theorem states_iterT (k n nb kb n₀ : Nat) (hk2 : 2 ≤ k) (hk5 : k ≤ 5) (hn2 : 2 ≤ n) (hn5 : n ≤ 5) :
    IterT (SpareT n₀) 41 #[.pointer (some ⟨nb, 0, none⟩), .pointer (some ⟨kb, 0, none⟩)] (k ^ n) n₀ (RdStates k n nb kb) (StatesAtC k n) := by
  intro l Y Yx W hW hYk hYr hYy hY0
  have HYK := Lib.hid hYk
  have HYR := Lib.hid hYr
  have HYY := Lib.hid hYy
  have HK0 : Hid (0 < k) := Lib.hid (by omega)
  have HPW : Hid (k ^ n ≤ 3125 ∧ 0 < k ^ n) := Lib.hid ⟨pow5 hk5 hn5, Nat.pow_pos (by omega)⟩
  obtain ⟨b0, b1⟩ := hYr 0 W hY0
  have HY0 := Lib.hid hY0
  clear hYk hYr hYy hY0
  refine callsIn_of_wp Try.func41 rfl trivial ?_ rfl
  simp only [Try.ntmps41, List.size_toArray, List.length_cons, List.length_nil, Nat.reduceAdd, Nat.reduceSub, Array.replicate_succ, Array.replicate_zero, List.push_toArray, List.append_toArray, List.nil_append, List.cons_append]
  refine wpIn_wide.2 (wp_scope_label 0 (fun m a' w' => ∃ (x g : Nat) (u3 u5 u6 u7 u8 u9 u10 u11 u12 u13 u14 u15 u16 u17 u18 u19 u20 u21 u22 u23 u24 u25 u26 u27 u28 u29 u30 u31 u32 u33 : Value), a' = { tmps := #[.func (.yield l) #[] #[], .pointer (some ⟨nb, 0, none⟩), .pointer (some ⟨kb, 0, none⟩), u3, .slice (some ⟨g, 0, none⟩) n n, u5, u6, u7, u8, u9, u10, u11, u12, u13, u14, u15, u16, u17, u18, u19, u20, u21, u22, u23, u24, u25, u26, u27, u28, u29, u30, u31, u32, u33], defers := [] } ∧ x + m = k ^ n ∧ 0 < m ∧ n₀ ≤ g ∧ (nb ≠ g ∧ kb ≠ g) ∧ Hid (OwnInts w' n₀ (some ⟨g, 0, none⟩) n n (il n (nf (digN k n x)))) ∧ Hid (Y x w')) rfl ((wpIn_wide (n := 2)).1 ?first) (fun m a' w' hJ => (wpIn_wide (n := 2)).1 ?pass))
  case first =>
    have HO0 := Lib.hid (OwnInts.make W n₀ n hW (by omega))
    have hmk := make_ints n (by omega)
    have HNG : Hid (nb ≠ W.heap.size ∧ kb ≠ W.heap.size) := Lib.hid ⟨fun e => by have := World.block_lt_of_cell? W _ b0; simp only at this; omega, fun e => by have := World.block_lt_of_cell? W _ b1; simp only at this; omega⟩
    gi_wp2
    refine ⟨k ^ n, 0, W.heap.size, _, _, _, _, _, _, _, _, _, _, _, _, _, _, _, _, _, _, _, _, _, _, _, _, _, _, _, _, _, _, rfl, by omega, HPW.out.2, hW, HNG.out, ?_, Lib.hid (HYK.out _ _ _ HY0.out (SpareT.ofKeeps (Keeps.alloc _ _)))⟩
    rw [← dig_zero_il k n]
    exact HO0
  case pass =>
    clear b0 b1 HY0
    obtain ⟨x, g, u3, u5, u6, u7, u8, u9, u10, u11, u12, u13, u14, u15, u16, u17, u18, u19, u20, u21, u22, u23, u24, u25, u26, u27, u28, u29, u30, u31, u32, u33, rfl, hxm, hm, hg, hng, HO, HY⟩ := hJ
    dsimp only
    have hx : x < k ^ n := by omega
    obtain ⟨b0, b1⟩ := HYR.out _ _ HY.out
    gi_wp2
    refine ⟨trivial, (callsIn_wide.2 (slClone_any g 0 n n (nf (digN k n x)) w' (by omega) (by omega) (fun j hj => by
      obtain ⟨_, _, e, hc⟩ := il_ints' HO.out j hj
      cases e
      exact hc))).mono ?_⟩
    rintro e w2 ⟨g2, c2, rfl, hO2, hk2⟩
    have HY2 := Lib.hid (HYK.out _ _ _ HY.out (SpareT.ofKeeps hk2))
    have HO2 := Lib.hid (HO.out.keeps hk2)
    obtain ⟨fn, tmps, assign, body, hy, hR⟩ := HYY.out x _ w2 hx HY2.out ⟨g2, c2, rfl, (own_clip hO2).1, il_ints' hO2⟩
    clear hO2 hk2 b0 b1
    gi_wp2
    refine hR.mono ?_
    rintro e W3 (⟨rfl, hY3, hk3⟩ | ⟨rfl, hx3⟩)
    · have HO3 := Lib.hid (own_sameT HO2.out (fun o ho hc hh => hk3.2 g o hg ho hc hh))
      obtain ⟨b0, b1⟩ := HYR.out _ _ hY3
      have HY3 := Lib.hid hY3
      clear hY3 hk3 HY HO HY2 HO2
      gi_wp2
      refine wpIn_wide.2 ?_
      go_loopw [5] (fun p wr => ∃ i1 : Nat, i1 ≤ n ∧ p = .int .i64 ((i1 : Int) - 1) ∧ Hid (OwnInts wr n₀ (some ⟨g, 0, none⟩) n n (il n (nf (fun j => if j < i1 then digN k n x j else 0)))) ∧ Hid (∀ j, i1 ≤ j → j < n → digN k n x j + 1 = k) ∧ Hid (Y (x + 1) wr)) (fun p _ => (intOf p + 1).toNat)
      case atStart =>
        refine ⟨n, Nat.le_refl _, rfl, Lib.hid ?_, Lib.hid (fun j h1 h2 => by omega), HY3⟩
        rw [il_congr n _ (nf (digN k n x)) (fun j hj => by simp only [nf]; rw [if_pos hj])]
        exact HO3.out
      case round =>
        clear HY3 HO3 b0 b1
        obtain ⟨i1, hi1, rfl, HO, HALL, HY⟩ := hrel
        obtain ⟨b0, b1⟩ := HYR.out _ _ HY.out
        by_cases h0 : i1 = 0
        · subst h0
          have hend := odo_end HK0.out hx (fun j hj => HALL.out j (Nat.zero_le _) hj)
          have HEND := Lib.hid hend
          clear hend
          go_wp2_with fail
          simp only [Exit.jump]
          refine bodyPost_end (results_none rfl _ _ _) rfl ?_
          exact ⟨⟨_, rfl⟩, .inl (by rw [← HEND.out]; exact HY.out)⟩
        · obtain ⟨i, rfl⟩ : ∃ i, i1 = i + 1 := Nat.exists_eq_succ_of_ne_zero h0
          rw [cast_pred]
          have hin : i < n := hi1
          obtain ⟨_, _, e, hc⟩ := il_ints' HO.out i hin
          cases e
          have hc : wr.cell? ⟨g, i, none⟩ = some (.int .i64 (digN k n x i)) := by
            simp only [nf, Nat.zero_add] at hc
            rw [if_pos (Nat.lt_succ_self i)] at hc
            exact hc
          have hfz := HO.out.frozen i
          have hdk := dig_lt (k := k) HK0.out n x i
          have HODO : Hid (digN k n x i + 1 < k → x + 1 < k ^ n ∧ ∀ j, j < n → digN k n (x + 1) j = if j < i then digN k n x j else if j = i then digN k n x i + 1 else 0) := Lib.hid (odo_next HK0.out hx hin (fun j h1 h2 => HALL.out j h1 h2))
          have HSET := Lib.hid (HO.out.set i (digN k n x i + 1))
          have HCELL : Hid (∃ o, wr.heap[g]? = some o ∧ isI o = true) := Lib.hid (own_isI HO.out)
          obtain ⟨di, hdi⟩ : ∃ di, di = digN k n x i := ⟨_, rfl⟩
          rw [← hdi] at hc hdk HODO HSET
          have HDI := Lib.hid hdi
          clear hdi
          obtain ⟨W4, hW4⟩ : ∃ W4, W4 = wr.setCell ⟨g, i, none⟩ (.int .i64 ((di : Int) + 1)) := ⟨_, rfl⟩
          have e1 : (wr.setCell ⟨g, i, none⟩ (.int .i64 ((di : Int) + 1))).cell? ⟨kb, 0, none⟩ = some (.int .i64 k) := (World.cell?_of_block (Below.heap_setCell _ _ _ _ (by simp only; exact hng.2))).trans b1
          have hwr : wrap64 ((di : Int) + 1) = (di : Int) + 1 := cast_wrap (Nat.lt_of_lt_of_le hdk hk5)
          have HARI := Lib.hid (And.intro hx (And.intro hxm (And.intro hm (And.intro hg (And.intro hng hi1)))))
          clear hx hxm hm hg hng hW h0 hi1 b0 b1
          by_cases hlt : di + 1 < k
          · have hlti : (di : Int) + 1 < k := cast_lt hlt
            go_wp2_with fail
            go_region
            all_goals go_wp2_with fail
            all_goals go_step3
            all_goals
              obtain ⟨a1, a2, a3, a4, a5, a6⟩ := HARI.out
              obtain ⟨o1, o2⟩ := HODO.out hlt
              have HF := HYK.out _ _ _ (HYK.out _ _ _ HY.out (SpareT.set wr (a := ⟨g, i, none⟩) (.int .i64 ((di : Int) + 1)) a4 HCELL.out)) (SpareT.ofKeeps (Keeps.drew1 _))
              have h := HSET.out.keeps (Keeps.drew1 _)
              rw [il_set, il_congr n _ (nf (digN k n (x + 1))) (fun j hj => by
                dsimp only [nf]
                rw [o2 j hj]
                by_cases e1 : j = i
                · subst e1; rw [if_pos rfl, if_neg (Nat.lt_irrefl _), if_pos rfl]; rfl
                · rw [if_neg e1, if_neg e1]
                  by_cases e2 : j < i
                  · rw [if_pos e2, if_pos (Nat.lt_succ_of_lt e2)]
                  · rw [if_neg e2, if_neg (fun h => by omega)])] at h
              change _ ∧ _
              exact ⟨rfl, m - 1, Nat.sub_lt a3 Nat.one_pos, x + 1, g, _, _, _, _, _, _, _, _, _, _, _, _, _, _, _, _, _, _, _, _, _, _, _, _, _, _, _, _, _, _, rfl, by clear hc e1 hwr; omega, by clear hc e1 hwr; omega, a4, a5, Lib.hid h, Lib.hid HF⟩
          · have hlti : ¬ (di : Int) + 1 < k := cast_nlt hlt
            go_wp2_with fail
            go_region
            all_goals go_wp2_with fail
            all_goals
              refine ⟨⟨i, Nat.le_of_lt hin, rfl, Lib.hid ?_, Lib.hid (fun j h1 h2 => ?_), Lib.hid (HYK.out _ _ _ (HYK.out _ _ _ (HYK.out _ _ _ HY.out (SpareT.set wr _ HARI.out.2.2.2.1 HCELL.out)) (SpareT.set _ _ HARI.out.2.2.2.1 ?_)) (SpareT.ofKeeps (Keeps.drew1 _)))⟩, by simp only [intOf]; omega⟩
              · have h := (HSET.out.set i 0).keeps (Keeps.drew1 _)
                rw [il_set, il_set] at h
                rw [il_congr n _ _ (fun j hj => ?_)] at h
                · exact h
                · dsimp only [nf]
                  by_cases e1 : j = i
                  · subst e1; rw [if_pos rfl, if_neg (Nat.lt_irrefl _)]; rfl
                  · rw [if_neg e1, if_neg e1]
                    by_cases e2 : j < i
                    · rw [if_pos e2, if_pos (by omega)]
                    · rw [if_neg e2, if_neg (by omega)]
              · by_cases e : j = i
                · subst e; rw [← HDI.out]; omega
                · exact HALL.out j (by omega) h2
              · exact own_isI HSET.out
    · have HX3 := Lib.hid hx3
      clear hx3
      gi_wp2
      simp only [Exit.jump]
      refine bodyPost_ret (results_none rfl _ _ _) rfl ?_
      exact ⟨⟨_, rfl⟩, .inr HX3.out⟩
end Go.Proofs.Ytpgipkcbdppplaa
