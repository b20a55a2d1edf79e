/-
  The contract of the iterator over the states of a ring. Condition: two to five states and machines.
-/
import Derived.Test.YtpgipkcbdppplaaTokI
import Derived.ScopeJumps
import Derived.WalkMore
namespace Go.Proofs.Ytpgipkcbdppplaa
set_option linter.unusedVariables false
open Go.RowKit
attribute [local go_sem] Oper.semAt_some

theorem code_inc (k : Nat) (s : Nat → Nat) : ∀ n i, i < n → (∀ j, i < j → j < n → s j + 1 = k) → codeN k (fun j => if j < i then s j else if j = i then s i + 1 else 0) n = codeN k s n + 1
  | 0, i, h, _ => absurd h (Nat.not_lt_zero _)
  | n + 1, i, h, hf => by
    show codeN k _ n * k + (if n < i then s n else if n = i then s i + 1 else 0) = codeN k s n * k + s n + 1
    by_cases e : i = n
    · subst e
      rw [code_congr (t := s) i (fun j hj => by rw [if_pos hj]), if_neg (Nat.lt_irrefl _), if_pos rfl]
      omega
    · rw [code_inc k s n i (by omega) (fun j h1 h2 => hf j h1 (by omega)), if_neg (by omega), if_neg (by omega), Nat.add_mul]
      have := hf n (by omega) (by omega)
      omega
theorem code_full (k : Nat) (s : Nat → Nat) : ∀ n, (∀ j, j < n → s j + 1 = k) → codeN k s n + 1 = k ^ n
  | 0, _ => rfl
  | n + 1, h => by
    show codeN k s n * k + s n + 1 = k ^ n * k
    rw [← code_full k s n (fun j hj => h j (by omega)), Nat.add_mul]
    have := h n (by omega)
    omega
theorem odo_next {k n x i : Nat} (hk : 0 < k) (hx : x < k ^ n) (hi : i < n) (hall : ∀ j, i < j → j < n → digN k n x j + 1 = k) (hlt : digN k n x i + 1 < k) :
    x + 1 < k ^ n ∧ ∀ j, j < n → digN k n (x + 1) j = if j < i then digN k n x j else if j = i then digN k n x i + 1 else 0 := by
  have e := code_inc k (digN k n x) n i hi hall
  rw [code_dig hk hx] at e
  have hs : ∀ j, j < n → (if j < i then digN k n x j else if j = i then digN k n x i + 1 else 0) < k := fun j hj => by
    split
    · exact dig_lt hk n x j
    · split <;> omega
  rw [← e]
  exact ⟨code_lt n hs, fun j hj => dig_code hk hs j hj⟩
theorem odo_end {k n x : Nat} (hk : 0 < k) (hx : x < k ^ n) (hall : ∀ j, j < n → digN k n x j + 1 = k) : x + 1 = k ^ n := by
  have := code_full k (digN k n x) n hall
  rwa [code_dig hk hx] at this
theorem cast_lt {a b : Nat} (h : a + 1 < b) : (a : Int) + 1 < (b : Int) := by omega
theorem cast_nlt {a b : Nat} (h : ¬ a + 1 < b) : ¬ (a : Int) + 1 < (b : Int) := by omega
theorem cast_wrap {a : Nat} (h : a < 5) : wrap64 ((a : Int) + 1) = (a : Int) + 1 := by unfold wrap64; omega
theorem cast_pred (i : Nat) : ((i + 1 : Nat) : Int) - 1 = (i : Int) := by omega
theorem least (P : Nat → Prop) : (∃ m, P m) → ∃ m, P m ∧ ∀ j, P j → m ≤ j := by
  rintro ⟨m, hm⟩
  induction m using Nat.strongRecOn with
  | _ m ih =>
    by_cases h : ∃ j, j < m ∧ P j
    · obtain ⟨j, hj, hp⟩ := h
      exact ih j hj hp
    · exact ⟨m, hm, fun j hj => Nat.le_of_not_lt fun hlt => h ⟨j, hlt, hj⟩⟩
open Classical in
/-- A scope with jumps back to one label: what holds there bears the number of passes to come. -/
theorem wp_scope_down {c rest : Code} {Q : Exit → Act → World → Prop} {a : Act} {w : World} (l : Nat) (Jx : Nat → Act → World → Prop) (hf : findLabel c l = some rest)
    (first : c.wp Try.prog (Exit.jump l (fun a w => ∃ m, Jx m a w) Q) a w)
    (pass : ∀ m a w, Jx m a w → rest.wp Try.prog (Exit.jump l (fun a' w' => ∃ m', m' < m ∧ Jx m' a' w') Q) a w) : (Code.scope c).wp Try.prog Q a w := by
  refine wp_scope_jumps l (fun a w => ∃ m, Jx m a w) (fun a w => if h : ∃ m, Jx m a w then (least (fun m => Jx m a w) h).choose else 0) hf first (fun a w hJ => wp_mono (pass _ a w (least (fun m => Jx m a w) hJ).choose_spec.1) fun e a' w' h => ?_)
  cases e with
  | goto l' =>
    obtain ⟨rfl, m', hlt, hj⟩ := h
    refine ⟨rfl, ⟨m', hj⟩, ?_⟩
    rw [dif_pos hJ, dif_pos ⟨m', hj⟩]
    exact Nat.lt_of_le_of_lt ((least (fun m => Jx m a' w') ⟨m', hj⟩).choose_spec.2 m' hj) hlt
  | normal => exact h
  | exit id => exact h
  | ret => exact h
  | panic ch => exact h
  | outgrown => exact h
theorem wp_scope_label {r0 R : Code} {Q : Exit → Act → World → Prop} {a : Act} {w : World} (l : Nat) (Jx : Nat → Act → World → Prop) (hf : findLabel (r0.seq ((Code.label l).seq R)) l = some (Code.skip.seq R))
    (first : r0.wp Try.prog (Exit.then (fun a w => ∃ m, Jx m a w) (fun _ _ _ => False)) a w)
    (pass : ∀ m a w, Jx m a w → R.wp Try.prog (Exit.jump l (fun a' w' => ∃ m', m' < m ∧ Jx m' a' w') Q) a w) : (Code.scope (r0.seq ((Code.label l).seq R))).wp Try.prog Q a w := by
  refine wp_scope_down l Jx hf (wp_seq (wp_mono first fun e a w h => ?_)) (fun m a w h => wp_seq (wp_skip (pass m a w h)))
  cases e with
  | normal =>
    obtain ⟨m, hm⟩ := h
    refine wp_seq (wp_label (wp_mono (pass m a w hm) fun e a w h => ?_))
    cases e with
    | goto l' => exact ⟨h.1, let ⟨m', _, hj⟩ := h.2; ⟨m', hj⟩⟩
    | _ => exact h
  | _ => exact h.elim
theorem dig_zero_il (k n : Nat) : List.replicate n (0 : Int) = il n (nf (digN k n 0)) := by
  rw [il_zero]
  exact il_congr n _ _ (fun i _ => by simp [nf, digN])
theorem own_same {w w' : World} {lo g n c : Nat} {l : List Int} (h : OwnInts w lo (some ⟨g, 0, none⟩) n c l) (he : ∀ o, w.heap[g]? = some o → o.isCells = true → w'.heap[g]? = some o) : OwnInts w' lo (some ⟨g, 0, none⟩) n c l := by
  obtain ⟨h1, h2 | ⟨g', cap, cur, hv, hb, hg, rest⟩⟩ := h
  · exact ⟨h1, .inl h2⟩
  · cases hv
    exact ⟨h1, .inr ⟨g, _, cur, rfl, hb, he _ hg rfl, rest⟩⟩
/-- What is handed over in a round: a state of the ring. -/
def StatesAt (k n : Nat) (i : Nat) (v : Value) (W : World) : Prop :=
  ∃ g c : Nat, v = .slice (some ⟨g, 0, none⟩) n c ∧ Ints W (some ⟨g, 0, none⟩) n (nf (digN k n i))
def RdStates (k n nb kb : Nat) (W : World) : Prop := W.cell? ⟨nb, 0, none⟩ = some (.int .i64 n) ∧ W.cell? ⟨kb, 0, none⟩ = some (.int .i64 k)
theorem states_any (k n : Nat) (w : World) :
    Calls Try.prog 23 #[.int .i64 k, .int .i64 n] w fun e w' => ∃ nb kb : Nat, e = .returned (.func (.func 41) #[] #[.pointer (some ⟨nb, 0, none⟩), .pointer (some ⟨kb, 0, none⟩)]) ∧ RdStates k n nb kb w' ∧ w.heap.size ≤ nb ∧ w.heap.size ≤ kb ∧ Keeps w w' := by
  have HK : Hid (Keeps w ((w.alloc (.cells #[.int .i64 k] 3)).alloc (.cells #[.int .i64 n] 3))) := Lib.hid ((Keeps.alloc w _).step (Keeps.alloc _ _))
  go_enter Try.func23, Try.ntmps23
  go_wp2_with fail
  go_ret
  refine ⟨w.heap.size + 1, w.heap.size, by simp, ⟨?_, ?_⟩, by omega, Nat.le_refl _, HK.out⟩
  · simp
  · simp
set_option maxRecDepth 100000 in
set_option maxHeartbeats 4000000 in
theorem states_iter (k n nb kb n₀ : Nat) (hk2 : 2 ≤ k) (hk5 : k ≤ 5) (hn2 : 2 ≤ n) (hn5 : n ≤ 5) :
    Iter (Spare n₀) 41 #[.pointer (some ⟨nb, 0, none⟩), .pointer (some ⟨kb, 0, none⟩)] (k ^ n) n₀ (RdStates k n nb kb) (StatesAt k n) := by
  intro l Y Yx W hW hYk hYr hYy hY0
  have HYK := Lib.hid hYk
  have HYR := Lib.hid hYr
  have HYY := Lib.hid hYy
  have HK0 : Hid (0 < k) := Lib.hid (by omega)
  have HPW : Hid (k ^ n ≤ 3125 ∧ 0 < k ^ n) := Lib.hid ⟨pow5 hk5 hn5, Nat.pow_pos (by omega)⟩
  obtain ⟨b0, b1⟩ := hYr 0 W hY0
  have HY0 := Lib.hid hY0
  clear hYk hYr hYy hY0
  refine callsIn_of_wp Try.func41 rfl trivial ?_ rfl
  simp only [Try.ntmps41, List.size_toArray, List.length_cons, List.length_nil, Nat.reduceAdd, Nat.reduceSub, Array.replicate_succ, Array.replicate_zero, List.push_toArray, List.append_toArray, List.nil_append, List.cons_append]
  refine wpIn_wide.2 (wp_scope_label 0 (fun m a' w' => ∃ (x g : Nat) (u3 u5 u6 u7 u8 u9 u10 u11 u12 u13 u14 u15 u16 u17 u18 u19 u20 u21 u22 u23 u24 u25 u26 u27 u28 u29 u30 u31 u32 u33 : Value), a' = { tmps := #[.func (.yield l) #[] #[], .pointer (some ⟨nb, 0, none⟩), .pointer (some ⟨kb, 0, none⟩), u3, .slice (some ⟨g, 0, none⟩) n n, u5, u6, u7, u8, u9, u10, u11, u12, u13, u14, u15, u16, u17, u18, u19, u20, u21, u22, u23, u24, u25, u26, u27, u28, u29, u30, u31, u32, u33], defers := [] } ∧ x + m = k ^ n ∧ 0 < m ∧ n₀ ≤ g ∧ (nb ≠ g ∧ kb ≠ g) ∧ Hid (OwnInts w' n₀ (some ⟨g, 0, none⟩) n n (il n (nf (digN k n x)))) ∧ Hid (Y x w')) rfl ((wpIn_wide (n := 2)).1 ?first) (fun m a' w' hJ => (wpIn_wide (n := 2)).1 ?pass))
  case first =>
    have HO0 := Lib.hid (OwnInts.make W n₀ n hW (by omega))
    have hmk := make_ints n (by omega)
    have HNG : Hid (nb ≠ W.heap.size ∧ kb ≠ W.heap.size) := Lib.hid ⟨fun e => by have := World.block_lt_of_cell? W _ b0; simp only at this; omega, fun e => by have := World.block_lt_of_cell? W _ b1; simp only at this; omega⟩
    gi_wp2
    refine ⟨k ^ n, 0, W.heap.size, _, _, _, _, _, _, _, _, _, _, _, _, _, _, _, _, _, _, _, _, _, _, _, _, _, _, _, _, _, _, rfl, by omega, HPW.out.2, hW, HNG.out, ?_, Lib.hid (HYK.out _ _ _ HY0.out (Spare.ofKeeps (Keeps.alloc _ _)))⟩
    rw [← dig_zero_il k n]
    exact HO0
  case pass =>
    clear b0 b1 HY0
    obtain ⟨x, g, u3, u5, u6, u7, u8, u9, u10, u11, u12, u13, u14, u15, u16, u17, u18, u19, u20, u21, u22, u23, u24, u25, u26, u27, u28, u29, u30, u31, u32, u33, rfl, hxm, hm, hg, hng, HO, HY⟩ := hJ
    dsimp only
    have hx : x < k ^ n := by omega
    obtain ⟨b0, b1⟩ := HYR.out _ _ HY.out
    gi_wp2
    refine ⟨trivial, (callsIn_wide.2 (slClone_any g 0 n n (nf (digN k n x)) w' (by omega) (by omega) (fun j hj => by
      obtain ⟨_, _, e, hc⟩ := il_ints' HO.out j hj
      cases e
      exact hc))).mono ?_⟩
    rintro e w2 ⟨g2, c2, rfl, hO2, hk2⟩
    have HY2 := Lib.hid (HYK.out _ _ _ HY.out (Spare.ofKeeps hk2))
    have HO2 := Lib.hid (HO.out.keeps hk2)
    obtain ⟨fn, tmps, assign, body, hy, hR⟩ := HYY.out x _ w2 hx HY2.out ⟨g2, c2, rfl, il_ints' hO2⟩
    clear hO2 hk2 b0 b1
    gi_wp2
    refine hR.mono ?_
    rintro e W3 (⟨rfl, hY3, hk3⟩ | ⟨rfl, hx3⟩)
    · have HO3 := Lib.hid (own_same HO2.out (fun o ho hc => hk3.2 g o hg ho hc))
      obtain ⟨b0, b1⟩ := HYR.out _ _ hY3
      have HY3 := Lib.hid hY3
      clear hY3 hk3 HY HO HY2 HO2
      gi_wp2
      refine wpIn_wide.2 ?_
      go_loopw [5] (fun p wr => ∃ i1 : Nat, i1 ≤ n ∧ p = .int .i64 ((i1 : Int) - 1) ∧ Hid (OwnInts wr n₀ (some ⟨g, 0, none⟩) n n (il n (nf (fun j => if j < i1 then digN k n x j else 0)))) ∧ Hid (∀ j, i1 ≤ j → j < n → digN k n x j + 1 = k) ∧ Hid (Y (x + 1) wr)) (fun p _ => (intOf p + 1).toNat)
      case atStart =>
        refine ⟨n, Nat.le_refl _, rfl, Lib.hid ?_, Lib.hid (fun j h1 h2 => by omega), HY3⟩
        rw [il_congr n _ (nf (digN k n x)) (fun j hj => by simp only [nf]; rw [if_pos hj])]
        exact HO3.out
      case round =>
        clear HY3 HO3 b0 b1
        obtain ⟨i1, hi1, rfl, HO, HALL, HY⟩ := hrel
        obtain ⟨b0, b1⟩ := HYR.out _ _ HY.out
        by_cases h0 : i1 = 0
        · subst h0
          have hend := odo_end HK0.out hx (fun j hj => HALL.out j (Nat.zero_le _) hj)
          have HEND := Lib.hid hend
          clear hend
          go_wp2_with fail
          simp only [Exit.jump]
          refine bodyPost_end (results_none rfl _ _ _) rfl ?_
          exact ⟨⟨_, rfl⟩, .inl (by rw [← HEND.out]; exact HY.out)⟩
        · obtain ⟨i, rfl⟩ : ∃ i, i1 = i + 1 := Nat.exists_eq_succ_of_ne_zero h0
          rw [cast_pred]
          have hin : i < n := hi1
          obtain ⟨_, _, e, hc⟩ := il_ints' HO.out i hin
          cases e
          have hc : wr.cell? ⟨g, i, none⟩ = some (.int .i64 (digN k n x i)) := by
            simp only [nf, Nat.zero_add] at hc
            rw [if_pos (Nat.lt_succ_self i)] at hc
            exact hc
          have hfz := HO.out.frozen i
          have hdk := dig_lt (k := k) HK0.out n x i
          have HODO : Hid (digN k n x i + 1 < k → x + 1 < k ^ n ∧ ∀ j, j < n → digN k n (x + 1) j = if j < i then digN k n x j else if j = i then digN k n x i + 1 else 0) := Lib.hid (odo_next HK0.out hx hin (fun j h1 h2 => HALL.out j h1 h2))
          have HSET := Lib.hid (HO.out.set i (digN k n x i + 1))
          have HCELL : Hid (∃ o, wr.heap[g]? = some o ∧ o.isCells = true) := Lib.hid (cells_of_cell hc)
          obtain ⟨di, hdi⟩ : ∃ di, di = digN k n x i := ⟨_, rfl⟩
          rw [← hdi] at hc hdk HODO HSET
          have HDI := Lib.hid hdi
          clear hdi
          obtain ⟨W4, hW4⟩ : ∃ W4, W4 = wr.setCell ⟨g, i, none⟩ (.int .i64 ((di : Int) + 1)) := ⟨_, rfl⟩
          have e1 : (wr.setCell ⟨g, i, none⟩ (.int .i64 ((di : Int) + 1))).cell? ⟨kb, 0, none⟩ = some (.int .i64 k) := (World.cell?_of_block (Below.heap_setCell _ _ _ _ (by simp only; exact hng.2))).trans b1
          have hwr : wrap64 ((di : Int) + 1) = (di : Int) + 1 := cast_wrap (Nat.lt_of_lt_of_le hdk hk5)
          have HARI := Lib.hid (And.intro hx (And.intro hxm (And.intro hm (And.intro hg (And.intro hng hi1)))))
          clear hx hxm hm hg hng hW h0 hi1 b0 b1
          by_cases hlt : di + 1 < k
          · have hlti : (di : Int) + 1 < k := cast_lt hlt
            go_wp2_with fail
            go_region
            all_goals go_wp2_with fail
            all_goals go_step3
            all_goals
              obtain ⟨a1, a2, a3, a4, a5, a6⟩ := HARI.out
              obtain ⟨o1, o2⟩ := HODO.out hlt
              have HF := HYK.out _ _ _ (HYK.out _ _ _ HY.out (Spare.set wr (a := ⟨g, i, none⟩) (.int .i64 ((di : Int) + 1)) a4 HCELL.out)) (Spare.ofKeeps (Keeps.drew1 _))
              have h := HSET.out.keeps (Keeps.drew1 _)
              rw [il_set, il_congr n _ (nf (digN k n (x + 1))) (fun j hj => by
                dsimp only [nf]
                rw [o2 j hj]
                by_cases e1 : j = i
                · subst e1; rw [if_pos rfl, if_neg (Nat.lt_irrefl _), if_pos rfl]; rfl
                · rw [if_neg e1, if_neg e1]
                  by_cases e2 : j < i
                  · rw [if_pos e2, if_pos (Nat.lt_succ_of_lt e2)]
                  · rw [if_neg e2, if_neg (fun h => by omega)])] at h
              change _ ∧ _
              exact ⟨rfl, m - 1, Nat.sub_lt a3 Nat.one_pos, x + 1, g, _, _, _, _, _, _, _, _, _, _, _, _, _, _, _, _, _, _, _, _, _, _, _, _, _, _, _, _, _, _, rfl, by clear hc e1 hwr; omega, by clear hc e1 hwr; omega, a4, a5, Lib.hid h, Lib.hid HF⟩
          · have hlti : ¬ (di : Int) + 1 < k := cast_nlt hlt
            go_wp2_with fail
            go_region
            all_goals go_wp2_with fail
            all_goals
              refine ⟨⟨i, Nat.le_of_lt hin, rfl, Lib.hid ?_, Lib.hid (fun j h1 h2 => ?_), Lib.hid (HYK.out _ _ _ (HYK.out _ _ _ (HYK.out _ _ _ HY.out (Spare.set wr _ HARI.out.2.2.2.1 HCELL.out)) (Spare.set _ _ HARI.out.2.2.2.1 ?_)) (Spare.ofKeeps (Keeps.drew1 _)))⟩, by simp only [intOf]; omega⟩
              · have h := (HSET.out.set i 0).keeps (Keeps.drew1 _)
                rw [il_set, il_set] at h
                rw [il_congr n _ _ (fun j hj => ?_)] at h
                · exact h
                · dsimp only [nf]
                  by_cases e1 : j = i
                  · subst e1; rw [if_pos rfl, if_neg (Nat.lt_irrefl _)]; rfl
                  · rw [if_neg e1, if_neg e1]
                    by_cases e2 : j < i
                    · rw [if_pos e2, if_pos (by omega)]
                    · rw [if_neg e2, if_neg (by omega)]
              · by_cases e : j = i
                · subst e; rw [← HDI.out]; omega
                · exact HALL.out j (by omega) h2
              · exact cells_of_cell (World.cell?_setCell_same' wr ⟨g, i, none⟩ (.int .i64 ((di : Int) + 1)) (by rw [hc]; rfl))
    · have HX3 := Lib.hid hx3
      clear hx3
      gi_wp2
      simp only [Exit.jump]
      refine bodyPost_ret (results_none rfl _ _ _) rfl ?_
      exact ⟨⟨_, rfl⟩, .inr HX3.out⟩
end Go.Proofs.Ytpgipkcbdppplaa
