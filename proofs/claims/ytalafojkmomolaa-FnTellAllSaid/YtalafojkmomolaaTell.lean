/-
  The contracts of tell and TellAll of the program: the view in which all are told of a set. Condition: lengths at most 2^40.
-/
import Derived.Test.YtalafojkmomolaaKnow
import Derived.Test.YtalafojkmomolaaOwn
import Derived.Deep.DeepCutAuto
namespace Go.Proofs.Ytalafojkmomolaa
open Go.RowKit

/-- Does a see the same in u as in v, and are both or neither in s? -/
def like (x : Nat → Nat → Int) (s a v u : Nat) : Bool := (x a u == x a v) && (s.testBit u == s.testBit v)
theorem like_self (x : Nat → Nat → Int) (s a v : Nat) : like x s a v v = true := by simp [like]
def tellR (x : Nat → Nat → Int) (s W a k : Nat) : List Int := (List.range k).map fun v => idxB (like x s a v) W
def tellRR (x : Nat → Nat → Int) (s W k : Nat) : List (List Int) := (List.range k).map fun a => tellR x s W a W
theorem tellR_next (x : Nat → Nat → Int) (s W a k : Nat) : tellR x s W a (k + 1) = tellR x s W a k ++ [idxB (like x s a k) W] := by simp [tellR, List.range_succ]
theorem tellRR_next (x : Nat → Nat → Int) (s W k : Nat) : tellRR x s W (k + 1) = tellRR x s W k ++ [tellR x s W k W] := by simp [tellRR, List.range_succ]
theorem OwnInts.cap (w : World) (lo c g : Nat) (hg : g = w.heap.size) (h : lo ≤ w.heap.size) (hc : c ≤ 1099511627776) : OwnInts (w.alloc (.cells (madeCells #[.int .i64 0] c) 3)) lo (some ⟨g, 0, none⟩) 0 c [] := by
  subst hg
  exact World.ownsRow_made w _ c h (by unfold maxLen; omega) (by rw [size_madeCells]; omega)
theorem OwnRows.cap (w : World) (lo c g : Nat) (hg : g = w.heap.size) (h : lo ≤ w.heap.size) (hc : c ≤ 1099511627776) : OwnRows (w.alloc (.cells (madeCells #[.slice none 0 0] c) 56)) lo (some ⟨g, 0, none⟩) 0 c [] := by
  subst hg
  exact ⟨[], World.ownsRow_made w _ c h (by unfold maxLen; omega) (by rw [size_madeCells]; omega), rfl, fun _ h => absurd h (Nat.not_lt_zero _)⟩
theorem make_intsT (c : Nat) (hc : c ≤ 1099511627776) (w : World) : (Instr.makeSlice 56 (.int .i64 0) (.int .i64 c)).run Try.prog w = .ok (.slice (some ⟨w.heap.size, 0, none⟩) 0 c) (w.alloc (.cells (madeCells #[.int .i64 0] c) 3)) := by
  obtain ⟨i0, hi, hz0, hz1, hz2⟩ := info_parts info_int
  have h := run_make (P := Try.prog) w 56 3 i0 _ Try.underlying56 hi hz0 .i64 .i64 0 c (by omega) (by omega) (by rw [hz2]; omega) (by omega)
  rw [hz1] at h
  simpa [Value.cells] using h
theorem make_rowsT (c : Nat) (hc : c ≤ 1099511627776) (w : World) : (Instr.makeSlice 23 (.int .i64 0) (.int .i64 c)).run Try.prog w = .ok (.slice (some ⟨w.heap.size, 0, none⟩) 0 c) (w.alloc (.cells (madeCells #[.slice none 0 0] c) 56)) := by
  obtain ⟨i0, hi, hz0, hz1, hz2⟩ := info_parts info_ints
  have h := run_make (P := Try.prog) w 23 56 i0 _ Try.underlying23 hi hz0 .i64 .i64 0 c (by omega) (by omega) (by rw [hz2]; omega) (by omega)
  rw [hz1] at h
  simpa [Value.cells] using h

theorem sym' {P : Program} {f : Nat} {args : Array Value} {w : World} {v : Value} (h : Calls P f args w fun e w' => e = .returned v ∧ w = w') : Calls P f args w fun e w' => e = .returned v ∧ w' = w :=
  h.mono fun _ _ ⟨a, b⟩ => ⟨a, b.symm⟩
set_option maxRecDepth 100000 in
set_option maxHeartbeats 4000000 in
theorem tell_any (A : Option Addr) (n c W : Nat) (r : Nat → Option Addr × Nat × Nat) (x : Nat → Nat → Int) (s : Nat) (w : World) (hW : W ≤ 16) (hn : n ≤ 4) (hr : Rows w A n r x) (hrow : ∀ a, a < n → (r a).2.1 = W) (hs : s < 131072) :
    Calls Try.prog 44 #[.agg #[.int .i64 W, .slice A n c], .int .i64 s] w fun e w' => ∃ A' c', e = .returned (.agg #[.int .i64 W, .slice A' n c']) ∧ OwnRows w' w.heap.size A' n c' (tellRR x s W n) ∧ Keeps w w' := by
  have HR := Lib.hid hr
  have HW := Lib.hid hrow
  clear hr hrow
  have hmi := make_intsT W (by omega)
  have hmr := make_rowsT n (by omega)
  go_enter Try.func44, Try.ntmps44
  go_upto_region 1 with fail
  go_cut [5] (fun v wx => ∃ (V c' : Nat) (A' : Option Addr), v = .pointer (some ⟨V, 0, none⟩) ∧ w.heap.size + 2 ≤ V ∧ Blk wx w.heap.size 25 #[.int .i64 W, .slice A n c] ∧ Blk wx (w.heap.size + 1) 25 #[.int .i64 0, .slice none 0 0] ∧ Blk wx V 25 #[.int .i64 W, .slice A' 0 c'] ∧ OwnRows wx w.heap.size A' 0 c' [] ∧ Keeps w wx)
  case first =>
    go_region
    all_goals (go_wp2_with fail)
    all_goals go_meet
    · exact ⟨w.heap.size + 1 + 1 + 1, n, some ⟨w.heap.size + 1 + 1, 0, none⟩, rfl, by omega, ((((Blk.new w _ _).keeps (Keeps.alloc _ _)).keeps (Keeps.alloc _ _)).keeps (Keeps.alloc _ _)).keeps (Keeps.drew1 _),
        (((blk_at (by simp) (Blk.new _ _ _)).keeps (Keeps.alloc _ _)).keeps (Keeps.alloc _ _)).keeps (Keeps.drew1 _), (blk_at (by simp) (Blk.new _ _ _)).keeps (Keeps.drew1 _), ((OwnRows.cap _ _ n _ (by simp) (by simp; omega) (by omega)).keeps (Keeps.alloc _ _)).keeps (Keeps.drew1 _), ((((Keeps.alloc w _).step (Keeps.alloc _ _)).step (Keeps.alloc _ _)).step (Keeps.alloc _ _)).step (Keeps.drew1 _)⟩
    · exact ⟨w.heap.size + 1 + 1, n, some ⟨w.heap.size + 1 + 1 + 1, 0, none⟩, rfl, by omega, ((((Blk.new w _ _).keeps (Keeps.alloc _ _)).keeps (Keeps.alloc _ _)).keeps (Keeps.alloc _ _)).keeps (Keeps.drew1 _),
        (((blk_at (by simp) (Blk.new _ _ _)).keeps (Keeps.alloc _ _)).keeps (Keeps.alloc _ _)).keeps (Keeps.drew1 _), ((blk_at (by simp) (Blk.new _ _ _)).keeps (Keeps.alloc _ _)).keeps (Keeps.drew1 _), (OwnRows.cap _ _ n _ (by simp) (by simp; omega) (by omega)).keeps (Keeps.drew1 _), ((((Keeps.alloc w _).step (Keeps.alloc _ _)).step (Keeps.alloc _ _)).step (Keeps.alloc _ _)).step (Keeps.drew1 _)⟩
  case rest =>
    obtain ⟨V, c', A', rfl, hV, hB0, hB1, hBV, hO, hK⟩ := hcut
    have m0 : wc.cell? ⟨w.heap.size, 1, none⟩ = some (.slice A n c) := by rw [hB0.cell]; rfl
    clear hmr
    go_wp2_with fail
    go_loopw [20] (fun i wr => ∃ (k : Nat) (c' : Nat) (A' : Option Addr), k ≤ n ∧ i = .int .i64 k ∧ Blk wr w.heap.size 25 #[.int .i64 W, .slice A n c] ∧ Blk wr (w.heap.size + 1) 25 #[.int .i64 0, .slice none 0 0] ∧ Blk wr V 25 #[.int .i64 W, .slice A' k c'] ∧ OwnRows wr w.heap.size A' k c' (tellRR x s W k) ∧ Keeps w wr) (fun i _ => n - (intOf i).toNat)
    case atStart => exact ⟨0, c', A', by omega, rfl, hB0, hB1, hBV, hO, hK⟩
    case round =>
      clear hB0 hB1 hBV hO hK m0
      obtain ⟨k, c', A', hk, rfl, hB0, hB1, hBV, hO, hK⟩ := hrel
      have z0 := hB0.lt
      have m0 : wr.cell? ⟨w.heap.size, 0, none⟩ = some (.int .i64 W) := by rw [hB0.cell]; rfl
      by_cases hlt : k < n
      · have hlt' : (k : Int) < n := by omega
        obtain ⟨⟨bA, oA, e, hcA⟩, hi⟩ := HR.out k hlt
        subst e
        have hWk := HW.out k hlt
        generalize hrk : r k = rk at *
        obtain ⟨rA, rn, rc⟩ := rk
        dsimp only at hcA hi hWk
        subst hWk
        have HI := Lib.hid hi
        clear hi hrk
        have hO2 := OwnInts.cap wr wr.heap.size rn _ rfl (Nat.le_refl _) (by omega)
        go_wp2_with fail
        obtain ⟨wo, rfl⟩ : ∃ wo : World, wo = wr := ⟨_, rfl⟩
        go_loopw [7, 28] (fun v i wr => ∃ (j d : Nat) (a : Option Addr), j ≤ rn ∧ v = .slice a j d ∧ i = .int .i64 j ∧ OwnInts wr wo.heap.size a j d (tellR x s rn k j) ∧ Keeps wo wr) (fun _ i _ => rn - (intOf i).toNat)
        case atStart => exact ⟨0, _, _, by omega, rfl, rfl, hO2, Keeps.alloc _ _⟩
        case round =>
          obtain ⟨j, d, a, hj, rfl, rfl, hOj, hKj⟩ := hrel
          by_cases hjt : j < rn
          · have hjt' : (j : Int) < rn := by omega
            obtain ⟨bR, oR, e, hcj⟩ := HI.out j hjt
            subst e
            go_wp2_with fail
            obtain ⟨wq, rfl⟩ : ∃ wq : World, wq = wr := ⟨_, rfl⟩
            go_loopw [9] (fun v wr => ∃ u : Nat, u ≤ j ∧ v = .int .i64 u ∧ Hid (∀ i, i < u → like x s k j i = false) ∧ Keeps wq wr) (fun v _ => j - (intOf v).toNat)
            case atStart => exact ⟨0, by omega, rfl, Lib.hid (fun i hi => absurd hi (Nat.not_lt_zero _)), Keeps.refl _⟩
            case round =>
              obtain ⟨u, hu, rfl, HU, hKu⟩ := hrel
              have kk := (hK.step hKj).step hKu
              have hcA' := cell_keeps kk hcA
              have hcj' := cell_keeps kk hcj
              have n1 : wr.cell? ⟨w.heap.size, 1, none⟩ = some (.slice (some ⟨bA, oA, none⟩) n c) := by rw [((hB0.keeps hKj).keeps hKu).cell]; rfl
              obtain ⟨_, _, e, hcu⟩ := HI.out u (by omega)
              cases e
              have hcu' := cell_keeps kk hcu
              have hut : (u : Int) < rn := by omega
              clear hcA hcj hcu
              cases hx : (x k u != x k j)
              · have hx2 : (x k u == x k j) = true := by simpa using hx
                cases hu1 : s.testBit u
                · cases hj1 : s.testBit j
                  · have hlk : like x s k j u = true := by unfold like; rw [hx2, hu1, hj1]; rfl
                    have HID := Lib.hid (idxB_at (like x s k j) rn u (by omega) hlk HU.out)
                    have HN := Lib.hid (tellR_next x s rn k j)
                    have hOu := hOj.keeps hKu
                    have hsz : wo.heap.size ≤ wr.heap.size := Nat.le_trans hKj.size hKu.size
                    have HU1 := Lib.hid hu1
                    have HJ1 := Lib.hid hj1
                    clear hx2 hlk hu1 hj1
                    go_wp2_with fail
                    go_quiet ((go_at_call 50; exact Calls.quiet_of_same (sym' (has_any _ _ _ (by omega) (by omega)))))
                    rw [HU1.out, HJ1.out]
                    have hKz := Keeps.drewN wr nq
                    generalize wr.drewN nq = wz at *
                    have hOz := hOu.keeps hKz
                    have hsz2 := Nat.le_trans hsz hKz.size
                    go_wp2_with (first | (at_builtin; refine wp_app_int rfl _ _ rfl wo.heap.size a j d (tellR x s rn k j) _ rfl hOz _ rfl (by omega) hsz2 ?_; intro g d' w6 hO6 hg6))
                    go_roundw
                    case rel => exact ⟨j + 1, d', _, by omega, rfl, by go_num, by rw [HN.out, ← HID.out]; exact hO6, (hKj.step (hKu.step hKz)).grown hOz (Nat.le_refl _) hg6⟩
                    case measure => simp [intOf]; omega
                  · have hlk : like x s k j u = false := by unfold like; rw [hx2, hu1, hj1]; rfl
                    have hlt3 : u < j := by
                      by_cases e : u = j
                      · subst e; rw [hu1] at hj1; cases hj1
                      · omega
                    have HLK := Lib.hid hlk
                    have HU1 := Lib.hid hu1
                    have HJ1 := Lib.hid hj1
                    clear hx2 hlk hu1 hj1
                    go_wp2_with fail
                    go_quiet ((go_at_call 50; exact Calls.quiet_of_same (sym' (has_any _ _ _ (by omega) (by omega)))))
                    rw [HU1.out, HJ1.out]
                    go_wp2
                    go_roundw
                    case rel =>
                      refine ⟨u + 1, by omega, by go_num, Lib.hid (fun i hi => ?_), hKu.step (Keeps.drewN _ _)⟩
                      by_cases e : i = u
                      · subst e; exact HLK.out
                      · exact HU.out i (by omega)
                    case measure => simp [intOf]; omega
                · cases hj1 : s.testBit j
                  · have hlk : like x s k j u = false := by unfold like; rw [hx2, hu1, hj1]; rfl
                    have hlt3 : u < j := by
                      by_cases e : u = j
                      · subst e; rw [hu1] at hj1; cases hj1
                      · omega
                    have HLK := Lib.hid hlk
                    have HU1 := Lib.hid hu1
                    have HJ1 := Lib.hid hj1
                    clear hx2 hlk hu1 hj1
                    go_wp2_with fail
                    go_quiet ((go_at_call 50; exact Calls.quiet_of_same (sym' (has_any _ _ _ (by omega) (by omega)))))
                    rw [HU1.out, HJ1.out]
                    go_wp2
                    go_roundw
                    case rel =>
                      refine ⟨u + 1, by omega, by go_num, Lib.hid (fun i hi => ?_), hKu.step (Keeps.drewN _ _)⟩
                      by_cases e : i = u
                      · subst e; exact HLK.out
                      · exact HU.out i (by omega)
                    case measure => simp [intOf]; omega
                  · have hlk : like x s k j u = true := by unfold like; rw [hx2, hu1, hj1]; rfl
                    have HID := Lib.hid (idxB_at (like x s k j) rn u (by omega) hlk HU.out)
                    have HN := Lib.hid (tellR_next x s rn k j)
                    have hOu := hOj.keeps hKu
                    have hsz : wo.heap.size ≤ wr.heap.size := Nat.le_trans hKj.size hKu.size
                    have HU1 := Lib.hid hu1
                    have HJ1 := Lib.hid hj1
                    clear hx2 hlk hu1 hj1
                    go_wp2_with fail
                    go_quiet ((go_at_call 50; exact Calls.quiet_of_same (sym' (has_any _ _ _ (by omega) (by omega)))))
                    rw [HU1.out, HJ1.out]
                    have hKz := Keeps.drewN wr nq
                    generalize wr.drewN nq = wz at *
                    have hOz := hOu.keeps hKz
                    have hsz2 := Nat.le_trans hsz hKz.size
                    go_wp2_with (first | (at_builtin; refine wp_app_int rfl _ _ rfl wo.heap.size a j d (tellR x s rn k j) _ rfl hOz _ rfl (by omega) hsz2 ?_; intro g d' w6 hO6 hg6))
                    go_roundw
                    case rel => exact ⟨j + 1, d', _, by omega, rfl, by go_num, by rw [HN.out, ← HID.out]; exact hO6, (hKj.step (hKu.step hKz)).grown hOz (Nat.le_refl _) hg6⟩
                    case measure => simp [intOf]; omega
              · have hx2 : (x k u == x k j) = false := by simpa using hx
                have hlk : like x s k j u = false := by unfold like; rw [hx2]; rfl
                have hlt3 : u < j := by
                  by_cases e : u = j
                  · subst e; simp at hx
                  · omega
                have HLK := Lib.hid hlk
                clear hx2 hlk
                go_wp2_with fail
                go_quiet (fail)
                go_wp2
                go_roundw
                case rel =>
                  refine ⟨u + 1, by omega, by go_num, Lib.hid (fun i hi => ?_), hKu.step (Keeps.drewN _ _)⟩
                  by_cases e : i = u
                  · subst e; exact HLK.out
                  · exact HU.out i (by omega)
                case measure => simp [intOf]; omega
          · have : j = rn := by omega
            subst this
            have hBVj := hBV.keeps hKj
            have hOOj := hO.keeps hKj
            have HN := Lib.hid (tellRR_next x s j k)
            have e1 : wr.cell? ⟨V, 1, none⟩ = some (.slice A' k c') := by rw [hBVj.cell]; rfl
            have z1 := hBVj.lt
            have hz1 := hK.size
            have hz2 := hKj.size
            go_wp2_with (first | (at_builtin; refine wp_app_row rfl _ _ rfl w.heap.size A' k c' (tellRR x s j k) _ rfl hOOj wo.heap.size a j d (tellR x s j k j) hOj hz1 rfl (by omega) (Nat.le_trans hz1 hz2) ?_; intro g cc w6 hO6 hg6; have hV6 := hOOj.blk hg6 hBVj (by decide); have d61 : w6.cell? ⟨V, 1, none⟩ = some (.slice A' k c') := (by rw [hV6.cell]; rfl); have f61 := hV6.frozen 1))
            have hB06 := hOOj.blk hg6 (hB0.keeps hKj) (by decide)
            have hB16 := hOOj.blk hg6 (hB1.keeps hKj) (by decide)
            have hK6 : Keeps w w6 := hOOj.keepsAll (hK.step hKj) (Nat.le_refl _) hg6
            go_roundw
            case rel => exact ⟨k + 1, cc, _, by omega, by go_num, hB06.set_other _ _ (by simp; omega), hB16.set_other _ _ (by simp; omega), hV6.set 1 _, by rw [HN.out]; exact hO6.grown (grown_set _ _ _ _) hV6 (by decide) (by decide), hK6.setCell (by simp; omega) _⟩
            case measure => simp [intOf]; omega
      · have : k = n := by omega
        subst this
        have c10 : wr.cell? ⟨V, 0, none⟩ = some (.int .i64 W) := by rw [hBV.cell]; rfl
        have c11 : wr.cell? ⟨V, 1, none⟩ = some (.slice A' k c') := by rw [hBV.cell]; rfl
        have c00 : wr.cell? ⟨w.heap.size + 1, 0, none⟩ = some (.int .i64 0) := by rw [hB1.cell]; rfl
        have c01 : wr.cell? ⟨w.heap.size + 1, 1, none⟩ = some (.slice none 0 0) := by rw [hB1.cell]; rfl
        have f00 := hB1.frozen 0
        have f01 := hB1.frozen 1
        go_wp2
        refine bodyPost_ret (v := .agg #[.int .i64 W, .slice A' k c']) (by simp [results, Try.results44, go_sem, c00, c01]) rfl ⟨_, _, rfl, ?_, ?_⟩
        · exact (hO.grown (grown_set _ _ _ _) hB1 (by decide) (by decide)).grown (grown_set _ _ _ _) (hB1.set 0 _) (by decide) (by decide)
        · exact (hK.setCell (by simp) _).setCell (by simp) _
end Go.Proofs.Ytalafojkmomolaa
