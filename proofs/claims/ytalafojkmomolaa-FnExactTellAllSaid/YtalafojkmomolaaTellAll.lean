/-
  The contracts of TellAll of the program and of the reference: the same view, in new memory. Condition: lengths at most 2^40.
-/
import Derived.Test.YtalafojkmomolaaTell
import Derived.Test.YtalafojkmomolaaSKnow
namespace Go.Proofs.Ytalafojkmomolaa
open Go.RowKit

set_option maxRecDepth 100000 in
set_option maxHeartbeats 2000000 in
theorem iTellAll_no (A : Option Addr) (n c : Nat) (r : Nat → Option Addr × Nat × Nat) (x : Nat → Nat → Int) (W s : Int) (w : World) (hn : n ≤ 1099511627776) (hr : Rows w A n r x) (hl : ∀ i, i < n → (r i).2.1 ≤ 1099511627776) (hv : setB W n r x s = false) :
    Calls Try.prog 19 #[.agg #[.int .i64 W, .slice A n c], .int .i64 s] w fun e w' => e = .returned (.agg #[.int .i64 0, .slice none 0 0]) ∧ Keeps w w' := by
  have HR := Lib.hid hr
  have H1 := Lib.hid hv
  clear hr hv
  go_enter Try.func19, Try.ntmps19
  go_wp2_with fail
  refine (setOk_any A n c r x W s _ hn (HR.out.keeps ((Keeps.alloc _ _).step (Keeps.alloc _ _))) hl).mono ?_
  rintro e w1 ⟨rfl, hk1⟩
  rw [H1.out]
  have kk := (Keeps.alloc w (.cells #[.int .i64 W, .slice A n c] 25)).step ((Keeps.alloc _ (.cells #[.int .i64 0, .slice none 0 0] 25)).step hk1)
  have hB : Blk w1 (w.heap.size + 1) 25 #[.int .i64 0, .slice none 0 0] := (blk_at (by simp) (Blk.new _ _ _)).keeps hk1
  have c00 : w1.cell? ⟨w.heap.size + 1, 0, none⟩ = some (.int .i64 0) := by rw [hB.cell]; rfl
  have c01 : w1.cell? ⟨w.heap.size + 1, 1, none⟩ = some (.slice none 0 0) := by rw [hB.cell]; rfl
  have f00 := hB.frozen 0
  have f01 := hB.frozen 1
  go_wp2
  refine bodyPost_ret (v := .agg #[.int .i64 0, .slice none 0 0]) (by simp [results, Try.results19, go_sem, c00, c01]) rfl ⟨rfl, (kk.setCell (by simp) _).setCell (by simp) _⟩
set_option maxRecDepth 100000 in
set_option maxHeartbeats 2000000 in
theorem iTellAll_yes (A : Option Addr) (n c V S : Nat) (r : Nat → Option Addr × Nat × Nat) (x : Nat → Nat → Int) (w : World) (hn : n ≤ 1099511627776) (hr : Rows w A n r x) (hl : ∀ i, i < n → (r i).2.1 ≤ 1099511627776) (hv : setB V n r x S = true) :
    Calls Try.prog 19 #[.agg #[.int .i64 V, .slice A n c], .int .i64 S] w fun e w' => ∃ A' c', e = .returned (.agg #[.int .i64 V, .slice A' n c']) ∧ OwnRows w' w.heap.size A' n c' (tellRR x S V n) ∧ Keeps w w' := by
  have HR := Lib.hid hr
  have H1 := Lib.hid hv
  obtain ⟨V', S', e1, e2, hV1, hV2, hn4, hS, hS2, hrow⟩ := setB_iff V n r x S hv
  have e1' : V = V' := by omega
  have e2' : S = S' := by omega
  subst e1'
  subst e2'
  have HW := Lib.hid hrow
  clear hr hv hrow e1 e2
  go_enter Try.func19, Try.ntmps19
  go_wp2_with fail
  refine (setOk_any A n c r x V S _ hn (HR.out.keeps ((Keeps.alloc _ _).step (Keeps.alloc _ _))) hl).mono ?_
  rintro e w1 ⟨rfl, hk1⟩
  rw [H1.out]
  have kk := (Keeps.alloc w (.cells #[.int .i64 V, .slice A n c] 25)).step ((Keeps.alloc _ (.cells #[.int .i64 0, .slice none 0 0] 25)).step hk1)
  have hB0 : Blk w1 w.heap.size 25 #[.int .i64 V, .slice A n c] := ((Blk.new _ _ _).keeps (Keeps.alloc _ _)).keeps hk1
  have hB : Blk w1 (w.heap.size + 1) 25 #[.int .i64 0, .slice none 0 0] := (blk_at (by simp) (Blk.new _ _ _)).keeps hk1
  have d0 : w1.cell? ⟨w.heap.size, 0, none⟩ = some (.int .i64 V) := by rw [hB0.cell]; rfl
  have d1 : w1.cell? ⟨w.heap.size, 1, none⟩ = some (.slice A n c) := by rw [hB0.cell]; rfl
  have hz := kk.size
  go_wp2_with fail
  refine (tell_any A n c V r x S _ hV2 hn4.2 (HR.out.keeps kk) (fun a ha => (HW.out a ha).1) hS2).mono ?_
  rintro e w2 ⟨A', c', rfl, hO, hk2⟩
  have hB2 := hB.keeps hk2
  have c00 : w2.cell? ⟨w.heap.size + 1, 0, none⟩ = some (.int .i64 0) := by rw [hB2.cell]; rfl
  have c01 : w2.cell? ⟨w.heap.size + 1, 1, none⟩ = some (.slice none 0 0) := by rw [hB2.cell]; rfl
  have f00 := hB2.frozen 0
  have f01 := hB2.frozen 1
  have hO2 := hO.mono (lo' := w.heap.size) hz
  go_wp2
  refine bodyPost_ret (v := .agg #[.int .i64 V, .slice A' n c']) (by simp [results, Try.results19, go_sem, c00, c01]) rfl ⟨A', c', rfl, ?_, ((kk.step hk2).setCell (by simp) _).setCell (by simp) _⟩
  exact (hO2.grown (grown_set _ _ _ _) hB2 (by decide) (by decide)).grown (grown_set _ _ _ _) (hB2.set 0 _) (by decide) (by decide)
set_option maxRecDepth 100000 in
set_option maxHeartbeats 4000000 in
theorem announce_any (A : Option Addr) (n c W : Nat) (r : Nat → Option Addr × Nat × Nat) (x : Nat → Nat → Int) (s : Nat) (w : World) (hW : W ≤ 16) (hn : n ≤ 4) (hr : Rows w A n r x) (hrow : ∀ a, a < n → (r a).2.1 = W) (hs : s < 131072) :
    Calls Try.prog 42 #[.agg #[.int .i64 W, .slice A n c], .int .i64 s] w fun e w' => ∃ A' c', e = .returned (.agg #[.int .i64 W, .slice A' n c']) ∧ OwnRows w' w.heap.size A' n c' (tellRR x s W n) ∧ Keeps w w' := by
  have HR := Lib.hid hr
  have HW := Lib.hid hrow
  clear hr hrow
  go_enter Try.func42, Try.ntmps42
  go_wp2_with fail
  obtain ⟨V, hVV⟩ : ∃ V, V = w.heap.size + 1 + 1 := ⟨_, rfl⟩
  have hV : w.heap.size + 2 ≤ V := by omega
  rw [← hVV]
  have hB0' : Blk (((w.alloc (.cells #[.int .i64 W, .slice A n c] 25)).alloc (.cells #[.int .i64 0, .slice none 0 0] 25)).alloc (.cells #[.int .i64 W, .slice none 0 0] 25)) w.heap.size 25 #[.int .i64 W, .slice A n c] := ((Blk.new w _ _).keeps (Keeps.alloc _ _)).keeps (Keeps.alloc _ _)
  have hB1' : Blk (((w.alloc (.cells #[.int .i64 W, .slice A n c] 25)).alloc (.cells #[.int .i64 0, .slice none 0 0] 25)).alloc (.cells #[.int .i64 W, .slice none 0 0] 25)) (w.heap.size + 1) 25 #[.int .i64 0, .slice none 0 0] := (blk_at (by simp) (Blk.new _ _ _)).keeps (Keeps.alloc _ _)
  have hBV' : Blk (((w.alloc (.cells #[.int .i64 W, .slice A n c] 25)).alloc (.cells #[.int .i64 0, .slice none 0 0] 25)).alloc (.cells #[.int .i64 W, .slice none 0 0] 25)) V 25 #[.int .i64 W, .slice none 0 0] := blk_at (by rw [hVV]; simp) (Blk.new _ _ _)
  clear hVV
  go_loopw [6] (fun i wr => ∃ (k : Nat) (c' : Nat) (A' : Option Addr), k ≤ n ∧ i = .int .i64 k ∧ Blk wr w.heap.size 25 #[.int .i64 W, .slice A n c] ∧ Blk wr (w.heap.size + 1) 25 #[.int .i64 0, .slice none 0 0] ∧ Blk wr V 25 #[.int .i64 W, .slice A' k c'] ∧ OwnRows wr w.heap.size A' k c' (tellRR x s W k) ∧ Keeps w wr) (fun i _ => n - (intOf i).toNat)
  case atStart => exact ⟨0, 0, none, by omega, rfl, hB0', hB1', hBV', OwnRows.nil _ _, ((Keeps.alloc w _).step (Keeps.alloc _ _)).step (Keeps.alloc _ _)⟩
  case round =>
    clear hB0' hB1' hBV'
    obtain ⟨k, c', A', hk, rfl, hB0, hB1, hBV, hO, hK⟩ := hrel
    have z0 := hB0.lt
    have m0 : wr.cell? ⟨w.heap.size, 0, none⟩ = some (.int .i64 W) := by rw [hB0.cell]; rfl
    have m1 : wr.cell? ⟨w.heap.size, 1, none⟩ = some (.slice A n c) := by rw [hB0.cell]; rfl
    by_cases hlt : k < n
    · have hlt' : (k : Int) < n := by omega
      obtain ⟨⟨bA, oA, e, hcA⟩, hi⟩ := HR.out k hlt
      subst e
      have hWk := HW.out k hlt
      generalize hrk : r k = rk at *
      obtain ⟨rA, rn, rc⟩ := rk
      dsimp only at hcA hi hWk
      subst hWk
      have HI := Lib.hid hi
      clear hi hrk
      have hO2 := OwnInts.made wr wr.heap.size (Nat.le_refl _)
      go_wp2_with fail
      obtain ⟨wo, rfl⟩ : ∃ wo : World, wo = wr := ⟨_, rfl⟩
      go_loopw [7, 8] (fun v i wr => ∃ (j d : Nat) (a : Option Addr), j ≤ rn ∧ v = .slice a j d ∧ i = .int .i64 j ∧ OwnInts wr wo.heap.size a j d (tellR x s rn k j) ∧ Keeps wo wr) (fun _ i _ => rn - (intOf i).toNat)
      case atStart => exact ⟨0, _, _, by omega, rfl, rfl, hO2, Keeps.alloc _ _⟩
      case round =>
        obtain ⟨j, d, a, hj, rfl, rfl, hOj, hKj⟩ := hrel
        have n0 : wr.cell? ⟨w.heap.size, 0, none⟩ = some (.int .i64 rn) := by rw [(hB0.keeps hKj).cell]; rfl
        by_cases hjt : j < rn
        · have hjt' : (j : Int) < rn := by omega
          obtain ⟨bR, oR, e, hcj⟩ := HI.out j hjt
          subst e
          go_wp2_with fail
          obtain ⟨wq, rfl⟩ : ∃ wq : World, wq = wr := ⟨_, rfl⟩
          go_loopw [9, 10] (fun v i wr => ∃ at' u : Nat, at' ≤ j ∧ u ≤ at' ∧ v = .int .i64 at' ∧ i = .int .i64 ((u : Int) - 1) ∧ Hid (like x s k j at' = true) ∧ Hid (∀ i, u ≤ i → i < at' → like x s k j i = false) ∧ Keeps wq wr) (fun _ i _ => (intOf i + 1).toNat)
          case atStart => exact ⟨j, j, by omega, by omega, rfl, rfl, Lib.hid (like_self _ _ _ _), Lib.hid (fun i h1 h2 => by omega), Keeps.refl _⟩
          case round =>
            obtain ⟨t, u, ht, hu, rfl, rfl, HT, HU, hKu⟩ := hrel
            by_cases hu0 : u = 0
            · subst hu0
              have HID := Lib.hid (idxB_at (like x s k j) rn t (by omega) HT.out (fun i hi => HU.out i (by omega) hi))
              have HN := Lib.hid (tellR_next x s rn k j)
              have hOu := hOj.keeps hKu
              have hsz : wo.heap.size ≤ wr.heap.size := Nat.le_trans hKj.size hKu.size
              go_wp2_with (first | (at_builtin; refine wp_app_int rfl _ _ rfl wo.heap.size a j d (tellR x s rn k j) _ rfl hOu _ rfl (by omega) hsz ?_; intro g d' w6 hO6 hg6))
              go_roundw
              case rel => exact ⟨j + 1, d', _, by omega, rfl, by go_num, by rw [HN.out, ← HID.out]; exact hO6, (hKj.step hKu).grown hOu (Nat.le_refl _) hg6⟩
              case measure => first | (simp [intOf]; done) | (simp [intOf]; omega)
            · obtain ⟨u, rfl⟩ : ∃ v, u = v + 1 := ⟨u - 1, by omega⟩
              have eu : ((u + 1 : Nat) : Int) - 1 = (u : Int) := by omega
              rw [eu]
              have kk := (hK.step hKj).step hKu
              have hcA' := cell_keeps kk hcA
              have hcj' := cell_keeps kk hcj
              have n1 : wr.cell? ⟨w.heap.size, 1, none⟩ = some (.slice (some ⟨bA, oA, none⟩) n c) := by rw [((hB0.keeps hKj).keeps hKu).cell]; rfl
              obtain ⟨_, _, e, hcu⟩ := HI.out u (by omega)
              cases e
              have hcu' := cell_keeps kk hcu
              have hut : (u : Int) < rn := by omega
              clear hcA hcj hcu eu hu0
              cases hx : (x k u == x k j)
              · have HLK : Hid (like x s k j u = false) := Lib.hid (by unfold like; rw [hx]; rfl)
                go_wp2_with fail
                go_quiet (fail)
                go_wp2
                go_roundw
                case rel =>
                  refine ⟨t, u, by omega, by omega, rfl, by go_num, HT, Lib.hid (fun i h1 h2 => ?_), hKu.step (Keeps.drewN _ _)⟩
                  by_cases e : i = u
                  · subst e; exact HLK.out
                  · exact HU.out i (by omega) h2
                case measure => first | (simp [intOf]; done) | (simp [intOf]; omega)
              · cases hu1 : s.testBit u
                · cases hj1 : s.testBit j
                  · have HLK : Hid (like x s k j u = true) := Lib.hid (by unfold like; rw [hx, hu1, hj1]; rfl)
                    have HU1 := Lib.hid hu1
                    have HJ1 := Lib.hid hj1
                    clear hu1 hj1
                    go_wp2_with fail
                    go_quiet ((go_at_call 52; exact Calls.quiet_of_same (sym' (sbit_any _ _ _ (by omega) (by omega)))))
                    rw [HU1.out, HJ1.out]
                    have hb0 : (bitI false == bitI false) = true := rfl
                    have hb1 : (bitI true == bitI true) = true := rfl
                    go_wp2
                    go_roundw
                    case rel => exact ⟨u, u, by omega, by omega, rfl, by go_num, HLK, Lib.hid (fun i h1 h2 => by omega), hKu.step (Keeps.drewN _ _)⟩
                    case measure => first | (simp [intOf]; done) | (simp [intOf]; omega)
                  · have HLK : Hid (like x s k j u = false) := Lib.hid (by unfold like; rw [hx, hu1, hj1]; rfl)
                    have HU1 := Lib.hid hu1
                    have HJ1 := Lib.hid hj1
                    clear hu1 hj1
                    go_wp2_with fail
                    go_quiet ((go_at_call 52; exact Calls.quiet_of_same (sym' (sbit_any _ _ _ (by omega) (by omega)))))
                    rw [HU1.out, HJ1.out]
                    have hb0 : (bitI false == bitI true) = false := rfl
                    have hb1 : (bitI true == bitI false) = false := rfl
                    go_wp2
                    go_roundw
                    case rel =>
                      refine ⟨t, u, by omega, by omega, rfl, by go_num, HT, Lib.hid (fun i h1 h2 => ?_), hKu.step (Keeps.drewN _ _)⟩
                      by_cases e : i = u
                      · subst e; exact HLK.out
                      · exact HU.out i (by omega) h2
                    case measure => first | (simp [intOf]; done) | (simp [intOf]; omega)
                · cases hj1 : s.testBit j
                  · have HLK : Hid (like x s k j u = false) := Lib.hid (by unfold like; rw [hx, hu1, hj1]; rfl)
                    have HU1 := Lib.hid hu1
                    have HJ1 := Lib.hid hj1
                    clear hu1 hj1
                    go_wp2_with fail
                    go_quiet ((go_at_call 52; exact Calls.quiet_of_same (sym' (sbit_any _ _ _ (by omega) (by omega)))))
                    rw [HU1.out, HJ1.out]
                    have hb0 : (bitI false == bitI true) = false := rfl
                    have hb1 : (bitI true == bitI false) = false := rfl
                    go_wp2
                    go_roundw
                    case rel =>
                      refine ⟨t, u, by omega, by omega, rfl, by go_num, HT, Lib.hid (fun i h1 h2 => ?_), hKu.step (Keeps.drewN _ _)⟩
                      by_cases e : i = u
                      · subst e; exact HLK.out
                      · exact HU.out i (by omega) h2
                    case measure => first | (simp [intOf]; done) | (simp [intOf]; omega)
                  · have HLK : Hid (like x s k j u = true) := Lib.hid (by unfold like; rw [hx, hu1, hj1]; rfl)
                    have HU1 := Lib.hid hu1
                    have HJ1 := Lib.hid hj1
                    clear hu1 hj1
                    go_wp2_with fail
                    go_quiet ((go_at_call 52; exact Calls.quiet_of_same (sym' (sbit_any _ _ _ (by omega) (by omega)))))
                    rw [HU1.out, HJ1.out]
                    have hb0 : (bitI false == bitI false) = true := rfl
                    have hb1 : (bitI true == bitI true) = true := rfl
                    go_wp2
                    go_roundw
                    case rel => exact ⟨u, u, by omega, by omega, rfl, by go_num, HLK, Lib.hid (fun i h1 h2 => by omega), hKu.step (Keeps.drewN _ _)⟩
                    case measure => first | (simp [intOf]; done) | (simp [intOf]; omega)
        · have : j = rn := by omega
          subst this
          have hBVj := hBV.keeps hKj
          have hOOj := hO.keeps hKj
          have HN := Lib.hid (tellRR_next x s j k)
          have e1 : wr.cell? ⟨V, 1, none⟩ = some (.slice A' k c') := by rw [hBVj.cell]; rfl
          have z1 := hBVj.lt
          have hz1 := hK.size
          have hz2 := hKj.size
          go_wp2_with (first | (at_builtin; refine wp_app_row rfl _ _ rfl w.heap.size A' k c' (tellRR x s j k) _ rfl hOOj wo.heap.size a j d (tellR x s j k j) hOj hz1 rfl (by omega) (Nat.le_trans hz1 hz2) ?_; intro g cc w6 hO6 hg6; have hV6 := hOOj.blk hg6 hBVj (by decide); have d61 : w6.cell? ⟨V, 1, none⟩ = some (.slice A' k c') := (by rw [hV6.cell]; rfl); have f61 := hV6.frozen 1))
          have hB06 := hOOj.blk hg6 (hB0.keeps hKj) (by decide)
          have hB16 := hOOj.blk hg6 (hB1.keeps hKj) (by decide)
          have hK6 : Keeps w w6 := hOOj.keepsAll (hK.step hKj) (Nat.le_refl _) hg6
          go_roundw
          case rel => exact ⟨k + 1, cc, _, by omega, by go_num, hB06.set_other _ _ (by simp; omega), hB16.set_other _ _ (by simp; omega), hV6.set 1 _, by rw [HN.out]; exact hO6.grown (grown_set _ _ _ _) hV6 (by decide) (by decide), hK6.setCell (by simp; omega) _⟩
          case measure => first | (simp [intOf]; done) | (simp [intOf]; omega)
    · have : k = n := by omega
      subst this
      have c10 : wr.cell? ⟨V, 0, none⟩ = some (.int .i64 W) := by rw [hBV.cell]; rfl
      have c11 : wr.cell? ⟨V, 1, none⟩ = some (.slice A' k c') := by rw [hBV.cell]; rfl
      have c00 : wr.cell? ⟨w.heap.size + 1, 0, none⟩ = some (.int .i64 0) := by rw [hB1.cell]; rfl
      have c01 : wr.cell? ⟨w.heap.size + 1, 1, none⟩ = some (.slice none 0 0) := by rw [hB1.cell]; rfl
      have f00 := hB1.frozen 0
      have f01 := hB1.frozen 1
      go_wp2
      refine bodyPost_ret (v := .agg #[.int .i64 W, .slice A' k c']) (by simp [results, Try.results42, go_sem, c00, c01]) rfl ⟨_, _, rfl, ?_, ?_⟩
      · exact (hO.grown (grown_set _ _ _ _) hB1 (by decide) (by decide)).grown (grown_set _ _ _ _) (hB1.set 0 _) (by decide) (by decide)
      · exact (hK.setCell (by simp) _).setCell (by simp) _
set_option maxRecDepth 100000 in
set_option maxHeartbeats 2000000 in
theorem sTellAll_no (A : Option Addr) (n c : Nat) (r : Nat → Option Addr × Nat × Nat) (x : Nat → Nat → Int) (W s : Int) (w : World) (hn : n ≤ 1099511627776) (hr : Rows w A n r x) (hv : setB W n r x s = false) :
    Calls Try.prog 17 #[.agg #[.int .i64 W, .slice A n c], .int .i64 s] w fun e w' => e = .returned (.agg #[.int .i64 0, .slice none 0 0]) ∧ Keeps w w' := by
  have HR := Lib.hid hr
  have H1 := Lib.hid hv
  clear hr hv
  go_enter Try.func17, Try.ntmps17
  go_wp2_with fail
  refine (good_any A n c r x W s _ hn (HR.out.keeps ((Keeps.alloc _ _).step (Keeps.alloc _ _)))).mono ?_
  rintro e w1 ⟨rfl, hk1⟩
  rw [H1.out]
  have kk := (Keeps.alloc w (.cells #[.int .i64 W, .slice A n c] 25)).step ((Keeps.alloc _ (.cells #[.int .i64 0, .slice none 0 0] 25)).step hk1)
  have hB : Blk w1 (w.heap.size + 1) 25 #[.int .i64 0, .slice none 0 0] := (blk_at (by simp) (Blk.new _ _ _)).keeps hk1
  have c00 : w1.cell? ⟨w.heap.size + 1, 0, none⟩ = some (.int .i64 0) := by rw [hB.cell]; rfl
  have c01 : w1.cell? ⟨w.heap.size + 1, 1, none⟩ = some (.slice none 0 0) := by rw [hB.cell]; rfl
  have f00 := hB.frozen 0
  have f01 := hB.frozen 1
  go_wp2
  refine bodyPost_ret (v := .agg #[.int .i64 0, .slice none 0 0]) (by simp [results, Try.results17, go_sem, c00, c01]) rfl ⟨rfl, (kk.setCell (by simp) _).setCell (by simp) _⟩
set_option maxRecDepth 100000 in
set_option maxHeartbeats 2000000 in
theorem sTellAll_yes (A : Option Addr) (n c V S : Nat) (r : Nat → Option Addr × Nat × Nat) (x : Nat → Nat → Int) (w : World) (hn : n ≤ 1099511627776) (hr : Rows w A n r x) (hv : setB V n r x S = true) :
    Calls Try.prog 17 #[.agg #[.int .i64 V, .slice A n c], .int .i64 S] w fun e w' => ∃ A' c', e = .returned (.agg #[.int .i64 V, .slice A' n c']) ∧ OwnRows w' w.heap.size A' n c' (tellRR x S V n) ∧ Keeps w w' := by
  have HR := Lib.hid hr
  have H1 := Lib.hid hv
  obtain ⟨V', S', e1, e2, hV1, hV2, hn4, hS, hS2, hrow⟩ := setB_iff V n r x S hv
  have e1' : V = V' := by omega
  have e2' : S = S' := by omega
  subst e1'
  subst e2'
  have HW := Lib.hid hrow
  clear hr hv hrow e1 e2
  go_enter Try.func17, Try.ntmps17
  go_wp2_with fail
  refine (good_any A n c r x V S _ hn (HR.out.keeps ((Keeps.alloc _ _).step (Keeps.alloc _ _)))).mono ?_
  rintro e w1 ⟨rfl, hk1⟩
  rw [H1.out]
  have kk := (Keeps.alloc w (.cells #[.int .i64 V, .slice A n c] 25)).step ((Keeps.alloc _ (.cells #[.int .i64 0, .slice none 0 0] 25)).step hk1)
  have hB0 : Blk w1 w.heap.size 25 #[.int .i64 V, .slice A n c] := ((Blk.new _ _ _).keeps (Keeps.alloc _ _)).keeps hk1
  have hB : Blk w1 (w.heap.size + 1) 25 #[.int .i64 0, .slice none 0 0] := (blk_at (by simp) (Blk.new _ _ _)).keeps hk1
  have d0 : w1.cell? ⟨w.heap.size, 0, none⟩ = some (.int .i64 V) := by rw [hB0.cell]; rfl
  have d1 : w1.cell? ⟨w.heap.size, 1, none⟩ = some (.slice A n c) := by rw [hB0.cell]; rfl
  have hz := kk.size
  go_wp2_with fail
  refine (announce_any A n c V r x S _ hV2 hn4.2 (HR.out.keeps kk) (fun a ha => (HW.out a ha).1) hS2).mono ?_
  rintro e w2 ⟨A', c', rfl, hO, hk2⟩
  have hB2 := hB.keeps hk2
  have c00 : w2.cell? ⟨w.heap.size + 1, 0, none⟩ = some (.int .i64 0) := by rw [hB2.cell]; rfl
  have c01 : w2.cell? ⟨w.heap.size + 1, 1, none⟩ = some (.slice none 0 0) := by rw [hB2.cell]; rfl
  have f00 := hB2.frozen 0
  have f01 := hB2.frozen 1
  have hO2 := hO.mono (lo' := w.heap.size) hz
  go_wp2
  refine bodyPost_ret (v := .agg #[.int .i64 V, .slice A' n c']) (by simp [results, Try.results17, go_sem, c00, c01]) rfl ⟨A', c', rfl, ?_, ((kk.step hk2).setCell (by simp) _).setCell (by simp) _⟩
  exact (hO2.grown (grown_set _ _ _ _) hB2 (by decide) (by decide)).grown (grown_set _ _ _ _) (hB2.set 0 _) (by decide) (by decide)
end Go.Proofs.Ytalafojkmomolaa
