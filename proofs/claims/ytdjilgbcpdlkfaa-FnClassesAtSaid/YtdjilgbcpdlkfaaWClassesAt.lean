/-
  The walk of FnClassesAt: whatever the code is, it returns true, and nothing that was there turns. No condition.
-/
import Derived.Test.YtdjilgbcpdlkfaaDrawNet
import Derived.Test.YtdjilgbcpdlkfaaNetFin
import Derived.Test.YtdjilgbcpdlkfaaClsLaw
import Derived.Test.YtdjilgbcpdlkfaaEq
import Derived.Deep.RegionHeld3
import Derived.Deep.CutBlock
import Derived.Deep.DeepCutAuto
namespace Go.Proofs.Ytdjilgbcpdlkfaa
open Go.RowKit

theorem Gro.setAt {b : Nat} {w0 w : World} (h : Gro b w0 w) (j : Nat) (v : Value) : Gro b w0 (w.setCell ⟨b, j, none⟩ v) := h.step (grown_set w b j v)
set_option maxRecDepth 100000 in
set_option maxHeartbeats 8000000 in
theorem FnClassesAt_walk (a : Option Addr) (n c : Nat) (w : World) (hB : Bytes w w.heap.size a n) (hc : n ≤ c) (hc2 : c ≤ 9223372036854775807) :
    Calls Try.prog 8 #[.slice a n c] w fun e w' => e = .returned (.bool true) ∧ Keeps w w' := by
  have HB := Lib.hid hB
  clear hB
  by_cases hn : 1048576 < n
  · go_enter Try.func8, Try.ntmps8
    go_wp2
    go_ret
    exact ⟨rfl, Keeps.refl _⟩
  · go_enter Try.func8, Try.ntmps8
    go_wp2_with fail
    refine (drawClassesAt_any a n c _ HB.out (by omega) hc hc2).mono ?_
    rintro e w1 ⟨m, mm, A, B, cA, cB, r, L, X, M, s, rfl, hN, hL, hm1, hm6, hmm, hs1, hs2, hK1⟩
    have kk := Keeps.alloc w1 (.cells #[.slice A m cA, .slice B mm cB] 27)
    have b0 := box0 w1 (.slice A m cA) (.slice B mm cB) 27
    have b1 := box1 w1 (.slice A m cA) (.slice B mm cB) 27
    have HL := Lib.hid hL
    have HN := Lib.hid (hN.keeps kk)
    have hKK := hK1.step kk
    clear hN hL hK1 kk
    go_wp2_with fail
    generalize hw0 : w1.alloc (.cells #[.slice A m cA, .slice B mm cB] 27) = w0 at *
    generalize hV : w1.heap.size = V at *
    clear hw0 hV w1
    have CI := Lib.hid (fun (s : Int) w' (hK : Keeps w0 w') => iClassesAt_any A B m cA mm cB r L X M s w' (HN.out.keeps hK))
    have CS := Lib.hid (fun w' (hK : Keeps w0 w') => sClassesAt_any A B m cA mm cB r L X M s w' (HN.out.keeps hK))
    refine (CI.out _ _ (Keeps.refl _)).mono ?_
    rintro e w1 ⟨oA, oc, rfl, hO, hk1⟩
    have c0 := cell_keeps hk1 b0
    have c1 := cell_keeps hk1 b1
    have hlen := clsL_len m L X mm M s
    go_wp2_with fail
    refine (CS.out _ hk1).mono ?_
    rintro e w2 ⟨pA, pc, rfl, hP, hk2⟩
    have hO2 := hO.keeps hk2
    have HE := Lib.hid (fun w' (kk : Keeps w2 w') => eInts_true oA pA (clsL m L X mm M s).length oc pc _ _ w' (by omega) ((hO2.keeps kk).ints) ((hP.keeps kk).ints) (fun _ _ => rfl))
    have d0 := cell_keeps hk2 c0
    have d1 := cell_keeps hk2 c1
    have hK02 := hk1.step hk2
    clear c0 c1 hk1 hk2 b0 b1 hO hP
    go_wp2_with fail
    refine (HE.out _ (Keeps.refl _)).mono ?_
    rintro e w3 ⟨rfl, hk3⟩
    have e0 := cell_keeps hk3 d0
    have e1 := cell_keeps hk3 d1
    have hO3 := hO2.keeps hk3
    have hK03 := hK02.step hk3
    clear d0 d1 hO2 hK02 HE hk3
    cases hb : netB m L X mm M && inB s 0 6
    · have hl : clsL m L X mm M s = [] := by unfold clsL; rw [hb]; rfl
      rw [hl] at hO3 CS ⊢
      have hO4 := Lib.hid hO3
      clear hO3 hl hb
      simp only [List.length_nil] at *
      go_wp2_with fail
      refine (CS.out _ hK03).mono ?_
      rintro e w4 ⟨qA, qc, rfl, hQ, hk4⟩
      have HE4 := Lib.hid (eInts_true oA qA 0 oc qc _ _ w4 (by omega) ((hO4.out.keeps hk4).ints) hQ.ints (fun _ h => absurd h (Nat.not_lt_zero _)))
      clear hQ
      go_wp2_with fail
      refine HE4.out.mono ?_
      rintro e w5 ⟨rfl, hk5⟩
      go_wp2
      go_ret
      exact ⟨rfl, hKK.step ((hK03.step hk4).step hk5)⟩
    · rw [Bool.and_eq_true] at hb
      obtain ⟨hnb, hin0⟩ := hb
      have hin := inB_true hin0
      obtain ⟨k, rfl⟩ := Int.eq_ofNat_of_zero_le hin.1
      have hk6 : k ≤ 6 := by omega
      have HOK := Lib.hid (net_true hnb)
      have hl := cls_list (s := (k : Int)) hnb k hk6 rfl
      have hll : (clsL m L X mm M k).length = m := by rw [hl]; exact il_len _ _
      rw [hll] at hO3 ⊢
      rw [hl] at hO3
      obtain ⟨go, rfl⟩ := hO3.at hm1
      have HO3 := Lib.hid hO3
      have HFL := Lib.hid (cls_list (s := (6 : Int)) hnb 6 (by omega) rfl)
      have HC : Hid (∀ v, v < m → clsF L (portT X) M k v ≤ v ∧ clsF L (portT X) M k (clsF L (portT X) M k v) = clsF L (portT X) M k v ∧ clsF L (portT X) M 6 v ≤ v ∧ clsF L (portT X) M k (clsF L (portT X) M 6 v) = clsF L (portT X) M k v) := Lib.hid (fun v hv => ⟨cls_le k v, cls_cls k v, cls_le 6 v, by
        have := cls_down (L := L) (T := portT X) (M := M) k v (6 - k)
        rwa [show k + (6 - k) = 6 by omega] at this⟩)
      have HSZ : Hid (∀ v, v < m → 0 < cntB (fun x => clsF L (portT X) M 6 x == v) m → cntB (fun x => clsF L (portT X) M 6 x == v) m = cntB (fun x => clsF L (portT X) M 6 x == 0) m) := Lib.hid (fun v hv h => sizes_same HOK.out v hv h)
      have hm0 : ((m : Int) == 0) = false := by simp; omega
      clear hO3 hl hll hnb hin hin0 CS hlen
      go_wp2_with fail
      refine (CI.out _ _ hK03).mono ?_
      intro e w4 hG
      obtain ⟨gl, cl, rfl, hL4, hk4⟩ := hG.get HFL.out hm1
      have hK04 := hK03.step hk4
      have HO4 := Lib.hid (HO3.out.keeps hk4)
      have HL4 := Lib.hid hL4
      clear hG hL4 hk4 hK03 HFL e0 e1 HO3 HN CI
      generalize clsF L (portT X) M k = c at *
      generalize clsF L (portT X) M 6 = ls at *
      have hmk := make_ints m (by omega)
      have HO5 := Lib.hid (HO4.out.keeps (Keeps.alloc w4 (.cells (madeCells #[.int .i64 0] m) 3)))
      have HL5 := Lib.hid (HL4.out.keeps (Keeps.alloc w4 (.cells (madeCells #[.int .i64 0] m) 3)))
      have HS5 := Lib.hid (OwnInts.make w4 w4.heap.size m (Nat.le_refl _) (by omega))
      have hK05 := hK04.step (Keeps.alloc w4 (.cells (madeCells #[.int .i64 0] m) 3))
      have hgo : go ≠ w4.heap.size := by have := HO4.out.block.2; omega
      have hgl : gl ≠ w4.heap.size := by have := HL4.out.block.2; omega
      have hWS0 := hK04.size
      clear HO4 HL4 hK04
      go_wp2_with fail
      generalize hw5 : w4.alloc (.cells (madeCells #[.int .i64 0] m) 3) = w5 at *
      clear hw5
      generalize w4.heap.size = gs at *
      obtain ⟨wo, rfl⟩ : ∃ wo : World, wo = w5 := ⟨_, rfl⟩
      go_loopw [8] (fun i wr => ∃ v : Nat, v ≤ m ∧ i = .int .i64 v ∧ Hid (OwnInts wr gs (some ⟨gs, 0, none⟩) m m (il m (fun x => (cntB (fun y => ls y == x) v : Nat)))) ∧ Gro gs wo wr) (fun i _ => m - (intOf i).toNat)
      case atStart => exact ⟨0, by omega, rfl, Lib.hid (by have h0 := HS5.out; rw [il_zero] at h0; exact h0), Gro.refl _ _⟩
      case round =>
        obtain ⟨v, hv, rfl, HS, hG⟩ := hrel
        by_cases hlt : v < m
        · have hvi : (v : Int) < m := by omega
          obtain ⟨h1, h2, h3, h4⟩ := HC.out v hlt
          have hov := hG.cell (HO5.out.cell v hlt) hgo
          have hocv := hG.cell (HO5.out.cell (c v) (by omega)) hgo
          have holv := hG.cell (HO5.out.cell (ls v) (by omega)) hgo
          have hlv := hG.cell (HL5.out.cell v hlt) hgl
          have hsl := HS.out.cell (ls v) (by omega)
          have hsf := HS.out.frozen (ls v)
          rw [il_getD m _ _ (by omega)] at hov hocv holv hlv hsl
          rw [h2] at hocv
          rw [h4] at holv
          have hlm : ls v < m := by omega
          have hcn := cntB_le (fun y => ls y == ls v) v
          have HNX : Hid (∀ x, x < m → ((cntB (fun y => ls y == x) (v + 1) : Nat) : Int) = if x = ls v then ((cntB (fun y => ls y == ls v) v : Nat) : Int) + 1 else ((cntB (fun y => ls y == x) v : Nat) : Int)) := Lib.hid (fun x hx => by
            show ((cntB (fun y => ls y == x) v + (if ls v == x then 1 else 0) : Nat) : Int) = _
            by_cases e : x = ls v
            · subst e; simp
            · rw [if_neg e]
              have : (ls v == x) = false := by simp; omega
              rw [this]; simp)
          have HSET := Lib.hid (fun q => by
            have := (HS.out.keeps (Keeps.drewN wr q)).set (ls v) (((cntB (fun y => ls y == ls v) v : Nat) : Int) + 1)
            rw [il_set, ← il_congr m _ _ HNX.out] at this
            exact this)
          have HGS := Lib.hid (fun q => (hG.step (Gro.ofKeeps (Keeps.drewN wr q))).setAt (ls v) (.int .i64 (((cntB (fun y => ls y == ls v) v : Nat) : Int) + 1)))
          generalize hcl : cntB (fun y => ls y == ls v) v = cn at *
          clear hcl h2 h4 HS
          generalize c v = cv at *
          generalize hlx : ls v = lv at *
          have hcvi : (cv : Int) < m := by omega
          have hlvi : (lv : Int) < m := by omega
          have hcle : ¬ ((v : Int) < (cv : Int)) := by omega
          clear hlx
          go_wp2_with fail
          go_quiet (fail)
          go_wp2_with fail
          go_region
          all_goals
            go_wp2_with fail
            go_roundw
            case rel => exact ⟨v + 1, by omega, by go_num, Lib.hid (HSET.out _), HGS.out _⟩
            case measure => simp [intOf]; omega
        · obtain rfl : v = m := by omega
          have hst := HS.out
          go_wp2_with fail
          obtain ⟨wd, rfl⟩ : ∃ wd : World, wd = wr := ⟨_, rfl⟩
          go_loopw [9] (fun i wi => ∃ u : Nat, u ≤ v ∧ i = .int .i64 u ∧ Keeps wd wi) (fun i _ => v - (intOf i).toNat)
          case atStart => exact ⟨0, by omega, rfl, Keeps.refl _⟩
          case round =>
            clear hst
            obtain ⟨u, hu, rfl, hKi⟩ := hrel
            by_cases hltu : u < v
            · have hui : (u : Int) < v := by omega
              have hcu := (HS.out.keeps hKi).cell u hltu
              have hc0 := (HS.out.keeps hKi).cell 0 (by omega)
              rw [il_getD v _ _ (by omega)] at hcu hc0
              have hs := HSZ.out u hltu
              have hv0 : (0 : Int) < v := by omega
              have hv0n : 0 < v := by omega
              generalize cntB (fun y => ls y == u) v = cu at *
              generalize cntB (fun y => ls y == 0) v = c0 at *
              by_cases h0 : 0 < cu
              · have := hs h0
                subst this
                have h0i : decide ((0 : Int) < (cu : Int)) = true := by simpa using h0
                clear hs
                go_wp2_with fail
                go_quiet (fail)
                go_wp2
                go_roundw
                case rel => exact ⟨u + 1, by omega, by go_num, hKi.step (Keeps.drewN _ _)⟩
                case measure => simp [intOf]; omega
              · obtain rfl : cu = 0 := by omega
                have h0i : decide ((0 : Int) < (0 : Int)) = false := by decide
                clear hs h0
                go_wp2_with fail
                go_quiet (fail)
                go_wp2
                go_roundw
                case rel => exact ⟨u + 1, by omega, by go_num, hKi.step (Keeps.drewN _ _)⟩
                case measure => simp [intOf]; omega
            · obtain rfl : u = v := by omega
              go_wp2
              go_ret
              exact ⟨rfl, hKK.step ((below_grown hK05 hG hWS0).step hKi)⟩
end Go.Proofs.Ytdjilgbcpdlkfaa
