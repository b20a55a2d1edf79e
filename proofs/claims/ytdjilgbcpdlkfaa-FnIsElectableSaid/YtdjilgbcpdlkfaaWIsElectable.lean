/-
  The walk of FnIsElectable: whatever the code is, it returns true, and nothing that was there turns. No condition.
-/
import Derived.Test.YtdjilgbcpdlkfaaDrawNet
import Derived.Test.YtdjilgbcpdlkfaaNetFin
import Derived.Test.YtdjilgbcpdlkfaaClsLaw
import Derived.Test.YtdjilgbcpdlkfaaIRing
import Derived.Deep.RegionHeld3
import Derived.Deep.CutBlock
import Derived.Deep.DeepCutAuto
namespace Go.Proofs.Ytdjilgbcpdlkfaa
open Go.RowKit

set_option maxRecDepth 100000 in
set_option maxHeartbeats 8000000 in
theorem FnIsElectable_walk (a : Option Addr) (n c : Nat) (w : World) (hB : Bytes w w.heap.size a n) (hc : n ≤ c) (hc2 : c ≤ 9223372036854775807) :
    Calls Try.prog 10 #[.slice a n c] w fun e w' => e = .returned (.bool true) ∧ Keeps w w' := by
  have HB := Lib.hid hB
  clear hB
  by_cases hn : 1048576 < n
  · go_enter Try.func10, Try.ntmps10
    go_wp2
    go_ret
    exact ⟨rfl, Keeps.refl _⟩
  · go_enter Try.func10, Try.ntmps10
    go_wp2_with fail
    refine (drawIsElectable_any a n c _ HB.out (by omega) hc hc2).mono ?_
    rintro e w1 ⟨m, mm, A, B, cA, cB, r, L, X, M, rfl, hN, hL, hm1, hm6, hmm, hK1⟩
    have kk := Keeps.alloc w1 (.cells #[.slice A m cA, .slice B mm cB] 27)
    have b0 := box0 w1 (.slice A m cA) (.slice B mm cB) 27
    have b1 := box1 w1 (.slice A m cA) (.slice B mm cB) 27
    have HL := Lib.hid hL
    have HN := Lib.hid (hN.keeps kk)
    have hKK := hK1.step kk
    clear hN hL hK1 kk
    go_wp2_with fail
    generalize hw0 : w1.alloc (.cells #[.slice A m cA, .slice B mm cB] 27) = w0 at *
    generalize hV : w1.heap.size = V at *
    clear hw0 hV w1
    have CI := Lib.hid (fun w' (hK : Keeps w0 w') => iIsElectable_any A B m cA mm cB r L X M w' (HN.out.keeps hK))
    have CS := Lib.hid (fun w' (hK : Keeps w0 w') => sIsElectable_any A B m cA mm cB r L X M w' (HN.out.keeps hK))
    have CV := Lib.hid (fun w' (hK : Keeps w0 w') => validNet_any A B m cA mm cB r L X M w' (HN.out.keeps hK))
    have CC := Lib.hid (fun (s : Int) w' (hK : Keeps w0 w') => iClassesAt_any A B m cA mm cB r L X M s w' (HN.out.keeps hK))
    cases hb : netB m L X mm M
    · have hw : electB m L X mm M = false := by unfold electB; rw [hb]; rfl
      rw [hw] at CI CS
      rw [hb] at CV
      clear hb hw CC
      refine (CI.out _ (Keeps.refl _)).mono ?_
      rintro e w1 ⟨rfl, hk1⟩
      have c0 := cell_keeps hk1 b0
      have c1 := cell_keeps hk1 b1
      go_wp2_with fail
      refine (CS.out _ hk1).mono ?_
      rintro e w2 ⟨rfl, hk2⟩
      have d0 := cell_keeps hk2 c0
      have d1 := cell_keeps hk2 c1
      have hK02 := hk1.step hk2
      go_wp2_with fail
      refine (CV.out _ hK02).mono ?_
      rintro e w3 ⟨rfl, hk3⟩
      have e0 := cell_keeps hk3 d0
      have e1 := cell_keeps hk3 d1
      go_wp2_with fail
      refine (CS.out _ (hK02.step hk3)).mono ?_
      rintro e w4 ⟨rfl, hk4⟩
      go_wp2
      go_ret
      exact ⟨rfl, hKK.step ((hK02.step hk3).step hk4)⟩
    · have HOK := Lib.hid (net_true hb)
      have hw : electB m L X mm M = !anyB (fun v => !(clsF L (portT X) M 6 v == v)) m := by unfold electB; rw [hb]; rfl
      have HFL := Lib.hid (cls_list (s := (6 : Int)) hb 6 (by omega) rfl)
      have HAP : Hid (anyB (fun v => anyB (fun u => M u == M v) v) m = false → anyB (fun v => !(clsF L (portT X) M 6 v == v)) m = false) := Lib.hid (fun h => (anyB_false _ _).2 fun v hv => by
        have := (anyB_false _ _).1 h v hv
        rw [cls_apart v (fun u hu => by have := (anyB_false _ _).1 this u hu; simpa using this) 6]
        simp)
      rw [hw] at CI CS
      rw [hb] at CV
      have HMM := Lib.hid HOK.out.mm
      clear hb hw
      generalize clsF L (portT X) M 6 = ls at *
      have HBB : Hid ((!anyB (fun v => !(ls v == v)) m) = true ∨ (!anyB (fun v => anyB (fun u => M u == M v) v) m) = false) := Lib.hid (by
        cases h : anyB (fun v => anyB (fun u => M u == M v) v) m
        · exact .inl (by rw [HAP.out h]; rfl)
        · exact .inr rfl)
      obtain ⟨bb, hbb⟩ : ∃ bb, bb = (!anyB (fun v => !(ls v == v)) m) := ⟨_, rfl⟩
      rw [← hbb] at CI CS HBB
      have HBE := Lib.hid hbb
      clear hbb
      refine (CI.out _ (Keeps.refl _)).mono ?_
      rintro e w1 ⟨rfl, hk1⟩
      have c0 := cell_keeps hk1 b0
      have c1 := cell_keeps hk1 b1
      have hbq : (bb != bb) = false := by simp
      go_wp2_with fail
      refine (CS.out _ hk1).mono ?_
      rintro e w2 ⟨rfl, hk2⟩
      have d0 := cell_keeps hk2 c0
      have d1 := cell_keeps hk2 c1
      have hK02 := hk1.step hk2
      clear c0 c1 b0 b1 CI CS hk1 hk2
      go_wp2_with fail
      refine (CV.out _ hK02).mono ?_
      rintro e w3 ⟨rfl, hk3⟩
      have e0 := cell_keeps hk3 d0
      have e1 := cell_keeps hk3 d1
      have hK03 := hK02.step hk3
      clear d0 d1 hK02 hk3 CV
      go_wp2_with fail
      refine (CC.out _ _ hK03).mono ?_
      intro e w4 hG
      obtain ⟨gl, cl, rfl, hL4, hk4⟩ := hG.get HFL.out hm1
      have hK04 := hK03.step hk4
      have HL4 := Lib.hid hL4
      have C0 := Lib.hid (cell_keeps hk4 e0)
      have C1 := Lib.hid (cell_keeps hk4 e1)
      have HMK : Hid (Ints w4 B m M) := Lib.hid (by have := (HN.out.keeps hK04).marks; rw [HMM.out] at this; exact this)
      clear hG hL4 hk4 e0 e1 hK03 CC HFL
      go_wp2_with fail
      obtain ⟨wo, rfl⟩ : ∃ wo : World, wo = w4 := ⟨_, rfl⟩
      go_loopw [7, 8, 9] (fun o p i wr => ∃ v : Nat, v ≤ m ∧ i = .int .i64 v ∧ o = .bool (!anyB (fun v => !(ls v == v)) v) ∧ p = .bool (!anyB (fun v => anyB (fun u => M u == M v) v) v) ∧ Keeps wo wr) (fun _ _ i _ => m - (intOf i).toNat)
      case atStart => exact ⟨0, by omega, rfl, rfl, rfl, Keeps.refl _⟩
      case round =>
        obtain ⟨v, hv, rfl, rfl, rfl, hK⟩ := hrel
        have d0 := cell_keeps hK C0.out
        have d1 := cell_keeps hK C1.out
        by_cases hlt : v < m
        · have hvi : (v : Int) < m := by omega
          have hlv := (HL4.out.keeps hK).cell v hlt
          rw [il_getD m _ v hlt] at hlv
          have HS1 := Lib.hid (not_any (fun v => !(ls v == v)) v)
          have HS2 := Lib.hid (not_any (fun v => anyB (fun u => M u == M v) v) v)
          generalize (!anyB (fun v => !(ls v == v)) v) = o at *
          generalize (!anyB (fun v => anyB (fun u => M u == M v) v) v) = p at *
          have HO2 : Hid ((!anyB (fun v => !(ls v == v)) (v + 1)) = (o && (((ls v : Nat) : Int) == (v : Int)))) := Lib.hid (by rw [HS1.out, Bool.not_not, show (((ls v : Nat) : Int) == (v : Int)) = (ls v == v) from by rw [Bool.eq_iff_iff]; simp; omega])
          generalize ls v = lv at *
          have d2 := Lib.hid d0
          cases o
          all_goals
            go_wp2_with fail
            have hK5 := hK
            clear hlv d0 d1
            obtain ⟨wd, rfl⟩ : ∃ wd : World, wd = wr := ⟨_, rfl⟩
            go_loopw [8, 10] (fun q i wi => ∃ u : Nat, u ≤ v ∧ i = .int .i64 u ∧ q = .bool (p && !anyB (fun u => M u == M v) u) ∧ Keeps wd wi) (fun _ i _ => v - (intOf i).toNat)
            case atStart => exact ⟨0, by omega, rfl, by simp [anyB], Keeps.refl _⟩
            case round =>
              obtain ⟨u, hu, rfl, rfl, hKi⟩ := hrel
              have hK6 := hK5.step hKi
              have d0 := cell_keeps hK6 C0.out
              have d1 := cell_keeps hK6 C1.out
              by_cases hltu : u < v
              · have hui : (u : Int) < v := by omega
                have humi : (u : Int) < m := by omega
                obtain ⟨bM, oM, rfl, hcu0⟩ := HMK.out u (by omega)
                obtain ⟨_, _, e, hcv0⟩ := HMK.out v hlt
                cases e
                have hcu := cell_keeps hK6 hcu0
                have hcv := cell_keeps hK6 hcv0
                have HM := HMM.out
                have HS3 := Lib.hid (not_any (fun u => M u == M v) u)
                have hmi : (u : Int) < mm := by omega
                have hmv : (v : Int) < mm := by omega
                clear hcu0 hcv0 HM
                generalize (!anyB (fun u => M u == M v) u) = t at *
                generalize M u = xu at *
                generalize M v = xv at *
                cases hpt : p && t
                · have HQ : Hid ((p && (t && !(xu == xv))) = false) := Lib.hid (by rw [← Bool.and_assoc, hpt]; rfl)
                  clear hpt
                  go_wp2_with fail
                  go_quiet (fail)
                  go_wp2
                  go_roundw
                  case rel => exact ⟨u + 1, by omega, by go_num, by rw [HS3.out, HQ.out], hKi.step (Keeps.drewN _ _)⟩
                  case measure => simp [intOf]; omega
                · have HQ : Hid ((p && (t && !(xu == xv))) = !(xu == xv)) := Lib.hid (by rw [← Bool.and_assoc, hpt]; simp)
                  clear hpt
                  go_wp2_with fail
                  go_quiet (fail)
                  go_wp2
                  go_roundw
                  case rel => exact ⟨u + 1, by omega, by go_num, by rw [HS3.out, HQ.out]; rfl, hKi.step (Keeps.drewN _ _)⟩
                  case measure => simp [intOf]; omega
              · obtain rfl : u = v := by omega
                go_wp2_with fail
                go_roundw
                case rel => exact ⟨u + 1, by omega, by go_num, by rw [HO2.out]; first | rfl | simp, by rw [HS2.out], hK6⟩
                case measure => simp [intOf]; omega
        · obtain rfl : v = m := by omega
          rw [← HBE.out]
          have hK4r := hK04.step hK
          have hmk := make_ints v (by omega)
          have kM := Keeps.alloc wr (.cells (madeCells #[.int .i64 0] v) 3)
          have CRR := Lib.hid (iRingOf_any (some ⟨wr.heap.size, 0, none⟩) v v (fun _ => 0) _ (by omega) (by have := OwnInts.make wr wr.heap.size v (Nat.le_refl _) (by omega); rw [il_zero] at this; exact il_ints this))
          go_wp2_with fail
          refine CRR.out.mono ?_
          intro e w5 hR
          have HB2 := HBB.out
          generalize (!anyB (fun v => anyB (fun u => M u == M v) v) v) = ap at *
          have hbq2 : (bb == bb) = true := by simp
          rcases hR with ⟨_, rfl, hk5⟩ | ⟨hro, A', B', cA', cB', r', rfl, hN', hk5⟩
          · have hKF := hK4r.step (kM.step hk5)
            clear kM hk5 CRR
            rcases HB2 with rfl | rfl
            · go_wp2
              go_ret
              exact ⟨rfl, hKK.step (hKF.step (Keeps.alloc _ _))⟩
            · cases bb
              all_goals
                go_wp2
                go_ret
                exact ⟨rfl, hKK.step (hKF.step (Keeps.alloc _ _))⟩
          · have h36 : 3 ≤ v ∧ v ≤ 6 := by rw [ringOk_zero] at hro; have := inB_true hro; omega
            have kk := Keeps.alloc w5 (.cells #[.slice A' v cA', .slice B' v cB'] 27)
            have CE := Lib.hid (iIsElectable_any A' B' v cA' v cB' r' (fun _ => 2) (ringX v) (fun _ => 0) _ (hN'.keeps kk))
            rw [ring_elect v h36.1 h36.2] at CE
            have g0 := box0 w5 (.slice A' v cA') (.slice B' v cB') 27
            have g1 := box1 w5 (.slice A' v cA') (.slice B' v cB') 27
            have hKF := hK4r.step ((kM.step hk5).step kk)
            clear kM hk5 kk CRR hN' hro
            rcases HB2 with rfl | rfl
            · go_wp2_with fail
              refine CE.out.mono ?_
              rintro e w6 ⟨rfl, hk6⟩
              go_wp2
              go_ret
              exact ⟨rfl, hKK.step (hKF.step hk6)⟩
            · cases bb
              all_goals
                go_wp2_with fail
                refine CE.out.mono ?_
                rintro e w6 ⟨rfl, hk6⟩
                go_wp2
                go_ret
                exact ⟨rfl, hKK.step (hKF.step hk6)⟩
end Go.Proofs.Ytdjilgbcpdlkfaa
