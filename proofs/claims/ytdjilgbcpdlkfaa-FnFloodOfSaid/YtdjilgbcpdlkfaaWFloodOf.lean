/-
  The walk of FnFloodOf: whatever the code is, it returns true, and nothing that was there turns. No condition.
-/
import Derived.Test.YtdjilgbcpdlkfaaDrawNet
import Derived.Test.YtdjilgbcpdlkfaaNetFin
import Derived.Test.YtdjilgbcpdlkfaaFlood
import Derived.Test.YtdjilgbcpdlkfaaEq
import Derived.Test.YtdjilgbcpdlkfaaExactSS
import Derived.Deep.RegionHeld3
import Derived.Deep.CutBlock
import Derived.Deep.DeepCutAuto
namespace Go.Proofs.Ytdjilgbcpdlkfaa
open Go.RowKit

set_option maxRecDepth 100000 in
set_option maxHeartbeats 8000000 in
theorem FnFloodOf_walk (a : Option Addr) (n c : Nat) (w : World) (hB : Bytes w w.heap.size a n) (hc : n ≤ c) (hc2 : c ≤ 9223372036854775807) :
    Calls Try.prog 7 #[.slice a n c] w fun e w' => e = .returned (.bool true) ∧ Keeps w w' := by
  have HB := Lib.hid hB
  clear hB
  by_cases hn : 1048576 < n
  · go_enter Try.func7, Try.ntmps7
    go_wp2
    go_ret
    exact ⟨rfl, Keeps.refl _⟩
  · go_enter Try.func7, Try.ntmps7
    go_wp2_with fail
    refine (drawFloodOf_any a n c _ HB.out (by omega) hc hc2).mono ?_
    rintro e w1 ⟨m, mm, A, B, cA, cB, r, L, X, M, s, rfl, hN, hL, hm1, hm6, hmm, hs1, hs2, hK1⟩
    have kk := Keeps.alloc w1 (.cells #[.slice A m cA, .slice B mm cB] 27)
    have b0 := box0 w1 (.slice A m cA) (.slice B mm cB) 27
    have b1 := box1 w1 (.slice A m cA) (.slice B mm cB) 27
    have HL := Lib.hid hL
    have HN := Lib.hid (hN.keeps kk)
    have hKK := hK1.step kk
    clear hN hL hK1 kk
    go_wp2_with fail
    generalize hw0 : w1.alloc (.cells #[.slice A m cA, .slice B mm cB] 27) = w0 at *
    generalize hV : w1.heap.size = V at *
    clear hw0 hV w1
    have CI := Lib.hid (fun w' (hK : Keeps w0 w') => iFloodOf_any (A := A) (B := B) (m := m) (c := cA) (mm := mm) (d := cB) (r := r) (L := L) (X := X) (M := M) s w' (HN.out.keeps hK))
    have CS := Lib.hid (fun w' (hK : Keeps w0 w') => sFloodOf_any (A := A) (B := B) (m := m) (c := cA) (mm := mm) (d := cB) (r := r) (L := L) (X := X) (M := M) s w' (HN.out.keeps hK))
    have CF := Lib.hid (fun w' (hK : Keeps w0 w') => iFarsOf_any (A := A) (B := B) (m := m) (c := cA) (mm := mm) (d := cB) (r := r) (L := L) (X := X) (M := M) s w' (HN.out.keeps hK))
    refine (CI.out _ (Keeps.refl _)).mono ?_
    rintro e w1 ⟨oA, oc, rfl, hO, hk1⟩
    have c0 := cell_keeps hk1 b0
    have c1 := cell_keeps hk1 b1
    have hlen := floodL_len m L X mm M s
    go_wp2_with fail
    refine (CS.out _ hk1).mono ?_
    rintro e w2 ⟨pA, pc, rfl, hP, hk2⟩
    have hO2 := hO.keeps hk2
    have HE := Lib.hid (fun w' (kk : Keeps w2 w') => eInts_true oA pA (floodL m L X mm M s).length oc pc _ _ w' (by omega) ((hO2.keeps kk).ints) ((hP.keeps kk).ints) (fun _ _ => rfl))
    have d0 := cell_keeps hk2 c0
    have d1 := cell_keeps hk2 c1
    have hK02 := hk1.step hk2
    clear c0 c1 hk1 hk2 b0 b1 hO hP CI CS
    cases hb : nodeB m L X mm M s
    · have hI : floodI m L X mm M s = -1 := by unfold floodI; rw [hb]; rfl
      rw [hI]
      clear hI hb
      generalize (floodL m L X mm M s).length = ln at *
      go_wp2_with fail
      refine (HE.out _ (Keeps.refl _)).mono ?_
      rintro e w3 ⟨rfl, hk3⟩
      go_wp2_with fail
      refine (HE.out _ hk3).mono ?_
      rintro e w4 ⟨rfl, hk4⟩
      go_wp2
      go_ret
      exact ⟨rfl, hKK.step (hK02.step (hk3.step hk4))⟩
    · obtain ⟨hnb, k, rfl, hkm⟩ := node_true hb
      have HNB := Lib.hid hnb
      have HOK := Lib.hid (net_true hnb)
      have hl : floodL m L X mm M k = il m (fun v => pickF (farF m L (portT X) k) (portT X) v (L v)) := by unfold floodL; rw [hb]; rfl
      have hI : floodI m L X mm M k = tellF L k m := by unfold floodI; rw [hb]; rfl
      have hll : (floodL m L X mm M k).length = m := by rw [hl]; exact il_len _ _
      rw [hll] at hO2 HE ⊢
      rw [hl] at hO2
      rw [hI]
      obtain ⟨go, rfl⟩ := hO2.at hm1
      have HTB := Lib.hid (tell_fin L k m (by omega) (fun v hv => by have := HL.out v hv; omega))
      have htm := tell_in L k m m (by omega) (by omega) (fun v hv => net_deg HOK.out v hv)
      have HTE := Lib.hid (HTB.out.2 m (Nat.le_refl _))
      have HT0 : Hid (¬ tellF L k m < 0) := Lib.hid (by
        have := HTE.out
        rw [if_pos hkm] at this
        have hdeg := sum_ge HOK.out m (Nat.le_refl _)
        omega)
      have hT0 := HT0.out
      have HTV : Hid (tellF L k m = (sumTo L m : Nat) - ((m : Int) - 1)) := Lib.hid (by have := HTE.out; rw [if_pos hkm] at this; omega)
      have HO2 := Lib.hid hO2
      have hlist := fars_list hnb k hkm
      have HFL := Lib.hid hlist
      have HPK : Hid (∀ v, v < m → (v = k ∧ pickF (farF m L (portT X) k) (portT X) v (L v) = -1) ∨ (v ≠ k ∧ ∃ p : Nat, p < L v ∧ pickF (farF m L (portT X) k) (portT X) v (L v) = p ∧ farF m L (portT X) k (portT X v p) = farF m L (portT X) k v - 1)) := Lib.hid (fun v hv => by
        by_cases e : v = k
        · subst e
          exact .inl ⟨rfl, pick_src HOK.out v hkm⟩
        · have h0 := (pick_iff HOK.out k hkm v hv).2 e
          have h1 := pick_in (farF m L (portT X) k) (portT X) v (L v)
          have h2 := pick_at (farF m L (portT X) k) (portT X) v (L v) h0
          refine .inr ⟨e, (pickF (farF m L (portT X) k) (portT X) v (L v)).toNat, by omega, by omega, h2⟩)
      have HFB : Hid (∀ u, u < m → 0 ≤ farF m L (portT X) k u ∧ farF m L (portT X) k u < m) := Lib.hid (fun u hu => ⟨net_far HOK.out k hkm u hu, dist_lt (far_dist m L (portT X) k).pred u hu⟩)
      have hki : (k : Int) < m := by omega
      clear hO2 hl hll hb hnb hlen hI hlist htm
      generalize htt : tellF L k m = tt at *
      clear htt
      go_wp2_with fail
      refine (HE.out _ (Keeps.refl _)).mono ?_
      rintro e w3 ⟨rfl, hk3⟩
      have hK03 := hK02.step hk3
      have e0 := cell_keeps hk3 d0
      have e1 := cell_keeps hk3 d1
      have HO3 := Lib.hid (HO2.out.keeps hk3)
      clear HE hk3 d0 d1 HO2 hK02
      go_wp2_with fail
      refine (CF.out _ hK03).mono ?_
      intro e w4 hG
      obtain ⟨gf, cf, rfl, hF, hk4⟩ := hG.get HFL.out hm1
      have HF4 := Lib.hid hF
      have HO4 := Lib.hid (HO3.out.keeps hk4)
      have hK04 := hK03.step hk4
      have C0 := Lib.hid (cell_keeps hk4 e0)
      have C1 := Lib.hid (cell_keeps hk4 e1)
      have HN4 := Lib.hid (HN.out.keeps hK04)
      clear hG hF hk4 e0 e1 HO3 hK03 CF HN
      generalize farF m L (portT X) k = far at *
      go_wp2_with fail
      obtain ⟨wo, rfl⟩ : ∃ wo : World, wo = w4 := ⟨_, rfl⟩
      go_loopw [10, 11] (fun g i wr => ∃ v : Nat, v ≤ m ∧ i = .int .i64 v ∧ g = .int .i64 ((sumTo L v : Nat) : Int) ∧ Keeps wo wr) (fun _ i _ => m - (intOf i).toNat)
      case atStart => exact ⟨0, by omega, rfl, rfl, Keeps.refl _⟩
      case round =>
        obtain ⟨v, hv, rfl, rfl, hK⟩ := hrel
        have d0 := cell_keeps hK C0.out
        have d1 := cell_keeps hK C1.out
        by_cases hlt : v < m
        · have hvi : (v : Int) < m := by omega
          obtain ⟨⟨bA, oA', eA, hcA0⟩, hrow⟩ := HN4.out.rows v hlt
          subst eA
          have hcA := cell_keeps hK hcA0
          have hLv := HN4.out.len v hlt
          have hcap := HN4.out.cap v hlt
          have hov := (HO4.out.keeps hK).cell v hlt
          rw [il_getD m _ v hlt] at hov
          have hfv := (HF4.out.keeps hK).cell v hlt
          rw [il_getD m _ v hlt] at hfv
          have hsum := sum_le L v 8 (fun i hi => HL.out i (by omega))
          have HSN := Lib.hid (show sumTo L (v + 1) = sumTo L v + L v from rfl)
          obtain ⟨ra, rn, rc, hrv⟩ : ∃ ra rn rc, r v = (ra, rn, rc) := ⟨_, _, _, rfl⟩
          rw [hrv] at hcA hrow hLv hcap
          dsimp only at hLv hcA hcap
          have hl8 := HL.out v hlt
          rw [← hLv] at HSN hl8
          have hsumn : ((sumTo L v : Nat) : Int) + (rn : Int) ≤ 100 := by omega
          have HSX : Hid (((sumTo L (v + 1) : Nat) : Int) = ((sumTo L v : Nat) : Int) + (rn : Int)) := Lib.hid (by rw [HSN.out]; omega)
          have hs0 : (0 : Int) ≤ ((sumTo L v : Nat) : Int) := by omega
          have HLV := Lib.hid hLv
          clear hLv
          generalize hsv : ((sumTo L v : Nat) : Int) = sv at *
          clear hsv hsum
          rcases HPK.out v hlt with ⟨hvk, hp⟩ | ⟨hvk, p, hpL, hp, hfar⟩
          · rw [hp] at hov
            subst hvk
            have hng : decide ((0 : Int) ≤ -1) = false := by decide
            clear hp hrv hcA0
            go_wp2_with fail
            go_quiet (fail)
            go_wp2_with fail
            go_roundw
            case rel => exact ⟨v + 1, by omega, by go_num, by rw [HSX.out], hK.step (Keeps.drewN _ _)⟩
            case measure => simp [intOf]; omega
          · rw [hp] at hov
            have hpr : p < rn := by have := HLV.out; omega
            obtain ⟨bR, oR, rfl, hcR0⟩ := hrow p hpr
            have hcR := cell_keeps hK hcR0
            have hX := HOK.out.port v p hlt hpL
            have hum := HOK.out.node v p hlt hpL
            rw [hX] at hcR
            have hou := (HF4.out.keeps hK).cell (portT X v p) hum
            rw [il_getD m _ _ hum, hfar] at hou
            have hvb : ((v : Int) == (k : Int)) = false := by simp; omega
            have hp0 : (0 : Int) ≤ (p : Int) := by omega
            have hpi : (p : Int) < rn := by omega
            have hpg : decide ((0 : Int) ≤ (p : Int)) = true := by simp
            have hpn : decide ((p : Int) < 0) = false := by simp
            have hfb := HFB.out v hlt
            have hf0 := hfb.1
            have hf1 := hfb.2
            generalize portT X v p = u at *
            have hui : (u : Int) < m := by omega
            generalize far v = fv at *
            have hwr : IntKind.i64.wrap (fv - 1) = fv - 1 := by rw [IntKind.wrap_i64]; omega
            clear hp hrv hcA0 hvk hpL hfar hcR0 hX hfb hrow
            go_wp2_with fail
            go_quiet (fail)
            go_wp2_with fail
            go_roundw
            case rel => exact ⟨v + 1, by omega, by go_num, by rw [HSX.out], hK.step (Keeps.drewN _ _)⟩
            case measure => simp [intOf]; omega
        · obtain rfl : v = m := by omega
          have hsum := sum_le L v 8 (fun i hi => HL.out i (by omega))
          have hTV := HTV.out
          have hm1i : (1 : Int) ≤ v := by omega
          have hs0 : (0 : Int) ≤ ((sumTo L v : Nat) : Int) := by omega
          have hs1 : ((sumTo L v : Nat) : Int) ≤ 100 := by omega
          generalize hsv : ((sumTo L v : Nat) : Int) = sv at *
          subst hTV
          clear hsv hsum
          go_wp2
          go_ret
          exact ⟨by simp, hKK.step (hK04.step hK)⟩
end Go.Proofs.Ytdjilgbcpdlkfaa
