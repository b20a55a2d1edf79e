/-
  The walk of FnWakeOf: whatever the code is, it returns true, and nothing that was there turns. No condition.
-/
import Derived.Test.YtdjilgbcpdlkfaaDrawNet
import Derived.Test.YtdjilgbcpdlkfaaNetFin
import Derived.Test.YtdjilgbcpdlkfaaLog
import Derived.Test.YtdjilgbcpdlkfaaSWakeO
import Derived.Deep.RegionHeld3
import Derived.Deep.CutBlock
import Derived.Deep.DeepCutAuto
namespace Go.Proofs.Ytdjilgbcpdlkfaa
open Go.RowKit

set_option maxRecDepth 100000 in
set_option maxHeartbeats 8000000 in
theorem FnWakeOf_walk (a : Option Addr) (n c : Nat) (w : World) (hB : Bytes w w.heap.size a n) (hc : n ≤ c) (hc2 : c ≤ 9223372036854775807) :
    Calls Try.prog 9 #[.slice a n c] w fun e w' => e = .returned (.bool true) ∧ Keeps w w' := by
  have HB := Lib.hid hB
  clear hB
  by_cases hn : 1048576 < n
  · go_enter Try.func9, Try.ntmps9
    go_wp2
    go_ret
    exact ⟨rfl, Keeps.refl _⟩
  · go_enter Try.func9, Try.ntmps9
    go_wp2_with fail
    refine (drawWakeOf_any a n c _ HB.out (by omega) hc hc2).mono ?_
    rintro e w1 ⟨m, mm, A, B, cA, cB, r, L, X, M, s, rfl, hN, hL, hm1, hm6, hmm, hs1, hs2, hK1⟩
    have kk := Keeps.alloc w1 (.cells #[.slice A m cA, .slice B mm cB] 27)
    have b0 := box0 w1 (.slice A m cA) (.slice B mm cB) 27
    have b1 := box1 w1 (.slice A m cA) (.slice B mm cB) 27
    have HL := Lib.hid hL
    have HN := Lib.hid (hN.keeps kk)
    have hKK := hK1.step kk
    clear hN hL hK1 kk
    go_wp2_with fail
    generalize hw0 : w1.alloc (.cells #[.slice A m cA, .slice B mm cB] 27) = w0 at *
    generalize hV : w1.heap.size = V at *
    clear hw0 hV w1
    have CI := Lib.hid (fun w' (hK : Keeps w0 w') => iWakeOf_any A B m cA mm cB r L X M s w' (HN.out.keeps hK))
    have CS := Lib.hid (fun w' (hK : Keeps w0 w') => sWakeOf_any A B m cA mm cB r L X M s w' (HN.out.keeps hK))
    have CF := Lib.hid (fun w' (hK : Keeps w0 w') => iFarsOf_any (A := A) (B := B) (m := m) (c := cA) (mm := mm) (d := cB) (r := r) (L := L) (X := X) (M := M) s w' (HN.out.keeps hK))
    cases hb : nodeB m L X mm M s
    · have hw : wakeI m L X mm M s = -1 := by unfold wakeI; rw [hb]; rfl
      rw [hw] at CI CS
      clear hb hw CF
      refine (CI.out _ (Keeps.refl _)).mono ?_
      rintro e w1 ⟨rfl, hk1⟩
      have c0 := cell_keeps hk1 b0
      have c1 := cell_keeps hk1 b1
      go_wp2_with fail
      refine (CS.out _ hk1).mono ?_
      rintro e w2 ⟨rfl, hk2⟩
      have d0 := cell_keeps hk2 c0
      have d1 := cell_keeps hk2 c1
      go_wp2_with fail
      refine (CS.out _ (hk1.step hk2)).mono ?_
      rintro e w3 ⟨rfl, hk3⟩
      go_wp2
      go_ret
      exact ⟨rfl, hKK.step ((hk1.step hk2).step hk3)⟩
    · obtain ⟨hnb, k, rfl, hkm⟩ := node_true hb
      have ok := net_true hnb
      have hw : wakeI m L X mm M k = (wakeF L (portT X) m k : Nat) := by unfold wakeI; rw [hb]; rfl
      have HFL := Lib.hid (fars_list hnb k hkm)
      have HFAR : Hid (∀ v, v < m → 0 ≤ farF m L (portT X) k v ∧ farF m L (portT X) k v ≤ (wakeF L (portT X) m k : Nat)) := Lib.hid (fun v hv => ⟨net_far ok k hkm v hv, wake_far ok.node ok.back ok.reach hkm v hv⟩)
      have hlt := wake_lt ok.node ok.back ok.reach hkm
      have HDBL := Lib.hid (wake_dbl ok.node ok.back ok.reach hkm)
      rw [hw] at CI CS
      have hki : (k : Int) < m := by omega
      have CLG := Lib.hid (fun w' => llog_any m w' (by omega))
      clear hb hnb hw ok
      generalize wakeF L (portT X) m k = wk at *
      refine (CI.out _ (Keeps.refl _)).mono ?_
      rintro e w1 ⟨rfl, hk1⟩
      have c0 := cell_keeps hk1 b0
      have c1 := cell_keeps hk1 b1
      go_wp2_with fail
      refine (CS.out _ hk1).mono ?_
      rintro e w2 ⟨rfl, hk2⟩
      have hK02 := hk1.step hk2
      have d0 := cell_keeps hk2 c0
      have d1 := cell_keeps hk2 c1
      clear b0 b1 c0 c1 CI CS hk1 hk2
      go_wp2_with fail
      refine (CF.out _ hK02).mono ?_
      intro e w3 hG
      obtain ⟨gf, cf, rfl, hF, hk3⟩ := hG.get HFL.out hm1
      have HF := Lib.hid hF
      have hK03 := hK02.step hk3
      clear hG hF hk3 hK02 d0 d1 CF HFL
      generalize farF m L (portT X) k = far at *
      go_wp2_with fail
      go_loop [7, 8] (fun z i => ∃ (v : Nat) (x : Int), v ≤ m ∧ i = .int .i64 v ∧ z = .int .i64 x ∧ 0 ≤ x ∧ x ≤ (wk : Int)) (fun _ i => m - (intOf i).toNat)
      case atStart => exact ⟨0, 0, by omega, rfl, rfl, by omega, by omega⟩
      case round =>
        obtain ⟨v, x, hv, rfl, rfl, hx0, hx1⟩ := hrel
        by_cases hltv : v < m
        · have hvi : (v : Int) < m := by omega
          have hcv := HF.out.cell v hltv
          rw [il_getD m _ v hltv] at hcv
          have hfb := HFAR.out v hltv
          have hf0 := hfb.1
          have hf1 := hfb.2
          clear hfb
          generalize far v = fv at *
          by_cases h : fv ≤ x
          · have h' : ¬ x < fv := by omega
            go_wp2
            go_round
            case rel => exact ⟨v + 1, x, by omega, by go_num, rfl, hx0, hx1⟩
            case measure => simp [intOf]; omega
          · have h' : x < fv := by omega
            go_wp2
            go_round
            case rel => exact ⟨v + 1, fv, by omega, by go_num, rfl, hf0, hf1⟩
            case measure => simp [intOf]; omega
        · obtain rfl : v = m := by omega
          have hmx : (wk : Int) < max (v : Int) 1 := by omega
          go_wp2_with fail
          refine (CLG.out _).mono ?_
          rintro e w4 ⟨g, hg1, hg2, rfl, rfl⟩
          have hgw := log_le hg2 HDBL.out
          have hgi : (g : Int) ≤ (wk : Int) := by omega
          clear hg2 hgw hg1
          go_wp2
          go_ret
          exact ⟨by simp, hKK.step hK03⟩
end Go.Proofs.Ytdjilgbcpdlkfaa
