/-
  The walk of FnSettledAt: whatever the code is, it returns true, and nothing that was there turns. No condition.
-/
import Derived.Test.YtdjilgbcpdlkfaaDrawNet
import Derived.Test.YtdjilgbcpdlkfaaNetFin
import Derived.Test.YtdjilgbcpdlkfaaClsLaw
import Derived.Test.YtdjilgbcpdlkfaaEqG
import Derived.Deep.RegionHeld3
import Derived.Deep.CutBlock
import Derived.Deep.DeepCutAuto
namespace Go.Proofs.Ytdjilgbcpdlkfaa
open Go.RowKit

set_option maxRecDepth 100000 in
set_option maxHeartbeats 8000000 in
theorem FnSettledAt_walk (a : Option Addr) (n c : Nat) (w : World) (hB : Bytes w w.heap.size a n) (hc : n ≤ c) (hc2 : c ≤ 9223372036854775807) :
    Calls Try.prog 11 #[.slice a n c] w fun e w' => e = .returned (.bool true) ∧ Keeps w w' := by
  have HB := Lib.hid hB
  clear hB
  by_cases hn : 1048576 < n
  · go_enter Try.func11, Try.ntmps11
    go_wp2
    go_ret
    exact ⟨rfl, Keeps.refl _⟩
  · go_enter Try.func11, Try.ntmps11
    go_wp2_with fail
    refine (drawSettledAt_any a n c _ HB.out (by omega) hc hc2).mono ?_
    rintro e w1 ⟨m, mm, A, B, cA, cB, r, L, X, M, rfl, hN, hL, hm1, hm6, hmm, hK1⟩
    have kk := Keeps.alloc w1 (.cells #[.slice A m cA, .slice B mm cB] 27)
    have b0 := box0 w1 (.slice A m cA) (.slice B mm cB) 27
    have b1 := box1 w1 (.slice A m cA) (.slice B mm cB) 27
    have HL := Lib.hid hL
    have HN := Lib.hid (hN.keeps kk)
    have hKK := hK1.step kk
    clear hN hL hK1 kk
    go_wp2_with fail
    generalize hw0 : w1.alloc (.cells #[.slice A m cA, .slice B mm cB] 27) = w0 at *
    generalize hV : w1.heap.size = V at *
    clear hw0 hV w1
    have CI := Lib.hid (fun w' (hK : Keeps w0 w') => iSettledAt_any A B m cA mm cB r L X M w' (HN.out.keeps hK))
    have CS := Lib.hid (fun w' (hK : Keeps w0 w') => sSettledAt_any A B m cA mm cB r L X M w' (HN.out.keeps hK))
    have CC := Lib.hid (fun (s : Int) w' (hK : Keeps w0 w') => iClassesAt_any A B m cA mm cB r L X M s w' (HN.out.keeps hK))
    cases hb : netB m L X mm M
    · have hw : settleI m L X mm M = -1 := by unfold settleI; rw [hb]; rfl
      rw [hw] at CI CS
      clear hb hw CC
      refine (CI.out _ (Keeps.refl _)).mono ?_
      rintro e w1 ⟨rfl, hk1⟩
      have c0 := cell_keeps hk1 b0
      have c1 := cell_keeps hk1 b1
      go_wp2_with fail
      refine (CS.out _ hk1).mono ?_
      rintro e w2 ⟨rfl, hk2⟩
      have d0 := cell_keeps hk2 c0
      have d1 := cell_keeps hk2 c1
      go_wp2_with fail
      refine (CS.out _ (hk1.step hk2)).mono ?_
      rintro e w3 ⟨rfl, hk3⟩
      go_wp2
      go_ret
      exact ⟨rfl, hKK.step ((hk1.step hk2).step hk3)⟩
    · have ok := net_true hb
      have hw : settleI m L X mm M = (settleF L (portT X) M m : Nat) := by unfold settleI; rw [hb]; rfl
      have hlt := settle_lt (L := L) (T := portT X) (M := M) ok.lo
      have HT : Hid (∀ v, v < m → clsF L (portT X) M (settleF L (portT X) M m) v = clsF L (portT X) M 6 v) := Lib.hid (fun v hv => settle_true ok v hv)
      have HD : Hid (∀ k, settleF L (portT X) M m = k + 1 → ∃ v, v < m ∧ clsF L (portT X) M k v ≠ clsF L (portT X) M 6 v) := Lib.hid (fun k h => settle_differs ok k h)
      have HCL : Hid (∀ k : Nat, k ≤ 6 → clsL m L X mm M k = il m (fun v => (clsF L (portT X) M k v : Nat))) := Lib.hid (fun k hk => cls_list hb k hk rfl)
      rw [hw] at CI CS
      clear hb hw ok
      generalize settleF L (portT X) M m = st at *
      refine (CI.out _ (Keeps.refl _)).mono ?_
      rintro e w1 ⟨rfl, hk1⟩
      have c0 := cell_keeps hk1 b0
      have c1 := cell_keeps hk1 b1
      go_wp2_with fail
      refine (CS.out _ hk1).mono ?_
      rintro e w2 ⟨rfl, hk2⟩
      have hK02 := hk1.step hk2
      have d0 := cell_keeps hk2 c0
      have d1 := cell_keeps hk2 c1
      clear b0 b1 c0 c1 CI CS hk1 hk2
      go_wp2_with fail
      refine (CC.out _ _ hK02).mono ?_
      intro e w3 hG
      obtain ⟨gl, cl, rfl, hL3, hk3⟩ := hG.get (HCL.out 6 (by omega)) hm1
      have hK03 := hK02.step hk3
      have HL3 := Lib.hid hL3
      have e0 := cell_keeps hk3 d0
      have e1 := cell_keeps hk3 d1
      have hsti : (st : Int) < m := by omega
      clear hG hL3 hk3 d0 d1 hK02
      go_wp2_with fail
      refine (CC.out _ _ hK03).mono ?_
      intro e w4 hG
      obtain ⟨g4, c4, rfl, hL4, hk4⟩ := hG.get (HCL.out st (by omega)) hm1
      have hK04 := hK03.step hk4
      have f0 := cell_keeps hk4 e0
      have f1 := cell_keeps hk4 e1
      have CE := Lib.hid (leInts_any (some ⟨g4, 0, none⟩) (some ⟨gl, 0, none⟩) m c4 cl _ _ w4 (by omega) (il_ints hL4) (il_ints (HL3.out.keeps hk4)))
      have hv1 : anyB (fun i => ((clsF L (portT X) M st i : Nat) : Int) != ((clsF L (portT X) M 6 i : Nat) : Int)) m = false := (anyB_false _ _).2 (fun i hi => by rw [HT.out i hi]; simp)
      rw [hv1] at CE
      have HL4 := Lib.hid (HL3.out.keeps hk4)
      clear hG hL4 hk4 hK03 e0 e1 HL3 hv1
      go_wp2_with fail
      refine CE.out.mono ?_
      rintro e w5 ⟨rfl, hk5⟩
      have h0 := cell_keeps hk5 f0
      have h1 := cell_keeps hk5 f1
      have HL5 := Lib.hid (HL4.out.keeps hk5)
      have hK05 := hK04.step hk5
      clear hk5 f0 f1 HL4 hK04 CE
      by_cases hs0 : st = 0
      · subst hs0
        go_wp2
        go_ret
        exact ⟨rfl, hKK.step hK05⟩
      · obtain ⟨k, rfl⟩ : ∃ k, st = k + 1 := ⟨st - 1, by omega⟩
        have hne : ((((k + 1 : Nat) : Int)) == 0) = false := by simp; omega
        have hwr : IntKind.i64.wrap (((k + 1 : Nat) : Int) - 1) = (k : Int) := by rw [IntKind.wrap_i64]; omega
        have CC2 : Hid (∀ z : Int, z = (k : Int) → Calls Try.prog 31 #[.agg #[.slice A m cA, .slice B mm cB], .int .i64 z] w5 (GiveL (clsL m L X mm M k) w5)) := Lib.hid (fun z hz => by subst hz; exact CC.out _ _ hK05)
        go_wp2_with fail
        refine (CC2.out _ (by omega)).mono ?_
        intro e w6 hG
        obtain ⟨g6, c6, rfl, hL6, hk6⟩ := hG.get (HCL.out k (by omega)) hm1
        have CE := Lib.hid (leInts_any (some ⟨g6, 0, none⟩) (some ⟨gl, 0, none⟩) m c6 cl _ _ w6 (by omega) (il_ints hL6) (il_ints (HL5.out.keeps hk6)))
        have hv1 : anyB (fun i => ((clsF L (portT X) M k i : Nat) : Int) != ((clsF L (portT X) M 6 i : Nat) : Int)) m = true := by
          obtain ⟨v, hv, hd⟩ := HD.out k rfl
          exact (anyB_iff _ _).2 ⟨v, hv, by simp; omega⟩
        rw [hv1] at CE
        clear hG hL6 hv1
        go_wp2_with fail
        refine CE.out.mono ?_
        rintro e w7 ⟨rfl, hk7⟩
        go_wp2
        go_ret
        exact ⟨rfl, hKK.step ((hK05.step hk6).step hk7)⟩
end Go.Proofs.Ytdjilgbcpdlkfaa
