/-
  The walk of FnIsAgreed: whatever the code is, it returns true, and nothing that was there turns. No condition.
-/
import Derived.Test.YtepgogaoppdllaaAgreed
import Derived.Test.YtepgogaoppdllaaDrawnR
namespace Go.Proofs.Ytepgogaoppdllaa
open Go.RowKit

set_option maxRecDepth 100000 in
set_option maxHeartbeats 8000000 in
theorem FnIsAgreed_walk (a : Option Addr) (n c : Nat) (w : World) (hB : Bytes w w.heap.size a n) (hc : n ≤ c) (hc2 : c ≤ 9223372036854775807) :
    Calls Try.prog 10 #[.slice a n c] w fun e w' => e = .returned (.bool true) ∧ Keeps w w' := by
  have HB := Lib.hid hB
  clear hB
  by_cases hn : 1048576 < n
  · go_enter Try.func10, Try.ntmps10
    go_wp2
    go_ret
    exact ⟨rfl, Keeps.refl _⟩
  · go_enter Try.func10, Try.ntmps10
    go_wp2_with fail
    refine (drawIsAgreed_any a n c _ HB.out (by omega) hc hc2).mono ?_
    rintro e w1 ⟨N, m, A, S, k, d, l, zs, r, rfl, hO, hS, hN, hm, hr1, hr2, hK1⟩
    have HI := Lib.hid hO.ints
    have HS := Lib.hid hS.stops
    clear hO hS
    generalize (fun i => l.getD i 0) = x at *
    generalize stopsOf zs = st at *
    have kk := Keeps.alloc w1 (.cells #[.slice A N k, .slice S m d] 26)
    go_wp2_with fail
    refine (isAgreed_any A S N k m d r x st _ (by omega) (by omega) (HI.out.keeps kk) (HS.out.keeps kk)).mono ?_
    rintro e w2 ⟨rfl, hK2⟩
    have c0 := cell_keeps hK2 (box0 w1 (.slice A N k) (.slice S m d) 26)
    have c1 := cell_keeps hK2 (box1 w1 (.slice A N k) (.slice S m d) 26)
    have HI2 := Lib.hid ((HI.out.keeps kk).keeps hK2)
    have HS2 := Lib.hid ((HS.out.keeps kk).keeps hK2)
    have hKK2 := (hK1.step kk).step hK2
    clear hK1 hK2 kk
    generalize w1.heap.size = V at *
    go_wp2_with fail
    refine (sisAgreed_any A S N k m d r x st _ (by omega) (by omega) HI2.out HS2.out).mono ?_
    rintro e w3 ⟨rfl, hK3⟩
    have c30 := cell_keeps hK3 c0
    have c31 := cell_keeps hK3 c1
    have HI3 := Lib.hid (HI2.out.keeps hK3)
    have HS3 := Lib.hid (HS2.out.keeps hK3)
    have hKK3 := hKK2.step hK3
    clear c0 c1 hK3 hKK2
    have HIS := Lib.hid (show isAgr N x m st r = (okB N x m st r && agrB N (dec N x m st r.toNat)) from rfl)
    have hne : (isAgr N x m st r != isAgr N x m st r) = false := by simp
    have heq : (isAgr N x m st r == isAgr N x m st r) = true := by simp
    have CSP : Hid (∀ w', Keeps w3 w' → Calls Try.prog 38 #[.agg #[.slice A N k, .slice S m d], .int .i64 r] w' fun e w'' => e = .returned (.bool (isAgr N x m st r)) ∧ Keeps w' w'') := Lib.hid (fun w' hk => sisAgreed_any A S N k m d r x st w' (by omega) (by omega) (HI3.out.keeps hk) (HS3.out.keeps hk))
    cases hrun : runB N x m st
    · have HR := Lib.hid hrun
      generalize isAgr N x m st r = b at *
      go_wp2_with fail
      refine (validRun_any A S N k m d x st _ (by omega) (by omega) HI3.out HS3.out).mono ?_
      rintro e w4 ⟨rfl, hK4⟩
      rw [HR.out]
      have c40 := cell_keeps hK4 c30
      have c41 := cell_keeps hK4 c31
      go_wp2_with fail
      refine (CSP.out _ hK4).mono ?_
      rintro e w5 ⟨rfl, hK5⟩
      go_wp2
      go_ret
      exact ⟨rfl, hKK3.step (hK4.step hK5)⟩
    · have HR := Lib.hid hrun
      by_cases hr0 : r < 0
      · generalize isAgr N x m st r = b at *
        go_wp2_with fail
        refine (validRun_any A S N k m d x st _ (by omega) (by omega) HI3.out HS3.out).mono ?_
        rintro e w4 ⟨rfl, hK4⟩
        rw [HR.out]
        have c40 := cell_keeps hK4 c30
        have c41 := cell_keeps hK4 c31
        go_wp2_with fail
        refine (CSP.out _ hK4).mono ?_
        rintro e w5 ⟨rfl, hK5⟩
        go_wp2
        go_ret
        exact ⟨rfl, hKK3.step (hK4.step hK5)⟩
      · by_cases hr4 : 4 < r
        · generalize isAgr N x m st r = b at *
          go_wp2_with fail
          refine (validRun_any A S N k m d x st _ (by omega) (by omega) HI3.out HS3.out).mono ?_
          rintro e w4 ⟨rfl, hK4⟩
          rw [HR.out]
          have c40 := cell_keeps hK4 c30
          have c41 := cell_keeps hK4 c31
          go_wp2_with fail
          refine (CSP.out _ hK4).mono ?_
          rintro e w5 ⟨rfl, hK5⟩
          go_wp2
          go_ret
          exact ⟨rfl, hKK3.step (hK4.step hK5)⟩
        · obtain ⟨R, rfl⟩ := Int.eq_ofNat_of_zero_le (show 0 ≤ r by omega)
          have hR : R ≤ 4 := by omega
          have hok : okB N x m st R = true := by unfold okB; rw [hrun, inB_mk (show (0 : Int) ≤ (R : Int) by omega) (by omega)]; rfl
          have HDL : Hid (decL N x m st R = il N (dec N x m st R)) := Lib.hid (by unfold decL; rw [hok]; rfl)
          have hIS : isAgr N x m st R = agrB N (dec N x m st R) := by rw [HIS.out, hok]; rfl
          have HFEW : Hid (agrB N (dec N x m st R) = false → ¬ ((m : Int) < R)) := Lib.hid (fun h hlt => by rw [agree_few hrun R hR (by omega)] at h; cases h)
          have HSAME : Hid (agrB N (dec N x m st R) = false → agrB N x = false) := Lib.hid (fun h => by
            cases e : agrB N x
            · rfl
            · rw [agree_same hrun R e] at h; cases h)
          rw [hIS] at hne heq ⊢
          clear HIS CSP hIS
          generalize hbb : agrB N (dec N x m st R) = b at *
          have HBB := Lib.hid hbb
          clear hbb hrun hok
          go_wp2_with fail
          refine (validRun_any A S N k m d x st _ (by omega) (by omega) HI3.out HS3.out).mono ?_
          rintro e w4 ⟨rfl, hK4⟩
          rw [HR.out]
          have c40 := cell_keeps hK4 c30
          have c41 := cell_keeps hK4 c31
          have HI4 := Lib.hid (HI3.out.keeps hK4)
          have HS4 := Lib.hid (HS3.out.keeps hK4)
          go_wp2_with fail
          refine (decisionsAfter_any A S N k m d R x st _ (by omega) (by omega) HI4.out HS4.out).mono ?_
          intro e w5 hA
          obtain ⟨D, cd, rfl, hO5, hK5⟩ := hA
          rw [HDL.out] at hO5 ⊢
          rw [il_len] at hO5 ⊢
          have hI5 : Ints w5 D N (dec N x m st R) := fun i hi => by
            obtain ⟨b, off, e, hc⟩ := hO5.ints i hi
            exact ⟨b, off, e, by dsimp only at hc; rw [il_getD _ _ _ hi] at hc; exact hc⟩
          have HI5 := Lib.hid hI5
          clear hO5 hI5
          go_wp2_with fail
          refine (sameVoice_any D N cd (dec N x m st R) _ (by omega) HI5.out).mono ?_
          rintro e w6 ⟨rfl, hK6⟩
          rw [HBB.out]
          have kk6 := hK4.step (hK5.step hK6)
          have c60 := cell_keeps kk6 c30
          have c61 := cell_keeps kk6 c31
          cases b
          · have hge : (R : Int) ≤ m := by have := HFEW.out rfl; omega
            have HSV := Lib.hid (HSAME.out rfl)
            go_wp2_with fail
            refine (sameVoice_any A N k x _ (by omega) (HI3.out.keeps kk6)).mono ?_
            rintro e w7 ⟨rfl, hK7⟩
            rw [HSV.out]
            go_wp2
            go_ret
            exact ⟨rfl, hKK3.step (kk6.step hK7)⟩
          · go_wp2
            go_ret
            exact ⟨rfl, hKK3.step kk6⟩
end Go.Proofs.Ytepgogaoppdllaa
