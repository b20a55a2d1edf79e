/-
  The walk of FnDecisionsAfter: whatever the code is, it returns true, and nothing that was there turns. No condition.
-/
import Derived.Test.YtepgogaoppdllaaSeenLaw
import Derived.Test.YtepgogaoppdllaaDecs
import Derived.Test.YtepgogaoppdllaaDrawnR
namespace Go.Proofs.Ytepgogaoppdllaa
open Go.RowKit

set_option maxRecDepth 100000 in
set_option maxHeartbeats 8000000 in
theorem FnDecisionsAfter_walk (a : Option Addr) (n c : Nat) (w : World) (hB : Bytes w w.heap.size a n) (hc : n ≤ c) (hc2 : c ≤ 9223372036854775807) :
    Calls Try.prog 7 #[.slice a n c] w fun e w' => e = .returned (.bool true) ∧ Keeps w w' := by
  have HB := Lib.hid hB
  clear hB
  by_cases hn : 1048576 < n
  · go_enter Try.func7, Try.ntmps7
    go_wp2
    go_ret
    exact ⟨rfl, Keeps.refl _⟩
  · go_enter Try.func7, Try.ntmps7
    go_wp2_with fail
    refine (drawDecisionsAfter_any a n c _ HB.out (by omega) hc hc2).mono ?_
    rintro e w1 ⟨N, m, A, S, k, d, l, zs, r, rfl, hO, hS, hN, hm, hr1, hr2, hK1⟩
    have HI := Lib.hid hO.ints
    have HS := Lib.hid hS.stops
    clear hO hS
    generalize (fun i => l.getD i 0) = x at *
    generalize stopsOf zs = st at *
    have kk := Keeps.alloc w1 (.cells #[.slice A N k, .slice S m d] 26)
    go_wp2_with fail
    refine (decisionsAfter_any A S N k m d r x st _ (by omega) (by omega) (HI.out.keeps kk) (HS.out.keeps kk)).mono ?_
    intro e w2 hA
    obtain ⟨B, cb, rfl, hO2, hK2⟩ := hA
    have c0 := cell_keeps hK2 (box0 w1 (.slice A N k) (.slice S m d) 26)
    have c1 := cell_keeps hK2 (box1 w1 (.slice A N k) (.slice S m d) 26)
    have HI2 := Lib.hid ((HI.out.keeps kk).keeps hK2)
    have HS2 := Lib.hid ((HS.out.keeps kk).keeps hK2)
    have hKK2 := (hK1.step kk).step hK2
    clear hK1 hK2 kk
    generalize w1.heap.size = V at *
    go_wp2_with fail
    refine (sdecisionsAfter_any A S N k m d r x st _ (by omega) (by omega) HI2.out HS2.out).mono ?_
    intro e w3 hA
    obtain ⟨C, cc, rfl, hO3, hK3⟩ := hA
    have c30 := cell_keeps hK3 c0
    have c31 := cell_keeps hK3 c1
    cases hok : okB N x m st r
    · have hL : decL N x m st r = [] := by unfold decL; rw [hok]; rfl
      have hLen : (decL N x m st r).length = 0 := by rw [hL]; rfl
      rw [hLen] at hO2 hO3 ⊢
      have HE := Lib.hid (fun w' (hk : Keeps w3 w') => eOwn_true B C 0 cb cc _ w' (by omega) ((hO2.keeps hK3).keeps hk) (hO3.keeps hk))
      have HO2 := Lib.hid (hO2.keeps hK3)
      have HI3 := Lib.hid (HI2.out.keeps hK3)
      have HS3 := Lib.hid (HS2.out.keeps hK3)
      have HL := Lib.hid hLen
      clear hO2 hO3 hL hLen
      go_wp2_with fail
      refine (HE.out _ (Keeps.refl _)).mono ?_
      rintro e w4 ⟨rfl, hk4⟩
      have c40 := cell_keeps hk4 c30
      have c41 := cell_keeps hk4 c31
      go_wp2_with fail
      refine (sdecisionsAfter_any A S N k m d r x st _ (by omega) (by omega) (HI3.out.keeps hk4) (HS3.out.keeps hk4)).mono ?_
      intro e w5 hA
      obtain ⟨D, cd, rfl, hO5, hK5⟩ := hA
      rw [HL.out] at hO5 ⊢
      have HE5 := Lib.hid (eOwn_true B D 0 cb cd _ w5 (by omega) ((HO2.out.keeps hk4).keeps hK5) hO5)
      clear hO5
      go_wp2_with fail
      refine HE5.out.mono ?_
      rintro e w6 ⟨rfl, hk6⟩
      go_wp2
      go_ret
      exact ⟨rfl, hKK2.step (hK3.step (hk4.step (hK5.step hk6)))⟩
    · obtain ⟨hrun, hr0, hr4⟩ := okB_true hok
      obtain ⟨hN1, hN4⟩ := runB_n hrun
      obtain ⟨R, rfl⟩ := Int.eq_ofNat_of_zero_le hr0
      have hR : R ≤ 4 := by omega
      have hL : decL N x m st R = il N (dec N x m st R) := by unfold decL; rw [hok]; rfl
      have hLen : (decL N x m st R).length = N := by rw [hL, il_len]
      have hSL : seenL N x m st R = fl N (aft N st m R) := by unfold seenL; rw [hok]; rfl
      have hSLen : (seenL N x m st R).length = N := by rw [hSL, fl_len]
      have HX := Lib.hid (fun i hi => (run_in hrun i hi).1)
      rw [hLen] at hO2 hO3 ⊢
      rw [hL] at hO2 hO3
      have HE := Lib.hid (fun w' (hk : Keeps w3 w') => eOwn_true B C N cb cc _ w' (by omega) ((hO2.keeps hK3).keeps hk) (hO3.keeps hk))
      have HO2 := Lib.hid (hO2.keeps hK3)
      have HI3 := Lib.hid (HI2.out.keeps hK3)
      have HS3 := Lib.hid (HS2.out.keeps hK3)
      have HSL := Lib.hid hSL
      have HSLL := Lib.hid hSLen
      have hN0 : ((N : Int) == 0) = false := by simp; omega
      clear hO2 hO3 hL hLen hSL hSLen hrun hok
      go_wp2_with fail
      refine (HE.out _ (Keeps.refl _)).mono ?_
      rintro e w4 ⟨rfl, hk4⟩
      have c40 := cell_keeps hk4 c30
      have c41 := cell_keeps hk4 c31
      have HO4 := Lib.hid (HO2.out.keeps hk4)
      have HI4 := Lib.hid (HI3.out.keeps hk4)
      have HS4 := Lib.hid (HS3.out.keeps hk4)
      have hKK4 := hKK2.step (hK3.step hk4)
      clear HO2 HI2 HS2 HI3 HS3 HI HS hKK2 hK3 hk4 c0 c1 c30 c31
      go_wp2_with fail
      refine (seenAfter_any A S N k m d R x st _ (by omega) (by omega) HI4.out HS4.out).mono ?_
      intro e w5 hA
      obtain ⟨D, cd, rfl, hO5, hK5⟩ := hA
      rw [HSLL.out] at hO5 ⊢
      rw [HSL.out] at hO5
      have c50 := cell_keeps hK5 c40
      have c51 := cell_keeps hK5 c41
      have HO5 := Lib.hid hO5
      have HO6 := Lib.hid (HO4.out.keeps hK5)
      have HI5 := Lib.hid (HI4.out.keeps hK5)
      have hKK5 := hKK4.step hK5
      clear hO5 HO4 HI4 HS4 hKK4 hK5 c40 c41
      go_wp2_with fail
      go_loopw [7] (fun i wr => ∃ p : Nat, p ≤ N ∧ i = .int .i64 p ∧ Keeps w5 wr) (fun i _ => N - (intOf i).toNat)
      case atStart => exact ⟨0, by omega, rfl, Keeps.refl _⟩
      case round =>
        obtain ⟨p, hp, rfl, hKr⟩ := hrel
        by_cases hlt : p < N
        · have hpi : (p : Int) < N := by omega
          obtain ⟨go, rfl⟩ := HO6.out.at hN1
          obtain ⟨gl, rfl⟩ := HO5.out.at hN1
          obtain ⟨ga, oa, rfl, hxp⟩ := HI5.out.keeps hKr p hlt
          have e1 := (HO6.out.keeps hKr).cell p hlt
          have e2 := (HO5.out.keeps hKr).cell p hlt
          rw [fl_getD _ _ _ hlt] at e2
          rw [il_getD _ _ _ hlt] at e1
          have d0 := cell_keeps hKr c50
          have d1 := cell_keeps hKr c51
          have hp16 : 2 ^ N ≤ 16 := Nat.le_trans (Nat.pow_le_pow_right (by omega) hN4) (by omega)
          have hs63 : aft N st m R p < 9223372036854775808 := by have := aft_lt N st m R p hlt; omega
          have HD := Lib.hid (show dec N x m st R p = if (stopF st m p).2.1 ≤ (R : Int) then -1 else decI x (aft N st m R p) N from rfl)
          have HDE := Lib.hid (dec_eq x (aft N st m R p) N p HX.out hlt (aft_self N st m R p))
          clear hp16
          obtain ⟨wd, rfl⟩ : ∃ wd : World, wd = wr := ⟨_, rfl⟩
          go_wp2_with fail
          go_loopw [9, 8] (fun i v wr => ∃ q : Nat, q ≤ N ∧ i = .int .i64 q ∧ v = .int .i64 (decS x (aft N st m R p) (x p) q) ∧ wd = wr) (fun i _ _ => N - (intOf i).toNat)
          case atStart => exact ⟨0, by omega, rfl, rfl, rfl⟩
          case round =>
            obtain ⟨q, hq, rfl, rfl, rfl⟩ := hrel
            by_cases hlq : q < N
            · have hql : (q : Int) < N := by omega
              obtain ⟨_, _, e, hcq⟩ := HI5.out.keeps hKr q hlq
              cases e
              have hq62 : q ≤ 62 := by omega
              have HN := Lib.hid (show decS x (aft N st m R p) (x p) (q + 1) = if (aft N st m R p).testBit q then min (decS x (aft N st m R p) (x p) q) (x q) else decS x (aft N st m R p) (x p) q from rfl)
              generalize decS x (aft N st m R p) (x p) q = v at *
              go_wp2_with fail
              refine (lbit_any (aft N st m R p) q _ hs63 hq62).mono ?_
              rintro e w2 ⟨rfl, rfl⟩
              cases e1 : (aft N st m R p).testBit q
              · have HN1 := Lib.hid (show decS x (aft N st m R p) (x p) (q + 1) = v by rw [HN.out, e1]; rfl)
                rw [show bitI false = 0 from rfl]
                go_wp2
                go_roundw
                case rel => exact ⟨q + 1, by omega, by go_num, by rw [HN1.out], trivial⟩
                case measure => simp [intOf]; omega
              · rw [show bitI true = 1 from rfl]
                by_cases e2 : v ≤ x q
                · have HN1 := Lib.hid (show decS x (aft N st m R p) (x p) (q + 1) = v by rw [HN.out, e1, if_pos rfl]; omega)
                  have e3 : ¬ x q < v := by omega
                  go_wp2
                  go_roundw
                  case rel => exact ⟨q + 1, by omega, by go_num, by rw [HN1.out], trivial⟩
                  case measure => simp [intOf]; omega
                · have HN1 := Lib.hid (show decS x (aft N st m R p) (x p) (q + 1) = x q by rw [HN.out, e1, if_pos rfl]; omega)
                  have e3 : x q < v := by omega
                  go_wp2
                  go_roundw
                  case rel => exact ⟨q + 1, by omega, by go_num, by rw [HN1.out], trivial⟩
                  case measure => simp [intOf]; omega
            · obtain rfl : q = N := by omega
              have HC : Hid (dec q x m st R p = -1 ∨ dec q x m st R p = decS x (aft q st m R p) (x p) q) := Lib.hid (by
                rw [HD.out]
                split
                · exact .inl rfl
                · exact .inr HDE.out)
              generalize decS x (aft q st m R p) (x p) q = v at *
              generalize dec q x m st R p = dv at *
              rcases HC.out with h | h
              · subst h
                go_wp2
                go_roundw
                case rel => exact ⟨p + 1, by omega, by go_num, hKr⟩
                case measure => simp [intOf]; omega
              · subst h
                have hne : (dv != dv) = false := by simp
                cases h1 : (dv != -1)
                · go_wp2
                  go_roundw
                  case rel => exact ⟨p + 1, by omega, by go_num, hKr⟩
                  case measure => simp [intOf]; omega
                · go_wp2
                  go_roundw
                  case rel => exact ⟨p + 1, by omega, by go_num, hKr⟩
                  case measure => simp [intOf]; omega
        · have : p = N := by omega
          subst this
          have d0 := cell_keeps hKr c50
          go_wp2
          go_ret
          exact ⟨rfl, hKK5.step hKr⟩
end Go.Proofs.Ytepgogaoppdllaa
