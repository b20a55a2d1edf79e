/-
  The walk of FnSeenAfter: whatever the code is, it returns true, and nothing that was there turns. No condition.
-/
import Derived.Test.YtepgogaoppdllaaSeenLaw
import Derived.Test.YtepgogaoppdllaaDrawnR
import Derived.Deep.CutBlock
import Derived.Deep.DeepCutAuto
namespace Go.Proofs.Ytepgogaoppdllaa
open Go.RowKit

set_option maxRecDepth 100000 in
set_option maxHeartbeats 8000000 in
theorem FnSeenAfter_walk (a : Option Addr) (n c : Nat) (w : World) (hB : Bytes w w.heap.size a n) (hc : n ≤ c) (hc2 : c ≤ 9223372036854775807) :
    Calls Try.prog 3 #[.slice a n c] w fun e w' => e = .returned (.bool true) ∧ Keeps w w' := by
  have HB := Lib.hid hB
  clear hB
  by_cases hn : 1048576 < n
  · go_enter Try.func3, Try.ntmps3
    go_wp2
    go_ret
    exact ⟨rfl, Keeps.refl _⟩
  · go_enter Try.func3, Try.ntmps3
    go_wp2_with fail
    refine (drawSeenAfter_any a n c _ HB.out (by omega) hc hc2).mono ?_
    rintro e w1 ⟨N, m, A, S, k, d, l, zs, r, rfl, hO, hS, hN, hm, hr1, hr2, hK1⟩
    have HI := Lib.hid hO.ints
    have HS := Lib.hid hS.stops
    clear hO hS
    generalize (fun i => l.getD i 0) = x at *
    generalize stopsOf zs = st at *
    have kk := Keeps.alloc w1 (.cells #[.slice A N k, .slice S m d] 26)
    go_wp2_with fail
    refine (seenAfter_any A S N k m d r x st _ (by omega) (by omega) (HI.out.keeps kk) (HS.out.keeps kk)).mono ?_
    intro e w2 hA
    obtain ⟨B, cb, rfl, hO2, hK2⟩ := hA
    have c0 := cell_keeps hK2 (box0 w1 (.slice A N k) (.slice S m d) 26)
    have c1 := cell_keeps hK2 (box1 w1 (.slice A N k) (.slice S m d) 26)
    have HI2 := Lib.hid ((HI.out.keeps kk).keeps hK2)
    have HS2 := Lib.hid ((HS.out.keeps kk).keeps hK2)
    have hKK2 := (hK1.step kk).step hK2
    clear hK1 hK2 kk
    generalize w1.heap.size = V at *
    go_wp2_with fail
    refine (sseenAfter_any A S N k m d r x st _ (by omega) (by omega) HI2.out HS2.out).mono ?_
    intro e w3 hA
    obtain ⟨C, cc, rfl, hO3, hK3⟩ := hA
    have c30 := cell_keeps hK3 c0
    have c31 := cell_keeps hK3 c1
    cases hok : okB N x m st r
    · have hL : seenL N x m st r = [] := by unfold seenL; rw [hok]; rfl
      have hLen : (seenL N x m st r).length = 0 := by rw [hL]; rfl
      rw [hLen] at hO2 hO3 ⊢
      have HE := Lib.hid (fun w' (hk : Keeps w3 w') => eOwn_true B C 0 cb cc _ w' (by omega) ((hO2.keeps hK3).keeps hk) (hO3.keeps hk))
      have HO2 := Lib.hid (hO2.keeps hK3)
      have HI3 := Lib.hid (HI2.out.keeps hK3)
      have HS3 := Lib.hid (HS2.out.keeps hK3)
      have HL := Lib.hid hLen
      clear hO2 hO3 hL hLen
      go_wp2_with fail
      refine (HE.out _ (Keeps.refl _)).mono ?_
      rintro e w4 ⟨rfl, hk4⟩
      have c40 := cell_keeps hk4 c30
      have c41 := cell_keeps hk4 c31
      go_wp2_with fail
      refine (sseenAfter_any A S N k m d r x st _ (by omega) (by omega) (HI3.out.keeps hk4) (HS3.out.keeps hk4)).mono ?_
      intro e w5 hA
      obtain ⟨D, cd, rfl, hO5, hK5⟩ := hA
      rw [HL.out] at hO5 ⊢
      have HE5 := Lib.hid (eOwn_true B D 0 cb cd _ w5 (by omega) ((HO2.out.keeps hk4).keeps hK5) hO5)
      clear hO5
      go_wp2_with fail
      refine HE5.out.mono ?_
      rintro e w6 ⟨rfl, hk6⟩
      go_wp2
      go_ret
      exact ⟨rfl, hKK2.step (hK3.step (hk4.step (hK5.step hk6)))⟩
    · obtain ⟨hrun, hr0, hr4⟩ := okB_true hok
      obtain ⟨hN1, hN4⟩ := runB_n hrun
      obtain ⟨R, rfl⟩ := Int.eq_ofNat_of_zero_le hr0
      have hR : R ≤ 4 := by omega
      have hL : seenL N x m st R = fl N (aft N st m R) := by unfold seenL; rw [hok]; rfl
      have hLen : (seenL N x m st R).length = N := by rw [hL, fl_len]
      have hLess : seenL N x m st ((R - 1 : Nat) : Int) = fl N (aft N st m (R - 1)) := by
        unfold seenL okB
        rw [hrun, inB_mk (show (0 : Int) ≤ ((R - 1 : Nat) : Int) by omega) (by omega)]; rfl
      have hLessLen : (seenL N x m st ((R - 1 : Nat) : Int)).length = N := by rw [hLess, fl_len]
      rw [hLen] at hO2 hO3 ⊢
      rw [hL] at hO2 hO3
      have HE := Lib.hid (fun w' (hk : Keeps w3 w') => eOwn_true B C N cb cc _ w' (by omega) ((hO2.keeps hK3).keeps hk) (hO3.keeps hk))
      have HO2 := Lib.hid (hO2.keeps hK3)
      have HI3 := Lib.hid (HI2.out.keeps hK3)
      have HS3 := Lib.hid (HS2.out.keeps hK3)
      have HLESS := Lib.hid hLess
      have HLESSL := Lib.hid hLessLen
      have hN0 : ((N : Int) == 0) = false := by simp; omega
      clear hO2 hO3 hL hLen hLess hLessLen hrun hok
      go_wp2_with fail
      refine (HE.out _ (Keeps.refl _)).mono ?_
      rintro e w4 ⟨rfl, hk4⟩
      have c40 := cell_keeps hk4 c30
      have c41 := cell_keeps hk4 c31
      have HO4 := Lib.hid (HO2.out.keeps hk4)
      have HI4 := Lib.hid (HI3.out.keeps hk4)
      have HS4 := Lib.hid (HS3.out.keeps hk4)
      have hKK4 := hKK2.step (hK3.step hk4)
      clear HO2 HI2 HS2 HI3 HS3 HI HS hKK2 hK3 hk4 c0 c1 c30 c31
      have hRL : (∃ z : Int, z = (R : Int) - 1 ∧ (if 0 < z then z else 0) = ((R - 1 : Nat) : Int)) := ⟨_, rfl, by split <;> omega⟩
      have CL : Hid (∀ z : Int, z = ((R - 1 : Nat) : Int) → Calls Try.prog 14 #[.agg #[.slice A N k, .slice S m d], .int .i64 z] w4 (Ans w4 (seenL N x m st ((R - 1 : Nat) : Int)))) := Lib.hid (fun z hz => by subst hz; exact seenAfter_any A S N k m d _ x st _ (by omega) (by omega) HI4.out HS4.out)
      clear hRL
      go_upto_region 7 with fail
      go_cut [6] (fun s wx => ∃ (D : Option Addr) (cd : Nat), s = .slice D N cd ∧ OwnInts wx w4.heap.size D N cd (fl N (aft N st m (R - 1))) ∧ Keeps w4 wx)
      case first =>
        have HFIN : Hid (∀ e w', Ans w4 (seenL N x m st ((R - 1 : Nat) : Int)) e w' → ∃ (D : Option Addr) (cd : Nat), e = .returned (.slice D N cd) ∧ OwnInts w' w4.heap.size D N cd (fl N (aft N st m (R - 1))) ∧ Keeps w4 w') := Lib.hid (fun e w' hA => by
          obtain ⟨D, cd, h1, h2, h3⟩ := hA
          rw [HLESSL.out] at h1 h2
          rw [HLESS.out] at h2
          exact ⟨D, cd, h1, h2, h3⟩)
        by_cases hR0 : R = 0
        · have HR0 := Lib.hid hR0
          subst hR0
          go_wp2_with fail
          refine (CL.out _ (by omega)).mono ?_
          intro e w5 hA
          obtain ⟨D, cd, rfl, hO5, hK5⟩ := HFIN.out _ _ hA
          have HO5 := Lib.hid hO5
          clear hO5 hA
          go_wp2_with fail
          go_meet
          exact ⟨D, cd, rfl, HO5.out, hK5⟩
        · have h1 : ¬ ((R : Int) - 1 < 0) := by omega
          go_wp2_with fail
          refine (CL.out _ (by omega)).mono ?_
          intro e w5 hA
          obtain ⟨D, cd, rfl, hO5, hK5⟩ := HFIN.out _ _ hA
          have HO5 := Lib.hid hO5
          clear hO5 hA
          go_wp2_with fail
          go_meet
          exact ⟨D, cd, rfl, HO5.out, hK5⟩
      case rest =>
        obtain ⟨D, cd, rfl, hO5, hK5⟩ := hcut
        have HO5 := Lib.hid hO5
        clear hO5
        go_wp2_with fail
        go_loopw [7] (fun i wr => ∃ p : Nat, p ≤ N ∧ i = .int .i64 p ∧ Keeps wc wr) (fun i _ => N - (intOf i).toNat)
        case atStart => exact ⟨0, by omega, rfl, Keeps.refl _⟩
        case round =>
          obtain ⟨p, hp, rfl, hKr⟩ := hrel
          by_cases hlt : p < N
          · have hpi : (p : Int) < N := by omega
            obtain ⟨go, rfl⟩ := HO4.out.at hN1
            obtain ⟨gl, rfl⟩ := HO5.out.at hN1
            have e1 := ((HO4.out.keeps hK5).keeps hKr).cell p hlt
            have e2 := (HO5.out.keeps hKr).cell p hlt
            rw [fl_getD _ _ _ hlt] at e1 e2
            have d0 := cell_keeps hKr (cell_keeps hK5 c40)
            have d1 := cell_keeps hKr (cell_keeps hK5 c41)
            have hp62 : p ≤ 62 := by omega
            have hN62 : N ≤ 62 := by omega
            have hp16 : 2 ^ N ≤ 16 := Nat.le_trans (Nat.pow_le_pow_right (by omega) hN4) (by omega)
            have ha := aft_lt N st m R p hlt
            have hb := aft_lt N st m (R - 1) p hlt
            have ha63 : aft N st m R p < 9223372036854775808 := by omega
            have hand := bits_and (aft N st m R p) (aft N st m (R - 1) p) (by omega) (by omega)
            rw [aft_less] at hand
            have hbit : bitI ((aft N st m R p).testBit p) = 1 := by rw [aft_self_bit]; rfl
            have CB := Lib.hid (fun w => lbit_any (aft N st m R p) p w ha63 hp62)
            have CP := Lib.hid (fun w => lpower_any N w hN62)
            have HALL : Hid (m = 0 → 0 < R → aft N st m R p = 2 ^ N - 1) := Lib.hid (fun h0 h1 => by subst h0; obtain ⟨k', rfl⟩ : ∃ k', R = k' + 1 := ⟨R - 1, by omega⟩; exact aft_all N st k' p hR hlt)
            have hp1 : 1 ≤ 2 ^ N := Nat.two_pow_pos N
            by_cases hm0 : m = 0
            · by_cases hR0 : 0 < R
              · have hall := HALL.out hm0 hR0
                have hall2 : aft N st m R p + 1 = 2 ^ N := by omega
                have hR0' : 0 < (R : Int) := by omega
                clear hall ha hb hp1 HALL
                generalize aft N st m R p = va at *
                generalize aft N st m (R - 1) p = vb at *
                generalize 2 ^ N = P at *
                have hne : ((va : Int) != (P : Int) - 1) = false := by rw [bne_eq_false_iff_eq]; omega
                have hW : IntKind.i64.wrap ((P : Int) - 1) = (P : Int) - 1 := by rw [IntKind.wrap_i64]; omega
                clear hp16 hall2
                subst hm0
                go_wp2_with fail
                go_quiet (first | ((go_at_call 17; exact Calls.quiet_of_same ((CB.out _).mono fun _ _ h => ⟨h.1, h.2.symm⟩))) | ((go_at_call 18; exact Calls.quiet_of_same ((CP.out _).mono fun _ _ h => ⟨h.1, h.2.symm⟩))))
                go_wp2
                go_roundw
                case rel => exact ⟨p + 1, by omega, by go_num, hKr.step (Keeps.drewN _ _)⟩
                case measure => simp [intOf]; omega
              · have hR0' : ¬ (0 < (R : Int)) := by omega
                clear ha hb hp1 HALL hp16
                generalize aft N st m R p = va at *
                generalize aft N st m (R - 1) p = vb at *
                subst hm0
                go_wp2_with fail
                go_quiet (first | ((go_at_call 17; exact Calls.quiet_of_same ((CB.out _).mono fun _ _ h => ⟨h.1, h.2.symm⟩))) | ((go_at_call 18; exact Calls.quiet_of_same ((CP.out _).mono fun _ _ h => ⟨h.1, h.2.symm⟩))))
                go_wp2
                go_roundw
                case rel => exact ⟨p + 1, by omega, by go_num, hKr.step (Keeps.drewN _ _)⟩
                case measure => simp [intOf]; omega
            · have hm0' : ((m : Int) == 0) = false := by simp; omega
              clear hm0
              go_wp2_with fail
              go_quiet (first | ((go_at_call 17; exact Calls.quiet_of_same ((CB.out _).mono fun _ _ h => ⟨h.1, h.2.symm⟩))) | ((go_at_call 18; exact Calls.quiet_of_same ((CP.out _).mono fun _ _ h => ⟨h.1, h.2.symm⟩))))
              go_wp2
              go_roundw
              case rel => exact ⟨p + 1, by omega, by go_num, hKr.step (Keeps.drewN _ _)⟩
              case measure => simp [intOf]; omega
          · have : p = N := by omega
            subst this
            go_wp2
            go_ret
            exact ⟨rfl, hKK4.step (hK5.step hKr)⟩
end Go.Proofs.Ytepgogaoppdllaa
