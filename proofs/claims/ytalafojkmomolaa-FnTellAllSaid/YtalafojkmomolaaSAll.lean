/-
  The contracts of the reference's all, common, AllKnow, CommonOf, DepthOf: they answer what the program's answer. Condition: lengths at most 2^40.
-/
import Derived.Test.YtalafojkmomolaaSKnow
namespace Go.Proofs.Ytalafojkmomolaa
open Go.RowKit

theorem mask_true (W : Nat) : ((2 ^ W : Nat) : Int) - 1 = ((maskB (fun _ => true) W : Nat) : Int) := by
  have h : maskB (fun _ => true) W = 2 ^ W - 1 := by
    apply Nat.eq_of_testBit_eq
    intro i
    rw [maskB_testBit, Nat.testBit_two_pow_sub_one]
    simp
  have := Nat.two_pow_pos W
  omega
set_option maxHeartbeats 800000 in
theorem sall_any (A : Option Addr) (n c W : Nat) (r : Nat → Option Addr × Nat × Nat) (x : Nat → Nat → Int) (s : Nat) (w : World) (hW : W ≤ 16) (hn : n ≤ 4) (hr : Rows w A n r x) (hrow : ∀ a, a < n → (r a).2.1 = W) (hs : s < 131072) :
    Calls Try.prog 37 #[.agg #[.int .i64 W, .slice A n c], .int .i64 s] w fun e w' => e = .returned (.int .i64 (allB x W s n : Nat)) ∧ Keeps w w' := by
  have HR := Lib.hid hrow
  have HRR := Lib.hid hr
  clear hrow hr
  have HM := Lib.hid (mask_true W)
  have hp : 2 ^ W ≤ 2 ^ 16 := Nat.pow_le_pow_right (by omega) (by omega)
  go_enter Try.func37, Try.ntmps37
  go_wp2_with fail
  refine (spower_any W _ (by omega)).mono ?_
  rintro e w2 ⟨rfl, rfl⟩
  generalize 2 ^ W = q at *
  go_wp2_with fail
  go_loopw [5, 6] (fun o i wr => ∃ k : Nat, k ≤ n ∧ o = .int .i64 (allB x W s k : Nat) ∧ i = .int .i64 k ∧ Keeps (w.alloc (.cells #[.int .i64 W, .slice A n c] 25)) wr) (fun _ i _ => n - (intOf i).toNat)
  case atStart => exact ⟨0, by omega, congrArg (Value.int .i64) HM.out, rfl, Keeps.refl _⟩
  case round =>
    obtain ⟨k, hk, rfl, rfl, hKr⟩ := hrel
    have hc1r := cell_keeps hKr (box1 w (.int .i64 W) (.slice A n c) 25)
    have hc0r := cell_keeps hKr (box0 w (.int .i64 W) (.slice A n c) 25)
    by_cases hlt : k < n
    · have ha := allB_lt x W s k hW
      have hkl := knowsB_lt x W k s hW
      have HT : Hid (allB x W s (k + 1) = allB x W s k &&& knowsB x W k s) := Lib.hid rfl
      have HB := Lib.hid (bits_and (allB x W s k) (knowsB x W k s) (by omega) (by omega))
      go_wp2_with fail
      refine (sknows_any A n c W r x k s _ hW ((HRR.out.keeps (Keeps.alloc _ _)).keeps hKr) hlt (HR.out k hlt) hs).mono ?_
      rintro e w2 ⟨rfl, h2⟩
      go_wp2
      go_roundw
      case rel => exact ⟨k + 1, by omega, by rw [HT.out, HB.out], by go_num, hKr.step h2⟩
      case measure => simp [intOf]; omega
    · have : k = n := by omega
      subst this
      go_wp2
      go_ret
      exact ⟨rfl, (Keeps.alloc _ _).step hKr⟩
set_option maxHeartbeats 400000 in
theorem sAllKnow_any (A : Option Addr) (n c : Nat) (r : Nat → Option Addr × Nat × Nat) (x : Nat → Nat → Int) (W s : Int) (w : World) (hn : n ≤ 1099511627776) (hr : Rows w A n r x) :
    Calls Try.prog 10 #[.agg #[.int .i64 W, .slice A n c], .int .i64 s] w fun e w' => e = .returned (.int .i64 (allAns W n r x s)) ∧ Keeps w w' := by
  have HR := Lib.hid hr
  clear hr
  cases hv : setB W n r x s
  · have HV : Hid (-1 = allAns W n r x s) := Lib.hid (by unfold allAns; rw [hv]; rfl)
    have H1 := Lib.hid hv
    clear hv
    go_enter Try.func10, Try.ntmps10
    go_wp2_with fail
    refine (good_any A n c r x W s _ hn (HR.out.keeps (Keeps.alloc _ _))).mono ?_
    rintro e w1 ⟨rfl, hk1⟩
    rw [H1.out]
    go_wp2
    go_ret
    exact ⟨ret_int HV.out, (Keeps.alloc _ _).step hk1⟩
  · obtain ⟨V, S, rfl, rfl, hV1, hV2, hn4, hS, hS2, hrow⟩ := setB_iff W n r x s hv
    have HV : Hid (((allB x V S n : Nat) : Int) = allAns V n r x S) := Lib.hid (by unfold allAns; rw [hv]; simp)
    have H1 := Lib.hid hv
    have HW := Lib.hid hrow
    clear hv hrow
    go_enter Try.func10, Try.ntmps10
    go_wp2_with fail
    refine (good_any A n c r x V S _ hn (HR.out.keeps (Keeps.alloc _ _))).mono ?_
    rintro e w1 ⟨rfl, hk1⟩
    have hc0 := cell_keeps hk1 (box0 w (.int .i64 V) (.slice A n c) 25)
    have hc1 := cell_keeps hk1 (box1 w (.int .i64 V) (.slice A n c) 25)
    rw [H1.out]
    go_wp2_with fail
    refine (sall_any A n c V r x S _ hV2 hn4.2 ((HR.out.keeps (Keeps.alloc _ _)).keeps hk1) (fun a ha => (HW.out a ha).1) hS2).mono ?_
    rintro e w3 ⟨rfl, hk3⟩
    go_wp2
    go_ret
    exact ⟨ret_int HV.out, ((Keeps.alloc _ _).step hk1).step hk3⟩
set_option maxHeartbeats 800000 in
theorem scommon_any (A : Option Addr) (n c V : Nat) (r : Nat → Option Addr × Nat × Nat) (x : Nat → Nat → Int) (S : Nat) (w : World) (hV2 : V ≤ 16) (hn4 : n ≤ 4) (hr : Rows w A n r x) (hrow : ∀ a, a < n → (r a).2.1 = V) (hS2 : S < 131072) :
    Calls Try.prog 40 #[.agg #[.int .i64 V, .slice A n c], .int .i64 S] w fun e w' => e = .returned (.int .i64 (comB (fun s => allB x V s n) S : Nat)) ∧ Keeps w w' := by
  have HR := Lib.hid hr
  have HW := Lib.hid hrow
  clear hr hrow
  have h1 := allB_lt x V S n hV2
  have HB1 := Lib.hid (bits_and (allB x V S n) S (by omega) (by omega))
  have hle1 : allB x V S n &&& S ≤ S := Nat.and_le_right
  have HS1 : Hid (comB (fun s => allB x V s n) (allB x V S n &&& S) = comB (fun s => allB x V s n) S) := Lib.hid (by rw [Nat.and_comm]; exact comB_step (fun s => allB x V s n) S)
  go_enter Try.func40, Try.ntmps40
  go_wp2_with fail
  refine (sall_any A n c V r x S _ hV2 hn4 (HR.out.keeps (Keeps.alloc _ _)) HW.out hS2).mono ?_
  rintro e w1 ⟨rfl, hk1⟩
  have hc0 := cell_keeps hk1 (box0 w (.int .i64 V) (.slice A n c) 25)
  have hc1 := cell_keeps hk1 (box1 w (.int .i64 V) (.slice A n c) 25)
  go_wp2_with fail
  rw [HB1.out]
  generalize allB x V S n &&& S = m at *
  have h2 := allB_lt x V m n hV2
  have HB2 := Lib.hid (bits_and (allB x V m n) m (by omega) (by omega))
  refine (sall_any A n c V r x m _ hV2 hn4 ((HR.out.keeps (Keeps.alloc _ _)).keeps hk1) HW.out (by omega)).mono ?_
  rintro e w2 ⟨rfl, hk2⟩
  go_wp2_with fail
  rw [HB2.out]
  go_loopw [5, 6] (fun s t wr => ∃ k : Nat, k < 131072 ∧ s = .int .i64 k ∧ t = .int .i64 (allB x V k n &&& k : Nat) ∧ Hid (comB (fun s => allB x V s n) k = comB (fun s => allB x V s n) S) ∧ Keeps (w.alloc (.cells #[.int .i64 V, .slice A n c] 25)) wr) (fun s _ _ => (intOf s).toNat)
  case atStart => exact ⟨m, by omega, rfl, rfl, HS1, hk1.step hk2⟩
  case round =>
    obtain ⟨k, hk, rfl, rfl, HC, hKr⟩ := hrel
    have hd0 := cell_keeps hKr (box0 w (.int .i64 V) (.slice A n c) 25)
    have hd1 := cell_keeps hKr (box1 w (.int .i64 V) (.slice A n c) 25)
    have hle : allB x V k n &&& k ≤ k := Nat.and_le_right
    by_cases hf : allB x V k n &&& k = k
    · have HF := Lib.hid hf
      have ht : (((allB x V k n &&& k : Nat) : Int) != (k : Int)) = false := by rw [hf]; simp
      clear hf
      go_wp2
      go_ret
      exact ⟨ret_int (by rw [← HC.out, comB_stay _ _ (by rw [Nat.and_comm]; exact HF.out)]), (Keeps.alloc _ _).step hKr⟩
    · have ht : (((allB x V k n &&& k : Nat) : Int) != (k : Int)) = true := by simp; omega
      have hlt : allB x V k n &&& k < k := by omega
      have HS : Hid (comB (fun s => allB x V s n) (allB x V k n &&& k) = comB (fun s => allB x V s n) S) := Lib.hid (by rw [← HC.out, Nat.and_comm]; exact comB_step (fun s => allB x V s n) k)
      clear hf
      have h3 := allB_lt x V (allB x V k n &&& k) n hV2
      have HB := Lib.hid (bits_and (allB x V (allB x V k n &&& k) n) (allB x V k n &&& k) (by omega) (by omega))
      go_wp2_with fail
      refine (sall_any A n c V r x (allB x V k n &&& k) _ hV2 hn4 ((HR.out.keeps (Keeps.alloc _ _)).keeps hKr) HW.out (by omega)).mono ?_
      rintro e w3 ⟨rfl, hk3⟩
      generalize allB x V k n &&& k = j at *
      go_wp2
      go_roundw
      case rel => exact ⟨j, by omega, rfl, by rw [HB.out], HS, hKr.step hk3⟩
      case measure => simp [intOf]; omega
set_option maxHeartbeats 400000 in
theorem sCommonOf_any (A : Option Addr) (n c : Nat) (r : Nat → Option Addr × Nat × Nat) (x : Nat → Nat → Int) (W s : Int) (w : World) (hn : n ≤ 1099511627776) (hr : Rows w A n r x) :
    Calls Try.prog 15 #[.agg #[.int .i64 W, .slice A n c], .int .i64 s] w fun e w' => e = .returned (.int .i64 (comAns W n r x s)) ∧ Keeps w w' := by
  have HR := Lib.hid hr
  clear hr
  cases hv : setB W n r x s
  · have HV : Hid (-1 = comAns W n r x s) := Lib.hid (by unfold comAns; rw [hv]; rfl)
    have H1 := Lib.hid hv
    clear hv
    go_enter Try.func15, Try.ntmps15
    go_wp2_with fail
    refine (good_any A n c r x W s _ hn (HR.out.keeps (Keeps.alloc _ _))).mono ?_
    rintro e w1 ⟨rfl, hk1⟩
    rw [H1.out]
    go_wp2
    go_ret
    exact ⟨ret_int HV.out, (Keeps.alloc _ _).step hk1⟩
  · obtain ⟨V, S, rfl, rfl, hV1, hV2, hn4, hS, hS2, hrow⟩ := setB_iff W n r x s hv
    have HV : Hid (((comB (fun s => allB x V s n) S : Nat) : Int) = comAns V n r x S) := Lib.hid (by unfold comAns; rw [hv]; simp)
    have H1 := Lib.hid hv
    have HW := Lib.hid hrow
    clear hv hrow
    go_enter Try.func15, Try.ntmps15
    go_wp2_with fail
    refine (good_any A n c r x V S _ hn (HR.out.keeps (Keeps.alloc _ _))).mono ?_
    rintro e w1 ⟨rfl, hk1⟩
    have hc0 := cell_keeps hk1 (box0 w (.int .i64 V) (.slice A n c) 25)
    have hc1 := cell_keeps hk1 (box1 w (.int .i64 V) (.slice A n c) 25)
    rw [H1.out]
    go_wp2_with fail
    refine (scommon_any A n c V r x S _ hV2 hn4.2 ((HR.out.keeps (Keeps.alloc _ _)).keeps hk1) (fun a ha => (HW.out a ha).1) hS2).mono ?_
    rintro e w3 ⟨rfl, hk3⟩
    go_wp2
    go_ret
    exact ⟨ret_int HV.out, ((Keeps.alloc _ _).step hk1).step hk3⟩
set_option maxHeartbeats 400000 in
theorem sDepthOf_any (A : Option Addr) (n c : Nat) (r : Nat → Option Addr × Nat × Nat) (x : Nat → Nat → Int) (W v s : Int) (w : World) (hn : n ≤ 1099511627776) (hr : Rows w A n r x) :
    Calls Try.prog 25 #[.agg #[.int .i64 W, .slice A n c], .int .i64 v, .int .i64 s] w fun e w' => e = .returned (.int .i64 (depAns W n r x v s)) ∧ Keeps w w' := by
  have HR := Lib.hid hr
  clear hr
  cases hv : setB W n r x s
  · have HV : Hid (-1 = depAns W n r x v s) := Lib.hid (by unfold depAns; rw [hv]; rfl)
    have H1 := Lib.hid hv
    clear hv
    go_enter Try.func25, Try.ntmps25
    go_wp2_with fail
    refine (good_any A n c r x W s _ hn (HR.out.keeps (Keeps.alloc _ _))).mono ?_
    rintro e w1 ⟨rfl, hk1⟩
    rw [H1.out]
    go_wp2
    go_ret
    exact ⟨ret_int HV.out, (Keeps.alloc _ _).step hk1⟩
  · obtain ⟨V, S, rfl, rfl, hV1, hV2, hn4, hS, hS2, hrow⟩ := setB_iff W n r x s hv
    cases ha : inB v 0 ((V : Int) - 1)
    · have HV : Hid (-1 = depAns V n r x v S) := Lib.hid (by unfold depAns; rw [hv, ha]; rfl)
      have H1 := Lib.hid hv
      have H2 := Lib.hid ha
      clear hv ha hrow
      go_enter Try.func25, Try.ntmps25
      go_wp2_with fail
      refine (good_any A n c r x V S _ hn (HR.out.keeps (Keeps.alloc _ _))).mono ?_
      rintro e w1 ⟨rfl, hk1⟩
      have hc0 := cell_keeps hk1 (box0 w (.int .i64 V) (.slice A n c) 25)
      have hc1 := cell_keeps hk1 (box1 w (.int .i64 V) (.slice A n c) 25)
      rw [H1.out]
      go_wp2_with fail
      refine (inRange_any _ _ _ _).mono ?_
      rintro e w2 ⟨rfl, rfl⟩
      rw [H2.out]
      go_wp2
      go_ret
      exact ⟨ret_int HV.out, (Keeps.alloc _ _).step hk1⟩
    · obtain ⟨ha0, ha1⟩ := inB_true ha
      obtain ⟨v, rfl⟩ := Int.eq_ofNat_of_zero_le ha0
      have HV : Hid (((depF (fun s => allB x V s n) v 20 S : Nat) : Int) = depAns V n r x v S) := Lib.hid (by unfold depAns; rw [hv, ha]; simp)
      have H1 := Lib.hid hv
      have H2 := Lib.hid ha
      have HW := Lib.hid hrow
      clear hv ha hrow
      go_enter Try.func25, Try.ntmps25
      go_wp2_with fail
      refine (good_any A n c r x V S _ hn (HR.out.keeps (Keeps.alloc _ _))).mono ?_
      rintro e w1 ⟨rfl, hk1⟩
      have hc0 := cell_keeps hk1 (box0 w (.int .i64 V) (.slice A n c) 25)
      have hc1 := cell_keeps hk1 (box1 w (.int .i64 V) (.slice A n c) 25)
      rw [H1.out]
      go_wp2_with fail
      refine (inRange_any _ _ _ _).mono ?_
      rintro e w2 ⟨rfl, rfl⟩
      rw [H2.out]
      go_wp2_with fail
      refine (sall_any A n c V r x S _ hV2 hn4.2 ((HR.out.keeps (Keeps.alloc _ _)).keeps hk1) (fun a ha => (HW.out a ha).1) hS2).mono ?_
      rintro e w2 ⟨rfl, hk2⟩
      go_wp2_with fail
      go_loopw [7, 8] (fun s d wr => ∃ k j : Nat, k < 131072 ∧ j ≤ 20 ∧ s = .int .i64 (allB x V k n : Nat) ∧ d = .int .i64 j ∧ Hid (depF (fun s => allB x V s n) v (20 - j) k + j = depF (fun s => allB x V s n) v 20 S) ∧ Keeps (w.alloc (.cells #[.int .i64 V, .slice A n c] 25)) wr) (fun _ d _ => 20 - (intOf d).toNat)
      case atStart => exact ⟨S, 0, by omega, by omega, rfl, rfl, Lib.hid rfl, hk1.step hk2⟩
      case round =>
        obtain ⟨k, j, hk, hj, rfl, rfl, HC, hKr⟩ := hrel
        have hd0 := cell_keeps hKr (box0 w (.int .i64 V) (.slice A n c) 25)
        have hd1 := cell_keeps hKr (box1 w (.int .i64 V) (.slice A n c) 25)
        have hal := allB_lt x V k n hV2
        by_cases hlt : j < 20
        · have HS : Hid (depF (fun s => allB x V s n) v (20 - j) k = if (allB x V k n).testBit v then depF (fun s => allB x V s n) v (20 - (j + 1)) (allB x V k n) + 1 else 0) := Lib.hid (by rw [show 20 - j = (20 - (j + 1)) + 1 from by omega]; rfl)
          cases ht : (allB x V k n).testBit v
          · have HT := Lib.hid ht
            clear ht
            go_wp2_with fail
            refine (sbit_any _ v _ (by omega) (by omega)).mono ?_
            rintro e w4 ⟨rfl, rfl⟩
            rw [HT.out]
            have hb0 : (bitI false == 1) = false := rfl
            go_wp2
            go_ret
            refine ⟨ret_int ?_, (Keeps.alloc _ _).step hKr⟩
            rw [← HV.out, ← HC.out, HS.out, HT.out]; simp
          · have HT := Lib.hid ht
            clear ht
            go_wp2_with fail
            refine (sbit_any _ v _ (by omega) (by omega)).mono ?_
            rintro e w4 ⟨rfl, rfl⟩
            rw [HT.out]
            have hb0 : (bitI true == 1) = true := rfl
            go_wp2_with fail
            refine (sall_any A n c V r x (allB x V k n) _ hV2 hn4.2 ((HR.out.keeps (Keeps.alloc _ _)).keeps hKr) (fun a ha => (HW.out a ha).1) hal).mono ?_
            rintro e w3 ⟨rfl, hk3⟩
            go_wp2
            go_roundw
            case rel => exact ⟨allB x V k n, j + 1, by omega, by omega, rfl, by go_num, Lib.hid (by rw [← HC.out, HS.out, HT.out]; simp; omega), hKr.step hk3⟩
            case measure => simp [intOf]; omega
        · have : j = 20 := by omega
          subst this
          go_wp2
          go_ret
          refine ⟨ret_int ?_, (Keeps.alloc _ _).step hKr⟩
          rw [← HV.out, ← HC.out]; simp [depF]
end Go.Proofs.Ytalafojkmomolaa
