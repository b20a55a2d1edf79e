/-
  The contract of WakeOf of the reference. No condition.
-/
import Derived.Test.YtdjilgbcpdlkfaaSWakeF
namespace Go.Proofs.Ytdjilgbcpdlkfaa
open Go.RowKit

section
variable {A B C : Option Addr} {m c mm d cc : Nat} {r : Nat → Option Addr × Nat × Nat} {L : Nat → Nat} {X : Nat → Nat → Int} {M : Nat → Int}
set_option maxRecDepth 100000 in
set_option maxHeartbeats 8000000 in
theorem sWakeOf_any (A B : Option Addr) (m c mm d : Nat) (r : Nat → Option Addr × Nat × Nat) (L : Nat → Nat) (X : Nat → Nat → Int) (M : Nat → Int) (s : Int) (w : World) (hN : NetAt w A m r B mm L X M) :
    Calls Try.prog 35 #[.agg #[.slice A m c, .slice B mm d], .int .i64 s] w fun e w' => e = .returned (.int .i64 (wakeI m L X mm M s)) ∧ Keeps w w' := by
  have kA := Keeps.alloc w (.cells #[.slice A m c, .slice B mm d] 27)
  have hB := Blk.new w #[.slice A m c, .slice B mm d] 27
  have d0 : (w.alloc (.cells #[.slice A m c, .slice B mm d] 27)).cell? ⟨w.heap.size, 0, none⟩ = some (.slice A m c) := hB.cell 0
  have d1 : (w.alloc (.cells #[.slice A m c, .slice B mm d] 27)).cell? ⟨w.heap.size, 1, none⟩ = some (.slice B mm d) := hB.cell 1
  have CC := Lib.hid (svalidNet_any A B m c mm d r L X M _ (hN.keeps kA))
  have HN := Lib.hid (hN.keeps kA)
  have hmb := hN.mb
  clear hN hB
  generalize hw0 : w.alloc (.cells #[.slice A m c, .slice B mm d] 27) = w0 at *
  generalize hbx : w.heap.size = bx at *
  have HW0 := Lib.hid hw0
  have HBX := Lib.hid hbx
  have HKA := Lib.hid kA
  clear hw0 hbx kA
  cases v1 : netB m L X mm M
  · have HV : Hid (-1 = wakeI m L X mm M s) := Lib.hid (by unfold wakeI nodeB; rw [v1]; rfl)
    rw [v1] at CC
    clear v1
    go_enter Try.func35, Try.ntmps35
    go_upto_region 1 with fail
    rw [HBX.out, HW0.out]
    go_wp2_with fail
    refine CC.out.mono ?_
    rintro e w1 ⟨rfl, hk1⟩
    go_wp2
    go_ret
    exact ⟨ret_int HV.out, HKA.out.step hk1⟩
  · have ok := net_true v1
    have hm1 := ok.lo
    have hm6 := ok.hi
    rw [v1] at CC
    cases v2 : inB s 0 ((m : Int) - 1)
    · have HV : Hid (-1 = wakeI m L X mm M s) := Lib.hid (by unfold wakeI nodeB; rw [v1, v2]; rfl)
      have CIR : Hid (∀ w, Calls Try.prog 51 #[.int .i64 s, .int .i64 0, .int .i64 ((m : Int) - 1)] w fun e w' => e = .returned (.bool false) ∧ w = w') := Lib.hid (fun w => by rw [← v2]; exact inRange_any _ _ _ w)
      clear v1 v2 ok
      go_enter Try.func35, Try.ntmps35
      go_upto_region 1 with fail
      rw [HBX.out, HW0.out]
      go_wp2_with fail
      refine CC.out.mono ?_
      rintro e w1 ⟨rfl, hk1⟩
      have g0 := cell_keeps hk1 d0
      go_wp2_with fail
      refine (CIR.out _).mono ?_
      rintro e w2 ⟨rfl, rfl⟩
      go_wp2
      go_ret
      exact ⟨ret_int HV.out, HKA.out.step hk1⟩
    · have hs := inB_true v2
      obtain ⟨k, rfl⟩ := Int.eq_ofNat_of_zero_le hs.1
      have hkm : k < m := by omega
      have HV : Hid ((wakeF L (portT X) m k : Nat) = wakeI m L X mm M k) := Lib.hid (by unfold wakeI nodeB; rw [v1, v2]; rfl)
      have CIR : Hid (∀ w, Calls Try.prog 51 #[.int .i64 k, .int .i64 0, .int .i64 ((m : Int) - 1)] w fun e w' => e = .returned (.bool true) ∧ w = w') := Lib.hid (fun w => by rw [← v2]; exact inRange_any _ _ _ w)
      have HLT := Lib.hid (wake_lt ok.node ok.back ok.reach hkm)
      have HAT := Lib.hid (wake_at ok.node ok.back ok.reach hkm)
      have HBE := Lib.hid (fun (q : Nat) (h : q < wakeF L (portT X) m k) => wake_before (L := L) (T := portT X) (m := m) h)
      have hp2 : 2 ^ k < 2 ^ m := Nat.pow_lt_pow_right (by omega) hkm
      have HOK := Lib.hid ok
      have CP : Hid (∀ w, Calls Try.prog 66 #[.int .i64 k] w fun e w' => e = .returned (.int .i64 ((2 ^ k : Nat) : Int)) ∧ w = w') := Lib.hid (fun w => spower_any k w (by omega))
      have CW : Hid (∀ (q : Nat) w', q ≤ 6 → Keeps w0 w' → Calls Try.prog 65 #[.agg #[.slice A m c, .slice B mm d], .int .i64 ((2 ^ k : Nat) : Int), .int .i64 q] w' fun e w'' => e = .returned (.bool (wakeB L (portT X) m q (2 ^ k))) ∧ Keeps w' w'') := Lib.hid (fun q w' hq hk => wakeFrom_any (c := c) (d := d) q (by omega) (2 ^ k) w' hp2 (HN.out.keeps hk) HOK.out)
      clear v1 v2 ok hs hp2
      go_enter Try.func35, Try.ntmps35
      go_upto_region 1 with fail
      rw [HBX.out, HW0.out]
      go_wp2_with fail
      refine CC.out.mono ?_
      rintro e w1 ⟨rfl, hk1⟩
      have g0 := cell_keeps hk1 d0
      go_wp2_with fail
      refine (CIR.out _).mono ?_
      rintro e w2 ⟨rfl, rfl⟩
      clear g0
      go_wp2_with fail
      go_loopw [5] (fun i wr => ∃ q : Nat, Hid (q ≤ wakeF L (portT X) m k) ∧ q ≤ 6 ∧ i = .int .i64 q ∧ Keeps w0 wr) (fun i _ => 7 - (intOf i).toNat)
      case atStart => exact ⟨0, Lib.hid (Nat.zero_le _), by omega, rfl, hk1⟩
      case round =>
        clear hk1
        obtain ⟨q, HQ, hq6, rfl, hK⟩ := hrel
        have g0 := cell_keeps hK d0
        have g1 := cell_keeps hK d1
        have CQ := Lib.hid (fun w' hk => CW.out q w' hq6 hk)
        obtain ⟨bb, hbb⟩ : ∃ bb, bb = wakeB L (portT X) m q (2 ^ k) := ⟨_, rfl⟩
        rw [← hbb] at CQ
        have HT : Hid (q = wakeF L (portT X) m k → bb = true) := Lib.hid (fun e => by rw [hbb, e]; exact HAT.out)
        have HF : Hid (q < wakeF L (portT X) m k → bb = false) := Lib.hid (fun e => by rw [hbb]; exact HBE.out q e)
        clear hbb
        generalize 2 ^ k = P at *
        go_wp2_with fail
        go_region_held3 (fun w' => w'.cell? ⟨bx, 0, none⟩ = some (.slice A m c) ∧ w'.cell? ⟨bx, 1, none⟩ = some (.slice B mm d) ∧ Keeps wr w') (first | exact ⟨cell_keeps hk9 q0, cell_keeps hk9 q1, q2.step hk9⟩ | exact ⟨g0, g1, Keeps.drew1 _⟩) (first | (go_at_call 66; (with_reducible refine (CP.out _).mono ?_); rintro e w8 ⟨rfl, rfl⟩) | (go_at_call 65; obtain ⟨q0, q1, q2⟩ : _ ∧ _ ∧ Keeps wr _ := (by assumption); (with_reducible refine (CQ.out _ (hK.step q2)).mono ?_); rintro e w9 ⟨rfl, hk9⟩))
        have hK9 := hK.step (q2.step hk9)
        by_cases e : q = wakeF L (portT X) m k
        · have HE := Lib.hid e
          obtain rfl := HT.out e
          clear e
          go_wp2_with fail
          go_ret
          exact ⟨ret_int (by rw [HE.out]; exact HV.out), HKA.out.step hK9⟩
        · have HQ1 : Hid (q + 1 ≤ wakeF L (portT X) m k ∧ q + 1 ≤ 6) := Lib.hid (by have := HQ.out; have := HLT.out; omega)
          obtain rfl := HF.out (by have := HQ.out; omega)
          clear e
          go_wp2_with fail
          go_roundw
          case rel => exact ⟨q + 1, Lib.hid HQ1.out.1, HQ1.out.2, by go_num, hK9⟩
          case measure => simp [intOf]; omega
end
end Go.Proofs.Ytdjilgbcpdlkfaa
