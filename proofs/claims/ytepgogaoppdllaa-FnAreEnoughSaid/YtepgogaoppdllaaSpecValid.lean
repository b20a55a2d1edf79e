/-
  The contract of validRun (the reference). Condition: lengths at most 2^40.
-/
import Derived.Test.YtepgogaoppdllaaSeenEq
namespace Go.Proofs.Ytepgogaoppdllaa
open Go.RowKit

/-- The guards of the reference's round say what the program's say. -/
theorem bad_zero (n : Nat) (st : Nat → Int × Int × Int) : stopBad n st 0 = !(inB (st 0).1 0 ((n : Int) - 1) && inB (st 0).2.1 1 4 && inB (st 0).2.2 0 (((2 ^ n : Nat) : Int) - 1)) := rfl
theorem inB_gap (a b n : Int) (h : 0 ≤ a) : inB b (a + 1) n = (inB b 0 n && !decide (b ≤ a)) := by
  unfold inB
  rw [Bool.eq_iff_iff]
  simp only [decide_eq_true_eq, Bool.and_eq_true, Bool.not_eq_true', decide_eq_false_iff_not]
  omega
theorem bad_succ (n : Nat) (st : Nat → Int × Int × Int) (k : Nat) (h : 0 ≤ (st k).1) : stopBad n st (k + 1) = (!(inB (st (k + 1)).1 0 ((n : Int) - 1) && inB (st (k + 1)).2.1 1 4 && inB (st (k + 1)).2.2 0 (((2 ^ n : Nat) : Int) - 1)) || decide ((st (k + 1)).1 ≤ (st k).1)) := by
  unfold stopBad
  rw [show inB (st (k + 1)).1 (lastP st (k + 1) + 1) ((n : Int) - 1) = (inB (st (k + 1)).1 0 ((n : Int) - 1) && !decide ((st (k + 1)).1 ≤ (st k).1)) from inB_gap _ _ _ h]
  cases inB (st (k + 1)).1 0 ((n : Int) - 1) <;> cases decide ((st (k + 1)).1 ≤ (st k).1) <;> simp
theorem good_nonneg {n : Nat} {st : Nat → Int × Int × Int} {k : Nat} (h : anyB (stopBad n st) (k + 1) = false) : ∀ j, j ≤ k → 0 ≤ (st j).1
  | 0, _ => by
    have := (anyB_false _ _).1 h 0 (by omega)
    simp only [stopBad, Bool.not_eq_false', Bool.and_eq_true, lastP] at this
    have := inB_true this.1.1
    omega
  | j + 1, hj => by
    have ih := good_nonneg h j (by omega)
    have := (anyB_false _ _).1 h (j + 1) (by omega)
    simp only [stopBad, Bool.not_eq_false', Bool.and_eq_true, lastP] at this
    have := inB_true this.1.1
    omega

set_option maxRecDepth 100000 in
set_option maxHeartbeats 4000000 in
theorem svalidRun_any (I S : Option Addr) (n ci m cs : Nat) (x : Nat → Int) (st : Nat → Int × Int × Int) (w : World) (hn : n ≤ 1099511627776) (hm : m ≤ 1099511627776) (hI : Ints w I n x) (hS : Stops w S m st) :
    Calls Try.prog 47 #[.agg #[.slice I n ci, .slice S m cs]] w fun e w' => e = .returned (.bool (runB n x m st)) ∧ Keeps w w' := by
  have HI := Lib.hid hI
  have HS := Lib.hid hS
  clear hS hI
  cases h1 : inB n 1 4
  · have HV : Hid (false = runB n x m st) := Lib.hid (by unfold runB; rw [h1]; simp)
    have H1 := Lib.hid h1
    clear h1
    go_enter Try.func47, Try.ntmps47
    go_wp2_with fail
    refine (inRange_any _ _ _ _).mono ?_
    rintro e w1 ⟨rfl, rfl⟩
    rw [H1.out]
    go_wp2
    go_ret
    exact ⟨ret_bool HV.out, Keeps.alloc _ _⟩
  · have hn1 := inB_true h1
    have hn62 : n ≤ 62 := by omega
    have hp : 2 ^ n ≤ 16 := Nat.le_trans (Nat.pow_le_pow_right (by omega) (show n ≤ 4 by omega)) (by omega)
    have hp1 : 1 ≤ 2 ^ n := Nat.two_pow_pos n
    have H1 := Lib.hid h1
    clear h1
    go_enter Try.func47, Try.ntmps47
    go_wp2_with fail
    refine (inRange_any _ _ _ _).mono ?_
    rintro e w1 ⟨rfl, rfl⟩
    rw [H1.out]
    go_wp2_with fail
    go_loopw [4] (fun i wr => ∃ k : Nat, k ≤ n ∧ i = .int .i64 k ∧ anyB (fun i => !inB (x i) 0 3) k = false ∧ Blk wr w.heap.size 26 #[.slice I n ci, .slice S m cs] ∧ Keeps w wr) (fun i _ => n - (intOf i).toNat)
    case atStart => exact ⟨0, by omega, rfl, rfl, Blk.new _ _ _, Keeps.alloc _ _⟩
    case round =>
      obtain ⟨k, hk, rfl, hA, hB, hK⟩ := hrel
      have b0 : wr.cell? ⟨w.heap.size, 0, none⟩ = some (.slice I n ci) := hB.cell 0
      have b1 : wr.cell? ⟨w.heap.size, 1, none⟩ = some (.slice S m cs) := hB.cell 1
      have HA := Lib.hid hA
      have HB := Lib.hid hB
      clear hA hB
      by_cases hlt : k < n
      · obtain ⟨d, off, rfl, hc⟩ := HI.out.keeps hK k hlt
        cases e1 : inB (x k) 0 3
        · have HV : Hid (false = runB n x m st) := Lib.hid (by unfold runB; rw [(anyB_iff _ _).2 ⟨k, hlt, by rw [e1]; rfl⟩]; simp)
          have E1 := Lib.hid e1
          clear e1
          go_wp2_with fail
          refine (inRange_any _ _ _ _).mono ?_
          rintro e w1 ⟨rfl, rfl⟩
          rw [E1.out]
          go_wp2
          go_ret
          exact ⟨ret_bool HV.out, hK⟩
        · have HV := Lib.hid (show anyB (fun i => !inB (x i) 0 3) (k + 1) = false by rw [anyB, HA.out, e1]; rfl)
          have E1 := Lib.hid e1
          clear e1
          go_wp2_with fail
          refine (inRange_any _ _ _ _).mono ?_
          rintro e w1 ⟨rfl, rfl⟩
          rw [E1.out]
          go_wp2
          go_roundw
          case rel => exact ⟨k + 1, by omega, by go_num, HV.out, HB.out, hK⟩
          case measure => simp [intOf]; omega
      · obtain rfl : k = n := by omega
        have hKa := hK
        clear hK b0 hlt hk
        obtain ⟨wa, rfl⟩ : ∃ wa : World, wa = wr := ⟨_, rfl⟩
        have HR : Hid ((!anyB (stopBad k st) m) = runB k x m st) := Lib.hid (by unfold runB; rw [H1.out, HA.out]; simp)
        go_wp2_with fail
        go_loopw [5] (fun i wr => ∃ j : Nat, j ≤ m ∧ i = .int .i64 j ∧ anyB (stopBad k st) j = false ∧ Blk wr w.heap.size 26 #[.slice I k ci, .slice S m cs] ∧ Keeps w wr) (fun i _ => m - (intOf i).toNat)
        case atStart => exact ⟨0, by omega, rfl, rfl, HB.out, hKa⟩
        case round =>
          clear HB hKa b1
          obtain ⟨j, hj, rfl, hA2, hB, hK⟩ := hrel
          have b1 : wr.cell? ⟨w.heap.size, 1, none⟩ = some (.slice S m cs) := hB.cell 1
          have HA2 := Lib.hid hA2
          have HB := Lib.hid hB
          clear hA2 hB
          by_cases hlt : j < m
          · obtain ⟨d, off, rfl, s0, s1, s2⟩ := HS.out.keeps hK j hlt
            have HS2 := Lib.hid (HS.out.keeps hK)
            have HF : Hid (stopBad k st j = true → false = runB k x m st) := Lib.hid (fun h => by rw [← HR.out, (anyB_iff _ _).2 ⟨j, hlt, h⟩]; rfl)
            have HG : Hid (stopBad k st j = false → anyB (stopBad k st) (j + 1) = false) := Lib.hid (fun h => by rw [anyB, HA2.out, h]; rfl)
            have W2 : IntKind.i64.wrap ((k : Int) - 1) = (k : Int) - 1 := by rw [IntKind.wrap_i64]; omega
            have W4 : IntKind.i64.wrap (((2 ^ k : Nat) : Int) - 1) = ((2 ^ k : Nat) : Int) - 1 := by rw [IntKind.wrap_i64]; omega
            have HPW := Lib.hid (fun w => spower_any k w hn62)
            by_cases hz : j = 0
            · have hj0 : ¬ (0 < j) := by omega
              have HT := Lib.hid (show stopBad k st j = !(inB (st j).1 0 ((k : Int) - 1) && inB (st j).2.1 1 4 && inB (st j).2.2 0 (((2 ^ k : Nat) : Int) - 1)) by subst hz; exact bad_zero k st)
              clear hz
              generalize 2 ^ k = q at *
              cases e1 : inB (st j).1 0 ((k : Int) - 1)
              · have HV := Lib.hid (HF.out (by rw [HT.out, e1]; rfl))
                go_wp2_with fail
                go_quiet (first | ((go_at_call 48; exact Calls.quiet_of_same ((inRange_any _ _ _ _).mono fun _ _ h => ⟨h.1, h.2.symm⟩))) | ((go_at_call 50; exact Calls.quiet_of_same ((HPW.out _).mono fun _ _ h => ⟨h.1, h.2.symm⟩))))
                go_wp2
                go_ret
                exact ⟨ret_bool HV.out, hK.step ((Keeps.alloc _ _).step (Keeps.drewN _ _))⟩
              · cases e2 : inB (st j).2.1 1 4
                · have HV := Lib.hid (HF.out (by rw [HT.out, e1, e2]; rfl))
                  go_wp2_with fail
                  go_quiet (first | ((go_at_call 48; exact Calls.quiet_of_same ((inRange_any _ _ _ _).mono fun _ _ h => ⟨h.1, h.2.symm⟩))) | ((go_at_call 50; exact Calls.quiet_of_same ((HPW.out _).mono fun _ _ h => ⟨h.1, h.2.symm⟩))))
                  go_wp2
                  go_ret
                  exact ⟨ret_bool HV.out, hK.step ((Keeps.alloc _ _).step (Keeps.drewN _ _))⟩
                · cases e3 : inB (st j).2.2 0 ((q : Int) - 1)
                  · have HV := Lib.hid (HF.out (by rw [HT.out, e1, e2, e3]; rfl))
                    go_wp2_with fail
                    go_quiet (first | ((go_at_call 48; exact Calls.quiet_of_same ((inRange_any _ _ _ _).mono fun _ _ h => ⟨h.1, h.2.symm⟩))) | ((go_at_call 50; exact Calls.quiet_of_same ((HPW.out _).mono fun _ _ h => ⟨h.1, h.2.symm⟩))))
                    go_wp2
                    go_ret
                    exact ⟨ret_bool HV.out, hK.step ((Keeps.alloc _ _).step (Keeps.drewN _ _))⟩
                  · have HV := Lib.hid (HG.out (by rw [HT.out, e1, e2, e3]; rfl))
                    go_wp2_with fail
                    go_quiet (first | ((go_at_call 48; exact Calls.quiet_of_same ((inRange_any _ _ _ _).mono fun _ _ h => ⟨h.1, h.2.symm⟩))) | ((go_at_call 50; exact Calls.quiet_of_same ((HPW.out _).mono fun _ _ h => ⟨h.1, h.2.symm⟩))))
                    go_wp2
                    go_roundw
                    case rel => exact ⟨j + 1, by omega, by go_num, HV.out, (HB.out.keeps (Keeps.alloc _ _)).keeps (Keeps.drewN _ _), hK.step ((Keeps.alloc _ _).step (Keeps.drewN _ _))⟩
                    case measure => simp [intOf]; omega
            · obtain ⟨i, hi⟩ : ∃ i, j = i + 1 := ⟨j - 1, by omega⟩
              have hj0 : 0 < j := by omega
              have him : (i : Int) < m := by omega
              have him2 : i < m := by omega
              have W5 : IntKind.i64.wrap ((j : Int) - 1) = (i : Int) := by rw [IntKind.wrap_i64]; omega
              obtain ⟨d', off', e', s0', _, _⟩ := HS2.out i (by omega)
              cases e'
              have HT := Lib.hid (show stopBad k st j = (!(inB (st j).1 0 ((k : Int) - 1) && inB (st j).2.1 1 4 && inB (st j).2.2 0 (((2 ^ k : Nat) : Int) - 1)) || decide ((st j).1 ≤ (st i).1)) by rw [hi]; exact bad_succ k st i (good_nonneg (k := i) (by rw [← hi]; exact HA2.out) i (Nat.le_refl _)))
              have hlb := HB.out.lt
              have hld := World.block_lt_of_cell? _ _ s0'
              have b1' : ∀ o, (wr.alloc o).cell? ⟨w.heap.size, 1, none⟩ = some (.slice (some ⟨d, off, none⟩) m cs) := fun o => cell_keeps (Keeps.alloc wr o) b1
              have s0'' : ∀ o, (wr.alloc o).cell? ⟨d, off + i * 3, none⟩ = some (.int .i64 (st i).1) := fun o => cell_keeps (Keeps.alloc wr o) s0'
              clear hz hi
              generalize 2 ^ k = q at *
              cases e1 : inB (st j).1 0 ((k : Int) - 1)
              · have HV := Lib.hid (HF.out (by rw [HT.out, e1]; rfl))
                go_wp2_with fail
                go_quiet (first | ((go_at_call 48; exact Calls.quiet_of_same ((inRange_any _ _ _ _).mono fun _ _ h => ⟨h.1, h.2.symm⟩))) | ((go_at_call 50; exact Calls.quiet_of_same ((HPW.out _).mono fun _ _ h => ⟨h.1, h.2.symm⟩))))
                go_wp2
                go_ret
                exact ⟨ret_bool HV.out, hK.step ((Keeps.alloc _ _).step (Keeps.drewN _ _))⟩
              · cases e2 : inB (st j).2.1 1 4
                · have HV := Lib.hid (HF.out (by rw [HT.out, e1, e2]; rfl))
                  go_wp2_with fail
                  go_quiet (first | ((go_at_call 48; exact Calls.quiet_of_same ((inRange_any _ _ _ _).mono fun _ _ h => ⟨h.1, h.2.symm⟩))) | ((go_at_call 50; exact Calls.quiet_of_same ((HPW.out _).mono fun _ _ h => ⟨h.1, h.2.symm⟩))))
                  go_wp2
                  go_ret
                  exact ⟨ret_bool HV.out, hK.step ((Keeps.alloc _ _).step (Keeps.drewN _ _))⟩
                · cases e3 : inB (st j).2.2 0 ((q : Int) - 1)
                  · have HV := Lib.hid (HF.out (by rw [HT.out, e1, e2, e3]; rfl))
                    go_wp2_with fail
                    go_quiet (first | ((go_at_call 48; exact Calls.quiet_of_same ((inRange_any _ _ _ _).mono fun _ _ h => ⟨h.1, h.2.symm⟩))) | ((go_at_call 50; exact Calls.quiet_of_same ((HPW.out _).mono fun _ _ h => ⟨h.1, h.2.symm⟩))))
                    go_wp2
                    go_ret
                    exact ⟨ret_bool HV.out, hK.step ((Keeps.alloc _ _).step (Keeps.drewN _ _))⟩
                  · by_cases e4 : (st j).1 ≤ (st i).1
                    · have HV := Lib.hid (HF.out (by rw [HT.out, e1, e2, e3]; simpa using e4))
                      go_wp2_with fail
                      go_quiet (first | ((go_at_call 48; exact Calls.quiet_of_same ((inRange_any _ _ _ _).mono fun _ _ h => ⟨h.1, h.2.symm⟩))) | ((go_at_call 50; exact Calls.quiet_of_same ((HPW.out _).mono fun _ _ h => ⟨h.1, h.2.symm⟩))))
                      go_wp2
                      go_ret
                      exact ⟨ret_bool HV.out, hK.step ((Keeps.alloc _ _).step (Keeps.drewN _ _))⟩
                    · have HV := Lib.hid (HG.out (by rw [HT.out, e1, e2, e3]; simpa using e4))
                      go_wp2_with fail
                      go_quiet (first | ((go_at_call 48; exact Calls.quiet_of_same ((inRange_any _ _ _ _).mono fun _ _ h => ⟨h.1, h.2.symm⟩))) | ((go_at_call 50; exact Calls.quiet_of_same ((HPW.out _).mono fun _ _ h => ⟨h.1, h.2.symm⟩))))
                      go_wp2
                      go_roundw
                      case rel => exact ⟨j + 1, by omega, by go_num, HV.out, (HB.out.keeps (Keeps.alloc _ _)).keeps (Keeps.drewN _ _), hK.step ((Keeps.alloc _ _).step (Keeps.drewN _ _))⟩
                      case measure => simp [intOf]; omega
          · have : j = m := by omega
            subst this
            rw [HA2.out] at HR
            have HV : Hid (true = runB k x j st) := HR
            go_wp2
            go_ret
            exact ⟨ret_bool HV.out, hK⟩
end Go.Proofs.Ytepgogaoppdllaa
