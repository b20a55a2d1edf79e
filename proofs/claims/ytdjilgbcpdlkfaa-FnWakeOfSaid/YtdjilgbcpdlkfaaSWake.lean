/-
  The contracts of weight, wakeFrom, spread and WakeOf of the reference. Condition: a valid net.
-/
import Derived.Test.YtdjilgbcpdlkfaaIWake
import Derived.Deep.QuietTactic
import Derived.BigQuiet
namespace Go.Proofs.Ytdjilgbcpdlkfaa
open Go.RowKit

theorem bit_half (a j : Nat) : a / 2 ^ j % 2 = if a.testBit j then 1 else 0 := by
  rw [Nat.testBit_eq_decide_div_mod_eq]
  generalize a / 2 ^ j = q
  by_cases h : q % 2 = 1
  · simp [h]
  · simp only [h, decide_false]
    simp
    omega
theorem div_next (a j : Nat) : a / 2 ^ j / 2 = a / 2 ^ (j + 1) := by rw [Nat.div_div_eq_div_mul, Nat.pow_succ]
theorem cnt_over {a : Nat} : ∀ d j, a / 2 ^ j = 0 → cntB a.testBit (j + d) = cntB a.testBit j
  | 0, _, _ => rfl
  | d + 1, j, h => by
    have hb : a.testBit (j + d) = false := by
      refine Nat.testBit_lt_two_pow (Nat.lt_of_lt_of_le ?_ (Nat.pow_le_pow_right (by omega) (Nat.le_add_right j d)))
      rcases (Nat.div_eq_zero_iff).1 h with h | h
      · exact absurd h (Nat.ne_of_gt (Nat.two_pow_pos j))
      · exact h
    show cntB a.testBit (j + d) + (if a.testBit (j + d) then 1 else 0) = _
    rw [hb, cnt_over d j h]
    rfl
theorem anyB_upW {p : Nat → Bool} {n j : Nat} (h : anyB p (j + 1) = true) (hj : j < n) : anyB p n = true := by
  rw [anyB_iff] at h ⊢
  obtain ⟨i, hi, hp⟩ := h
  exact ⟨i, by omega, hp⟩
set_option maxHeartbeats 2000000 in
theorem weight_any (m a : Nat) (w : World) (hm : m ≤ 6) (ha : a < 2 ^ m) : Calls Try.prog 82 #[.int .i64 a] w fun e w' => e = .returned (.int .i64 (wgt m a : Nat)) ∧ w = w' := by
  have ha64 := lt_63 hm ha
  have HEND : Hid (∀ j, j ≤ m → a / 2 ^ j = 0 → cntB a.testBit j = wgt m a) := Lib.hid (fun j hj h => by
    have := cnt_over (m - j) j h
    rw [show j + (m - j) = m by omega] at this
    exact this.symm)
  have HM : Hid (∀ j, m ≤ j → a / 2 ^ j = 0) := Lib.hid (fun j hj => Nat.div_eq_of_lt (Nat.lt_of_lt_of_le ha (Nat.pow_le_pow_right (by omega) hj)))
  have HB := Lib.hid (bit_half a)
  have HD := Lib.hid (div_next a)
  have HLE : Hid (∀ j, a / 2 ^ j ≤ a) := Lib.hid (fun j => Nat.div_le_self _ _)
  clear ha
  go_enter Try.func82, Try.ntmps82
  go_wp2_with fail
  go_loop [0, 3] (fun x n => ∃ j : Nat, Hid (j ≤ m) ∧ x = .int .i64 (a / 2 ^ j : Nat) ∧ n = .int .i64 (cntB a.testBit j : Nat)) (fun x _ => (intOf x).toNat)
  case atStart => exact ⟨0, Lib.hid (by omega), by simp, rfl⟩
  case round =>
    obtain ⟨j, HJ, rfl, rfl⟩ := hrel
    have hle := cntB_le a.testBit j
    have hj6 : j ≤ 6 := by have := HJ.out; omega
    by_cases hz : a / 2 ^ j = 0
    · have HE := Lib.hid (HEND.out j HJ.out hz)
      rw [hz]
      clear hz
      go_wp2
      go_ret
      exact ⟨ret_int (by rw [HE.out]), rfl⟩
    · have HJ1 : Hid (j + 1 ≤ m) := Lib.hid (by
        by_cases h : m ≤ j
        · exact absurd (HM.out j h) hz
        · omega)
      have HBJ := Lib.hid (HB.out j)
      have HDJ := Lib.hid (HD.out j)
      have hqa := HLE.out j
      have HCN : Hid (cntB a.testBit (j + 1) = cntB a.testBit j + (if a.testBit j then 1 else 0)) := Lib.hid rfl
      generalize cntB a.testBit j = n0 at *
      generalize a / 2 ^ j = q at *
      have hq1 : (1 : Int) ≤ q := by omega
      clear hz
      cases e : a.testBit j
      · have HV : Hid (((q : Int) % 2) = 0) := Lib.hid (by have := HBJ.out; rw [e] at this; simp at this; omega)
        have HV2 : Hid (cntB a.testBit (j + 1) = n0) := Lib.hid (by rw [HCN.out, e]; simp)
        clear e
        go_wp2
        go_round
        case rel => exact ⟨j + 1, HJ1, by rw [← HDJ.out]; go_num, by rw [HV.out, HV2.out]; go_num⟩
        case measure => simp [intOf]; omega
      · have HV : Hid (((q : Int) % 2) = 1) := Lib.hid (by have := HBJ.out; rw [e] at this; simp at this; omega)
        have HV2 : Hid (cntB a.testBit (j + 1) = n0 + 1) := Lib.hid (by rw [HCN.out, e]; simp)
        clear e
        go_wp2
        go_round
        case rel => exact ⟨j + 1, HJ1, by rw [← HDJ.out]; go_num, by rw [HV.out, HV2.out]; go_num⟩
        case measure => simp [intOf]; omega
section
variable {A B C : Option Addr} {m c mm d cc : Nat} {r : Nat → Option Addr × Nat × Nat} {L : Nat → Nat} {X : Nat → Nat → Int} {M : Nat → Int}
set_option maxRecDepth 100000 in
set_option maxHeartbeats 16000000 in
theorem spread_any (l a : Nat) (hl : l ≤ 6) (hm6 : m ≤ 6) (ha : a < 2 ^ m) (ihW : ∀ (y : Nat) (w : World), y < 2 ^ m → NetAt w A m r B mm L X M → Calls Try.prog 65 #[.agg #[.slice A m c, .slice B mm d], .int .i64 y, .int .i64 l] w fun e w' => e = .returned (.bool (wakeB L (portT X) m l y)) ∧ Keeps w w') (k : Nat) :
    ∀ (from' x : Nat) (w : World), from' + k = m → x < 2 ^ m → NetAt w A m r B mm L X M → NetOk m L X mm M →
    Calls Try.prog 83 #[.agg #[.slice A m c, .slice B mm d], .int .i64 a, .int .i64 x, .int .i64 from', .int .i64 ((l : Int) + 1)] w fun e w' => e = .returned (.bool ((tellL L (portT X) m a k x).any (fun y => y != a && wakeB L (portT X) m l y))) ∧ Keeps w w' := by
  induction k using Nat.strongRecOn with
  | ind k ih =>
    intro fr x w hk hx hN ok
    have hmb := hN.mb
    have ha64 := lt_63 hm6 ha
    have hx64 := lt_63 hm6 hx
    have kA := Keeps.alloc w (.cells #[.slice A m c, .slice B mm d] 27)
    have hB := Blk.new w #[.slice A m c, .slice B mm d] 27
    have d0 : (w.alloc (.cells #[.slice A m c, .slice B mm d] 27)).cell? ⟨w.heap.size, 0, none⟩ = some (.slice A m c) := hB.cell 0
    have d1 : (w.alloc (.cells #[.slice A m c, .slice B mm d] 27)).cell? ⟨w.heap.size, 1, none⟩ = some (.slice B mm d) := hB.cell 1
    have HN := Lib.hid (hN.keeps kA)
    have HIH := Lib.hid ih
    have HW := Lib.hid ihW
    have HOK := Lib.hid ok
    have HMK : Hid (m - fr = k) := Lib.hid (by omega)
    have HX := Lib.hid hx
    have HA := Lib.hid ha
    have hfr : fr ≤ m := by omega
    generalize hw0 : w.alloc (.cells #[.slice A m c, .slice B mm d] 27) = w0 at *
    generalize hbx : w.heap.size = bx at *
    have HW0 := Lib.hid hw0
    have HBX := Lib.hid hbx
    have HKA := Lib.hid kA
    clear hw0 hbx kA ih ihW hN ok hk hx ha hB
    obtain ⟨f, hf⟩ : ∃ f : Nat → Bool, f = fun y => y != a && wakeB L (portT X) m l y := ⟨_, rfl⟩
    rw [← hf] at HIH
    rw [← hf]
    have HF := Lib.hid hf
    clear hf
    go_enter Try.func83, Try.ntmps83
    go_upto_region 1 with fail
    rw [HBX.out, HW0.out]
    go_wp2_with fail
    go_loop [3] (fun i => ∃ j : Nat, fr ≤ j ∧ j ≤ m ∧ i = .int .i64 j ∧ Hid (tellL L (portT X) m a (m - fr) x = tellL L (portT X) m a (m - j) x)) (fun i => m - (intOf i).toNat)
    case atStart => exact ⟨fr, by omega, hfr, rfl, Lib.hid rfl⟩
    case round =>
      obtain ⟨j, hnj, hjm, rfl, HE⟩ := hrel
      by_cases hlt : j < m
      · have hji : (j : Int) < m := by omega
        have hjne : ((j : Int) == m) = false := by simp; omega
        go_wp2_with fail
        refine (sbit_any a j _ (by omega) (by omega)).mono ?_
        rintro e w1 ⟨rfl, rfl⟩
        cases e : a.testBit j
        · have hb : bitI false = 0 := rfl
          have HNX : Hid (tellL L (portT X) m a (m - fr) x = tellL L (portT X) m a (m - (j + 1)) x) := Lib.hid (by
            rw [HE.out]
            obtain ⟨q, hq⟩ : ∃ q, m - j = q + 1 := ⟨m - j - 1, by omega⟩
            rw [hq, tell_skip _ _ _ _ _ _ (by rw [show m - (q + 1) = j by omega]; exact e), show m - (j + 1) = q by omega])
          clear e
          rw [hb]
          clear hb
          go_wp2_with fail
          go_round
          case rel => exact ⟨j + 1, by omega, by omega, by go_num, HNX⟩
          case measure => simp [intOf]; omega
        · have hb : bitI true = 1 := rfl
          have E := Lib.hid e
          clear e
          rw [hb]
          clear hb
          obtain ⟨q, hq⟩ : ∃ q, m - j = q + 1 := ⟨m - j - 1, by omega⟩
          have HEQ : Hid ((tellL L (portT X) m a k x).any f = (anyB (fun p => !x.testBit (portT X j p) && (tellL L (portT X) m a q (x ||| 2 ^ portT X j p)).any f) (L j) || (tellL L (portT X) m a q x).any f)) := Lib.hid (by
            rw [← HMK.out, HE.out, hq, any_ask f _ _ _ _ _ _ (by rw [show m - (q + 1) = j by omega]; exact E.out), show m - (q + 1) = j by omega])
          have hqk : q < k := by have := HMK.out; omega
          have hjq : j + 1 + q = m := by omega
          obtain ⟨⟨bA, oA, rfl, hcV⟩, hrowV⟩ := HN.out.rows j hlt
          have hlv := HN.out.len j hlt
          have hcapv := HN.out.cap j hlt
          obtain ⟨va, vn, vc, hrv⟩ : ∃ va vn vc, r j = (va, vn, vc) := ⟨_, _, _, rfl⟩
          rw [hrv] at hcV hlv hcapv hrowV
          dsimp only at hcV hlv hcapv hrowV
          have HRV := Lib.hid hrowV
          have HLV := Lib.hid hlv
          have CI := Lib.hid (fun (y : Nat) (w' : World) (i : Int) (hy : y < 2 ^ m) (hi : i = (y : Int)) (hkk : Keeps w0 w') => HIH.out q hqk (j + 1) y w' hjq hy (HN.out.keeps hkk) HOK.out)
          have HWJ : Hid ((((j + 1 : Nat)) : Int) = (j : Int) + 1) := Lib.hid (by omega)
          rw [HWJ.out] at CI
          have hw1 : IntKind.i64.wrap ((j : Int) + 1) = (j : Int) + 1 := by rw [IntKind.wrap_i64]; omega
          clear hrowV hlv hrv hq hqk hjq HE E
          go_wp2_with fail
          go_loopw [12] (fun i wi => ∃ p : Nat, p ≤ vn ∧ i = .int .i64 p ∧ Hid (anyB (fun p => !x.testBit (portT X j p) && (tellL L (portT X) m a q (x ||| 2 ^ portT X j p)).any f) p = false) ∧ Keeps w0 wi) (fun i _ => vn - (intOf i).toNat)
          case atStart => exact ⟨0, by omega, rfl, Lib.hid rfl, Keeps.refl _⟩
          case round =>
            obtain ⟨p, hp, rfl, HB, hK⟩ := hrel
            have g0 := cell_keeps hK d0
            have g1 := cell_keeps hK d1
            have gV := cell_keeps hK hcV
            by_cases hltp : p < vn
            · have hpi : (p : Int) < vn := by omega
              obtain ⟨bR, oR, rfl, hcX⟩ := HRV.out p hltp
              have hX := HOK.out.port j p hlt (by rw [← HLV.out]; exact hltp)
              have hu := HOK.out.node j p hlt (by rw [← HLV.out]; exact hltp)
              rw [hX] at hcX
              have gX := cell_keeps hK hcX
              have HNX : Hid (anyB (fun p => !x.testBit (portT X j p) && (tellL L (portT X) m a q (x ||| 2 ^ portT X j p)).any f) (p + 1) = (!x.testBit (portT X j p) && (tellL L (portT X) m a q (x ||| 2 ^ portT X j p)).any f)) := Lib.hid (by
                have : anyB (fun p => !x.testBit (portT X j p) && (tellL L (portT X) m a q (x ||| 2 ^ portT X j p)).any f) (p + 1) = (anyB (fun p => !x.testBit (portT X j p) && (tellL L (portT X) m a q (x ||| 2 ^ portT X j p)).any f) p || (!x.testBit (portT X j p) && (tellL L (portT X) m a q (x ||| 2 ^ portT X j p)).any f)) := rfl
                rw [this, HB.out]; rfl)
              have HUP : Hid (anyB (fun p => !x.testBit (portT X j p) && (tellL L (portT X) m a q (x ||| 2 ^ portT X j p)).any f) (p + 1) = true → true = (tellL L (portT X) m a k x).any f) := Lib.hid (fun h => by
                rw [HEQ.out, anyB_upW h (by rw [← HLV.out]; exact hltp)]; rfl)
              have HOR := Lib.hid (bits_or x (2 ^ portT X j p) (by omega) (pow_lt63 _ (by omega)))
              have CP : Hid (∀ w, Calls Try.prog 66 #[.int .i64 (portT X j p : Nat)] w fun e w' => e = .returned (.int .i64 ((2 ^ portT X j p : Nat) : Int)) ∧ w = w') := Lib.hid (fun w => spower_any _ w (by omega))
              have CB : Hid (∀ w, Calls Try.prog 89 #[.int .i64 x, .int .i64 (portT X j p : Nat)] w fun e w' => e = .returned (.int .i64 (bitI (x.testBit (portT X j p)))) ∧ w = w') := Lib.hid (fun w => sbit_any x _ w (by omega) (by omega))
              have HY : Hid (x ||| 2 ^ portT X j p < 2 ^ m) := Lib.hid (Nat.or_lt_two_pow HX.out (Nat.pow_lt_pow_right (by omega) hu))
              have CS : Hid (∀ w', Keeps w0 w' → Calls Try.prog 83 #[.agg #[.slice (some ⟨bA, oA, none⟩) m c, .slice B mm d], .int .i64 a, .int .i64 (bits .or .i64 (x : Int) ((2 ^ portT X j p : Nat) : Int)), .int .i64 ((j : Int) + 1), .int .i64 ((l : Int) + 1)] w' fun e w'' => e = .returned (.bool ((tellL L (portT X) m a q (x ||| 2 ^ portT X j p)).any f)) ∧ Keeps w' w'') := Lib.hid (fun w' hk => by rw [HOR.out]; exact CI.out _ w' _ HY.out rfl hk)
              clear hX hcX
              cases e : x.testBit (portT X j p)
              · rw [e, show bitI false = 0 from rfl] at CB
                rw [e] at HNX
                obtain ⟨bb, hbb⟩ : ∃ bb, bb = (tellL L (portT X) m a q (x ||| 2 ^ portT X j p)).any f := ⟨_, rfl⟩
                rw [← hbb] at CS HNX
                have HBB := Lib.hid hbb
                clear hbb e HOR HY
                generalize 2 ^ portT X j p = P at *
                generalize portT X j p = u at *
                go_wp2_with fail
                go_region_held3 (fun w' => w'.cell? ⟨bx, 0, none⟩ = some (.slice (some ⟨bA, oA, none⟩) m c) ∧ w'.cell? ⟨bx, 1, none⟩ = some (.slice B mm d) ∧ Keeps wr w') (first | exact ⟨cell_keeps hk9 q0, cell_keeps hk9 q1, q2.step hk9⟩ | exact ⟨g0, g1, Keeps.drew1 _⟩) (first | (go_at_call 89; (with_reducible refine (CB.out _).mono ?_); rintro e w7 ⟨rfl, rfl⟩) | (go_at_call 66; (with_reducible refine (CP.out _).mono ?_); rintro e w8 ⟨rfl, rfl⟩) | (go_at_call 83; obtain ⟨q0, q1, q2⟩ : _ ∧ _ ∧ Keeps wr _ := (by assumption); (with_reducible refine (CS.out _ (hK.step q2)).mono ?_); rintro e w9 ⟨rfl, hk9⟩))
                have hK9 := hK.step (q2.step hk9)
                clear hk9 q0 q1 q2
                cases bb
                · have HB2 : Hid (anyB (fun p => !x.testBit (portT X j p) && (tellL L (portT X) m a q (x ||| 2 ^ portT X j p)).any f) (p + 1) = false) := Lib.hid (by rw [HNX.out]; rfl)
                  go_wp2_with fail
                  go_roundw
                  case rel => exact ⟨p + 1, by omega, by go_num, HB2, hK9⟩
                  case measure => simp [intOf]; omega
                · have HV := Lib.hid (HUP.out (by rw [HNX.out]; rfl))
                  go_wp2_with fail
                  go_ret
                  exact ⟨ret_bool HV.out, HKA.out.step hK9⟩
              · rw [e, show bitI true = 1 from rfl] at CB
                rw [e] at HNX
                have HB2 : Hid (anyB (fun p => !x.testBit (portT X j p) && (tellL L (portT X) m a q (x ||| 2 ^ portT X j p)).any f) (p + 1) = false) := Lib.hid (by rw [HNX.out]; rfl)
                clear e HNX HUP CS CP HOR HY
                generalize portT X j p = u at *
                go_wp2_with fail
                go_quiet ((go_at_call 89; exact Calls.quiet_of_same ((CB.out _).mono fun _ _ h => ⟨h.1, h.2.symm⟩)))
                have hK9 := hK.step (Keeps.drewN wr nq)
                generalize wr.drewN nq = w9 at *
                go_wp2_with fail
                go_roundw
                case rel => exact ⟨p + 1, by omega, by go_num, HB2, hK9⟩
                case measure => simp [intOf]; omega
            · obtain rfl : p = vn := by omega
              have HV : Hid ((tellL L (portT X) m a q x).any f = (tellL L (portT X) m a k x).any f) := Lib.hid (by
                rw [HEQ.out, ← HLV.out, HB.out]; rfl)
              have CX := Lib.hid (CI.out x wr x HX.out rfl hK)
              go_wp2_with fail
              refine CX.out.mono ?_
              rintro e w9 ⟨rfl, hk9⟩
              go_wp2_with fail
              go_ret
              exact ⟨ret_bool HV.out, HKA.out.step (hK.step hk9)⟩
      · obtain rfl : j = m := by omega
        have hjj : ((j : Int) == j) = true := by simp
        have HE0 : Hid (tellL L (portT X) j a k x = [x]) := Lib.hid (by rw [← HMK.out, HE.out, Nat.sub_self]; rfl)
        have HV : Hid ((tellL L (portT X) j a k x).any f = (x != a && wakeB L (portT X) j l x)) := Lib.hid (by rw [HE0.out, HF.out]; simp)
        by_cases e : x = a
        · have hne : ((x : Int) != (a : Int)) = false := by simp [e]
          have HV2 : Hid (false = (tellL L (portT X) j a k x).any f) := Lib.hid (by rw [HV.out]; simp [e])
          clear e
          go_wp2_with fail
          go_ret
          exact ⟨ret_bool HV2.out, HKA.out⟩
        · have hne : ((x : Int) != (a : Int)) = true := by simp; omega
          have HV2 : Hid (wakeB L (portT X) j l x = (tellL L (portT X) j a k x).any f) := Lib.hid (by rw [HV.out]; simp [e])
          have CW := Lib.hid (HW.out x w0 HX.out HN.out)
          clear e
          go_wp2_with fail
          refine CW.out.mono ?_
          rintro e w2 ⟨rfl, hk2⟩
          go_wp2_with fail
          go_ret
          exact ⟨ret_bool HV2.out, HKA.out.step hk2⟩
end
end Go.Proofs.Ytdjilgbcpdlkfaa
