/-
  slices.CompactFunc with slices.Equal on a list of lists that is the call's own, and impl.sorted. Condition: lengths at most 100000.
-/
import Derived.Test.YtaejakejnllimaaComp
namespace Go.Proofs.Ytaejakejnllimaa
set_option maxRecDepth 100000
set_option linter.unusedVariables false
open Go.RowKit

set_option maxRecDepth 100000 in
set_option maxHeartbeats 4000000 in
theorem compactF_any (g m c lo : Nat) (R : List Hdr) (w w0 : World) (hR : Crd w lo (some ⟨g, 0, none⟩) m c R) (hm2 : m ≤ 100000) (hl : ∀ h ∈ R, h.l.length ≤ 1000) (hw0 : Keeps w0 w) (hlo : w0.heap.size ≤ lo) :
    Calls Try.prog 81 #[.slice (some ⟨g, 0, none⟩) m c, .func (.func 64) #[] #[]] w fun e w' => ∃ R' k, e = .returned (.slice (some ⟨g, 0, none⟩) k c) ∧ R'.Sublist R ∧ R'.map (·.l) = compL (R.map (·.l)) ∧ Crn w' lo (some ⟨g, 0, none⟩) k R' ∧ k ≤ c ∧ Keeps w0 w' := by
  have hlen := hR.len
  have HR := Lib.hid hR
  have HW := Lib.hid hw0
  have HLN : Hid (∀ i, i < m → (R.getD i default).l.length ≤ 1000) := Lib.hid (fun i hi => by
    refine hl _ ?_
    rw [List.getD_eq_getElem?_getD, List.getElem?_eq_getElem (by omega)]
    exact List.getElem_mem _)
  obtain ⟨cur0, hcur0, hlog, hmc, hcm, _, _⟩ := hR.top_blk
  have hcx : c ≤ 9223372036854775807 := by unfold maxLen at hcm; omega
  have HMC := Lib.hid hmc
  have hgz := hcur0.lt
  clear hR hw0 hl hcur0 hcm hmc
  by_cases h2 : m < 2
  · have h2' : (m : Int) < 2 := by omega
    have HC : Hid (R.map (·.l) = compL (R.map (·.l))) := Lib.hid (by
      match R, hlen with
      | [], _ => rfl
      | [x], _ => rfl
      | x :: y :: R, h => simp at h; omega)
    go_enter Try.func81, Try.ntmps81
    go_wp2
    go_ret
    exact ⟨R, m, rfl, List.Sublist.refl _, HC.out, HR.out.crn, HMC.out, HW.out⟩
  · have h2' : ¬ ((m : Int) < 2) := by omega
    have HLEN := Lib.hid hlen
    clear hlen
    go_enter Try.func81, Try.ntmps81
    go_wp2_with fail
    go_loopw [5] (fun i wr => ∃ k : Nat, 1 ≤ k ∧ k ≤ m ∧ i = .int .i64 k ∧ Hid (∀ t, 0 < t → t < k → (R.getD t default).l ≠ (R.getD (t - 1) default).l) ∧ Hid (∃ q, wr = w.drewN q)) (fun i _ => m - (intOf i).toNat)
    case atStart => exact ⟨1, Nat.le_refl _, by omega, rfl, Lib.hid (fun t h1 h2 => by omega), Lib.hid ⟨0, rfl⟩⟩
    case round =>
      obtain ⟨k, hk1, hk, rfl, HD, HQ⟩ := hrel
      have hK : Keeps w wr := by obtain ⟨q, e⟩ := HQ.out; rw [e]; exact Keeps.drewN w q
      by_cases hlt : k < m
      · have hki : (k : Int) < m := by omega
        have hk1i : (1 : Int) ≤ k := by omega
        obtain ⟨j, hj⟩ : ∃ j, k = j + 1 := ⟨k - 1, by omega⟩
        have hjn : (j : Int) < m := by omega
        have hjn2 : j < m := by omega
        have W1 : IntKind.i64.wrap ((k : Int) - 1) = (j : Int) := by rw [IntKind.wrap_i64]; omega
        have hO1 := HR.out.keeps hK
        have c1 := hO1.cellD k hlt
        have c0 := hO1.cellD j hjn2
        have HJ : Hid (j = k - 1) := Lib.hid (by omega)
        have HE : Hid (∀ q, Calls Try.prog 64 #[(R.getD k default).v, (R.getD j default).v] (wr.drewN q) fun e w' => e = .returned (.bool (decide ((R.getD k default).l = (R.getD j default).l))) ∧ ∃ q', w' = (wr.drewN q).drewN q') := Lib.hid (fun q => slEqualQ_any _ _ _ _ _ _ _ (by have := HLN.out k hlt; omega) (by have := HLN.out j hjn2; omega) ((hO1.keeps (Keeps.drewN _ q)).rowD k hlt).ints ((hO1.keeps (Keeps.drewN _ q)).rowD j hjn2).ints)
        have HDk : Hid (decide ((R.getD k default).l = (R.getD j default).l) = false → (R.getD k default).l ≠ (R.getD (k - 1) default).l) := Lib.hid (fun h => by rw [← HJ.out]; exact of_decide_eq_false h)
        have HDe : Hid (decide ((R.getD k default).l = (R.getD j default).l) = true → (R.getD k default).l = (R.getD (k - 1) default).l) := Lib.hid (fun h => by rw [← HJ.out]; exact of_decide_eq_true h)
        clear hO1 hj hK
        unfold Hdr.v at c1 c0 HE
        generalize decide ((R.getD k default).l = (R.getD j default).l) = V at *
        generalize (R.getD k default).l.length = lk at *
        generalize (R.getD k default).g = gk at *
        generalize (R.getD k default).c = ck at *
        generalize (R.getD j default).l.length = lj at *
        generalize (R.getD j default).g = gj at *
        generalize (R.getD j default).c = cj at *
        cases V
        · have HDk2 := Lib.hid (HDk.out rfl)
          clear HDk HDe
          go_wp2_with fail
          go_quiet ((go_at_call 64; exact Calls.quiet_of (HE.out _)))
          go_wp2
          go_roundw
          case rel =>
            refine ⟨k + 1, by omega, by omega, by go_num, Lib.hid (fun t h1 h2 => ?_), Lib.hid (by obtain ⟨q, e⟩ := HQ.out; exact ⟨q + nq, by rw [e, World.drewN_drewN]⟩)⟩
            by_cases e : t = k
            · rw [e]; exact HDk2.out
            · exact HD.out t h1 (by omega)
          case measure => simp [intOf]; omega
        · have HEQ := Lib.hid (HDe.out rfl)
          have hkc : (k : Int) ≤ c := by have := HMC.out; omega
          have hnc : (m : Int) ≤ c := by have := HMC.out; omega
          have hkn : (k : Int) ≤ m := by omega
          go_wp2_with fail
          go_quiet ((go_at_call 64; exact Calls.quiet_of (HE.out _)))
          have HKa : Hid (Keeps w (wr.drewN nq)) := Lib.hid (by obtain ⟨q, e⟩ := HQ.out; rw [e, World.drewN_drewN]; exact Keeps.drewN w _)
          have HC0 : Hid (compTo R (k + 1) = R.take k) := Lib.hid (by
            have e : compTo R (k + 1) = if 0 < k ∧ (R.getD k default).l = (R.getD (k - 1) default).l then compTo R k else compTo R k ++ [R.getD k default] := rfl
            rw [e, if_pos ⟨hk1, HEQ.out⟩, compTo_none R k (by have := HLEN.out; omega) HD.out])
          have HCL : Hid ((compTo R (k + 1)).length = k ∧ compSt R (k + 1) = R) := Lib.hid (by
            have h1 : (compTo R (k + 1)).length = k := by rw [HC0.out, List.length_take]; have := HLEN.out; omega
            refine ⟨h1, ?_⟩
            unfold compSt
            rw [h1, HC0.out, List.take_append_drop])
          clear c0 c1 HE HDk HDe HQ
          generalize wr.drewN nq = wa at *
          go_wp2_with fail
          go_loopw [7, 5] (fun b a wr => ∃ q v : Nat, 1 ≤ q ∧ k + q ≤ m ∧ v ≤ k + q - 1 ∧ b = .int .i64 q ∧ a = .int .i64 v ∧ Hid ((compTo R (k + q)).length = v) ∧ Hid (Crd wr lo (some ⟨g, 0, none⟩) m c (compSt R (k + q))) ∧ Hid (Keeps w0 wr)) (fun b _ _ => m - (intOf b).toNat)
          case atStart => exact ⟨1, k, Nat.le_refl _, by omega, by omega, rfl, rfl, Lib.hid HCL.out.1, Lib.hid (by rw [HCL.out.2]; exact HR.out.keeps HKa.out), Lib.hid (HW.out.step HKa.out)⟩
          case round =>
            obtain ⟨q, v, hq1, hqn, hv2, rfl, rfl, HV, HS, HK⟩ := hrel
            have hvi : (v : Int) < m := by omega
            have hvn : v < m := by omega
            by_cases hlq : k + q < m
            · have hqi : (q : Int) < ((m - k : Nat) : Int) := by omega
              have hqi2 : (q : Int) < (m : Int) - k := by omega
              have hqi3 : q < m - k := by omega
              obtain ⟨q1, hq1e⟩ : ∃ q1, q = q1 + 1 := ⟨q - 1, by omega⟩
              have W2 : IntKind.i64.wrap ((q : Int) - 1) = (q1 : Int) := by rw [IntKind.wrap_i64]; omega
              have hq1i : (q1 : Int) < ((m - k : Nat) : Int) := by omega
              have hq1i3 : q1 < m - k := by omega
              have d1 := HS.out.cellD (k + q) hlq
              have d0 := HS.out.cellD (k + q1) (by omega)
              rw [compSt_at R (k + q) (k + q) (by rw [HV.out]; omega)] at d1
              rw [compSt_at R (k + q) (k + q1) (by rw [HV.out]; omega)] at d0
              have dv := HS.out.cellD v hvn
              have fv := HS.out.frozen v
              have r1 := HS.out.rowD (k + q) hlq
              have r0 := HS.out.rowD (k + q1) (by omega)
              rw [compSt_at R (k + q) (k + q) (by rw [HV.out]; omega)] at r1
              rw [compSt_at R (k + q) (k + q1) (by rw [HV.out]; omega)] at r0
              have HQ1 : Hid (k + q1 = k + q - 1) := Lib.hid (by omega)
              have HE : Hid (∀ p, Calls Try.prog 64 #[(R.getD (k + q) default).v, (R.getD (k + q1) default).v] (wr.drewN p) fun e w' => e = .returned (.bool (decide ((R.getD (k + q) default).l = (R.getD (k + q1) default).l))) ∧ ∃ q', w' = (wr.drewN p).drewN q') := Lib.hid (fun p => slEqualQ_any _ _ _ _ _ _ _ (by have := HLN.out (k + q) hlq; omega) (by have := HLN.out (k + q1) (by omega); omega) (r1.keeps (Keeps.drewN _ p)).ints (r0.keeps (Keeps.drewN _ p)).ints)
              have HSK : Hid (decide ((R.getD (k + q) default).l = (R.getD (k + q1) default).l) = true → compSt R (k + q + 1) = compSt R (k + q) ∧ (compTo R (k + q + 1)).length = v) := Lib.hid (fun h => by
                have h1 := compSt_skip R (k + q) ⟨by omega, by rw [← HQ1.out]; exact of_decide_eq_true h⟩
                exact ⟨h1.1, h1.2.trans HV.out⟩)
              have HST : Hid (decide ((R.getD (k + q) default).l = (R.getD (k + q1) default).l) = false → (∀ p, Crd ((wr.drewN p).setCell ⟨g, v, none⟩ (R.getD (k + q) default).v) lo (some ⟨g, 0, none⟩) m c (compSt R (k + q + 1))) ∧ (compTo R (k + q + 1)).length = v + 1) := Lib.hid (fun h => by
                have h1 := compSt_set R (k + q) (by have := HLEN.out; omega) (fun hh => of_decide_eq_false h (by rw [HQ1.out]; exact hh.2))
                refine ⟨fun p => ?_, by rw [h1.2, HV.out]⟩
                rw [h1.1, HV.out]
                exact (HS.out.keeps (Keeps.drewN _ p)).set v _ (r1.keeps (Keeps.drewN _ p)))
              have HLO := Lib.hid (Nat.le_trans hlo hlog)
              unfold Hdr.v at d1 d0 dv HE HST
              generalize decide ((R.getD (k + q) default).l = (R.getD (k + q1) default).l) = V at *
              generalize (R.getD (k + q) default).l.length = lk2 at *
              generalize (R.getD (k + q) default).g = gk2 at *
              generalize (R.getD (k + q) default).c = ck2 at *
              generalize (R.getD (k + q1) default).l.length = lj2 at *
              generalize (R.getD (k + q1) default).g = gj2 at *
              generalize (R.getD (k + q1) default).c = cj2 at *
              generalize ((compSt R (k + q)).getD v default).l.length = lo2 at *
              generalize ((compSt R (k + q)).getD v default).g = go2 at *
              generalize ((compSt R (k + q)).getD v default).c = co2 at *
              clear r1 r0 hq1e
              cases V
              · have HST2 := Lib.hid (HST.out rfl)
                clear HST HSK
                go_wp2_with fail
                go_quiet ((go_at_call 64; exact Calls.quiet_of (HE.out _)))
                go_wp2
                go_roundw
                case rel => exact ⟨q + 1, v + 1, by omega, by omega, by omega, by go_num, by go_num, Lib.hid HST2.out.2, Lib.hid (HST2.out.1 _), Lib.hid (Below.setCell (HK.out.step (Keeps.drewN _ _)) HLO.out _)⟩
                case measure => simp [intOf]; omega
              · have HSK2 := Lib.hid (HSK.out rfl)
                clear HST HSK
                go_wp2_with fail
                go_quiet ((go_at_call 64; exact Calls.quiet_of (HE.out _)))
                go_wp2
                go_roundw
                case rel => exact ⟨q + 1, v, by omega, by omega, by omega, by go_num, rfl, Lib.hid HSK2.out.2, Lib.hid (by rw [show k + (q + 1) = k + q + 1 from rfl, HSK2.out.1]; exact HS.out.keeps (Keeps.drewN _ _)), Lib.hid (HK.out.step (Keeps.drewN _ _))⟩
                case measure => simp [intOf]; omega
            · have hqn2 : k + q = m := by omega
              have hqi : ¬ ((q : Int) < ((m - k : Nat) : Int)) := by omega
              have hqi3 : ¬ (q < m - k) := by omega
              have hvc : (v : Int) ≤ c := by omega
              have hvn' : (v : Int) ≤ m := by omega
              have hcl : ∀ ty, (Builtin.clear_ #[24] ty #[.slice (some ⟨g, v, none⟩) (m - v) (c - v)]).run Try.prog wr = .ok (.tuple #[]) (wr.setCells g v (List.replicate (m - v) (.slice none 0 0))) :=
                fun ty => Lib.run_clear_slice wr _ _ ty _ Try.underlying24 (fun w => rfl) rfl rfl g v _ _ (by omega) (fun j hj => by rw [HS.out.cellD (v + j) (by omega)]; rfl) (fun j hj => HS.out.frozen _)
              have HF : Hid (∃ R' : List Hdr, R'.Sublist R ∧ R'.map (·.l) = compL (R.map (·.l)) ∧ Crn (wr.setCells g v (List.replicate (m - v) (.slice none 0 0))) lo (some ⟨g, 0, none⟩) v R' ∧ Keeps w0 (wr.setCells g v (List.replicate (m - v) (.slice none 0 0)))) := Lib.hid (by
                have hL := HLEN.out
                refine ⟨compTo R (k + q), ?_, ?_, ⟨HV.out, ?_, fun h hh => ?_⟩, keeps_setCells (Nat.le_trans hlo hlog) _ _ HK.out⟩
                · have := compTo_sub R (k + q) (by omega)
                  rwa [List.take_of_length_le (by omega)] at this
                · rw [hqn2, ← hL]; exact compTo_all R
                · obtain ⟨cur, h1, h2, _, _, _, h6⟩ := HS.out.top_blk
                  obtain ⟨cur', h7, h8, h9⟩ := setCells_blk (List.replicate (m - v) (.slice none 0 0)) v h1
                  refine .inr ⟨g, cur', rfl, h2, h7, ?_⟩
                  rw [h8, ← show (cur.toList.take m).take v = cur.toList.take v by rw [List.take_take]; congr 1; omega, h6, ← List.map_take]
                  congr 1
                  unfold compSt
                  rw [List.take_append_of_le_length (by rw [HV.out]; omega), ← HV.out, List.take_length]
                · obtain ⟨cur, h1, h2, _, _, _, h6⟩ := HS.out.top_blk
                  obtain ⟨cur', h7, h8, h9⟩ := setCells_blk (List.replicate (m - v) (.slice none 0 0)) v h1
                  have hm := List.mem_append_left (R.drop (compTo R (k + q)).length) hh
                  exact own_block_same (HS.out.row h hm) (h9 _ (fun e => HS.out.ne h hm e.symm)))
              have HVC : Hid (v ≤ c) := Lib.hid (by omega)
              clear HS HK HV
              go_wp2
              go_ret
              obtain ⟨R', f1, f2, f3, f4⟩ := HF.out
              exact ⟨R', v, rfl, f1, f2, f3, HVC.out, f4⟩
      · obtain rfl : k = m := by omega
        have HC : Hid (R.map (·.l) = compL (R.map (·.l))) := Lib.hid (by
          have h1 := compTo_none R k (by have := HLEN.out; omega) HD.out
          have h2 := compTo_map R k (by have := HLEN.out; omega)
          rw [h1, List.take_of_length_le (by have := HLEN.out; omega)] at h2
          exact h2)
        have HKK := Lib.hid hK
        clear hK
        go_wp2
        go_ret
        exact ⟨R, k, rfl, List.Sublist.refl _, HC.out, (HR.out.keeps HKK.out).crn, HMC.out, HW.out.step HKK.out⟩
end Go.Proofs.Ytaejakejnllimaa
