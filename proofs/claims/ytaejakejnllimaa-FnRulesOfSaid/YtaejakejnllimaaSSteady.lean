/-
  The reference's steady: what a crowd says for ever. Conditions: valid rules and a crowd.
-/
import Derived.Test.YtaejakejnllimaaSteady
namespace Go.Proofs.Ytaejakejnllimaa
set_option maxRecDepth 100000
set_option linter.unusedVariables false
open Go.RowKit

/-- What the kinds ahead of k say that are there. -/
def vp (s : Nat → Int) (x : List Int) (k : Nat) : Int := vo (presS s x k)
theorem vp_skip (s : Nat → Int) (x : List Int) (k : Nat) (h : x.getD k 0 = 0) : vp s x (k + 1) = vp s x k := by
  unfold vp
  rw [presS, h]
  simp
theorem vp_round (s : Nat → Int) (x : List Int) (k : Nat) (h : x.getD k 0 ≠ 0) (hv : s k = 0 ∨ s k = 1) : vp s x (k + 1) = if vp s x k = 3 then s k else if vp s x k = s k then vp s x k else 2 := by
  unfold vp
  rw [presS, if_neg (by simpa using h), vo_round hv]
  generalize vo (presS s x k) = t
  by_cases h1 : t = s k
  · rw [if_pos h1]
    by_cases h2 : t = 3
    · omega
    · rw [if_neg h2, if_pos h1]
  · rw [if_neg h1]
    by_cases h2 : t = 3
    · rw [if_pos h2, if_pos h2]
    · rw [if_neg h2, if_neg h2, if_neg h1]
theorem vp_two (s : Nat → Int) (x : List Int) (k : Nat) (h : vp s x k = 2) : ∀ d, vp s x (k + d) = 2 := by
  intro d
  induction d with
  | zero => exact h
  | succ d ih =>
    rw [← Nat.add_assoc]
    unfold vp at ih ⊢
    rw [presS]
    exact vo_two ih
set_option maxRecDepth 100000 in
set_option maxHeartbeats 4000000 in
theorem voice_any (S A B C : Option Addr) (n cS cA cB cC : Nat) (s : Nat → Int) (rA rB : Nat → Option Addr × Nat × Nat) (F G : Nat → Nat → Nat) (l : List Int) (w : World) (hR : RulN w S n s A rA F B rB G) (hl : Crw n l) (hC : Ints w C n (fun i => l.getD i 0)) :
    Calls Try.prog 60 #[.agg #[.slice S n cS, .slice A n cA, .slice B n cB], .slice C n cC] w fun e w' => e = .returned (.int .i64 (voice s n l)) ∧ Keeps w w' := by
  have hn1 := hR.n1
  have hn4 := hR.n4
  have kb := Keeps.alloc w (.cells #[.slice S n cS, .slice A n cA, .slice B n cB] 26)
  have HR := Lib.hid hR
  have HW := Lib.hid hl
  have HWL := Lib.hid hl.len
  have HC := Lib.hid hC
  have HB0 : Hid (Blk (w.alloc (.cells #[.slice S n cS, .slice A n cA, .slice B n cB] 26)) w.heap.size 26 #[.slice S n cS, .slice A n cA, .slice B n cB]) := Lib.hid (Blk.new w _ _)
  have HK0 : Hid (Keeps w (w.alloc (.cells #[.slice S n cS, .slice A n cA, .slice B n cB] 26))) := Lib.hid kb
  clear hR hl hC kb
  go_enter Try.func60, Try.ntmps60
  go_wp2_with fail
  generalize w.alloc (.cells #[.slice S n cS, .slice A n cA, .slice B n cB] 26) = w1 at *
  go_loopw [6, 5] (fun i v wr => ∃ j : Nat, j ≤ n ∧ i = .int .i64 j ∧ v = .int .i64 (vp s l j) ∧ Hid (Keeps w1 wr) ∧ Hid (vp s l j ≠ 2)) (fun i _ _ => n - (intOf i).toNat)
  case atStart => exact ⟨0, by omega, rfl, rfl, Lib.hid (Keeps.refl _), Lib.hid (by simp [vp, presS, vo])⟩
  case round =>
    obtain ⟨j, hj, rfl, rfl, HKR, HN2⟩ := hrel
    by_cases hltj : j < n
    · have hji : (j : Int) < n := by omega
      obtain ⟨dX, oX, rfl, hcx⟩ := (HC.out.keeps (HK0.out.step HKR.out)) j hltj
      obtain ⟨dS, oS, rfl, hcs⟩ := (HR.out.says.keeps (HK0.out.step HKR.out)) j hltj
      dsimp only at hcx
      have b0 : wr.cell? ⟨w.heap.size, 0, none⟩ = some (.slice (some ⟨dS, oS, none⟩) n cS) := (HB0.out.keeps HKR.out).cell 0
      have hpos := (HW.out.at j hltj).1
      have HSK := Lib.hid (vp_skip s l j)
      have HRD := Lib.hid (vp_round s l j)
      have HBT := Lib.hid (HR.out.bits j hltj)
      have HTW : Hid (∀ t, t = 2 → vp s l (j + 1) = t → voice s n l = 2) := Lib.hid (fun t ht he => by
        have h := vp_two s l (j + 1) (he.trans ht) (n - (j + 1))
        rw [show j + 1 + (n - (j + 1)) = n by omega] at h
        exact h)
      generalize he1 : vp s l (j + 1) = sd1 at *
      have HE1 := Lib.hid he1
      clear he1
      generalize vp s l j = sd at *
      generalize l.getD j 0 = xj at *
      generalize s j = sj at *
      by_cases h0 : xj = 0
      · obtain rfl : sd1 = sd := HSK.out h0
        subst h0
        clear HSK HRD HTW
        go_wp2_with fail
        go_roundw
        case rel => exact ⟨j + 1, by omega, by go_num, by rw [HE1.out], HKR, Lib.hid (by rw [HE1.out]; exact HN2.out)⟩
        case measure => simp [intOf]; omega
      · have h0' : 0 < xj := by omega
        have HR1 := Lib.hid (HRD.out h0 HBT.out)
        by_cases h2 : sd = 3
        · subst h2
          obtain rfl : sd1 = sj := by have := HR1.out; rw [if_pos rfl] at this; exact this
          have HN3 : Hid (sd1 ≠ 2) := Lib.hid (by have := HBT.out; omega)
          clear HSK HRD HTW HR1 HN2
          go_wp2_with fail
          go_roundw
          case rel => exact ⟨j + 1, by omega, by go_num, by rw [HE1.out], HKR, Lib.hid (by rw [HE1.out]; exact HN3.out)⟩
          case measure => simp [intOf]; omega
        · have h2' : (sd == 3) = false := by simp [h2]
          by_cases h1 : sd = sj
          · subst h1
            have h1' : (sd != sd) = false := by simp
            obtain rfl : sd1 = sd := by have := HR1.out; rw [if_neg h2, if_pos rfl] at this; exact this
            clear HSK HRD HTW HR1
            go_wp2_with fail
            go_roundw
            case rel => exact ⟨j + 1, by omega, by go_num, by rw [HE1.out], HKR, Lib.hid (by rw [HE1.out]; exact HN2.out)⟩
            case measure => simp [intOf]; omega
          · have h1' : (sd != sj) = true := by simp [h1]
            have HFIN : Hid (voice s n l = 2) := Lib.hid (HTW.out sd1 (by have := HR1.out; rw [if_neg h2, if_neg h1] at this; exact this) rfl)
            clear HSK HRD HTW HR1 HN2
            go_wp2_with fail
            go_ret
            exact ⟨ret_int HFIN.out.symm, HK0.out.step HKR.out⟩
    · obtain rfl : j = n := by omega
      have HFIN : Hid (voice s j l = vp s l j) := Lib.hid rfl
      go_wp2_with fail
      go_ret
      exact ⟨ret_int HFIN.out.symm, HK0.out.step HKR.out⟩
set_option maxRecDepth 100000 in
set_option maxHeartbeats 4000000 in
theorem ssteady_any (S A B C : Option Addr) (n cS cA cB cC : Nat) (s : Nat → Int) (rA rB : Nat → Option Addr × Nat × Nat) (F G : Nat → Nat → Nat) (l : List Int) (w : World) (hR : RulN w S n s A rA F B rB G) (hl : Crw n l) (hC : Ints w C n (fun i => l.getD i 0)) :
    Calls Try.prog 38 #[.agg #[.slice S n cS, .slice A n cA, .slice B n cB], .slice C n cC] w fun e w' => e = .returned (.int .i64 (stead F G n s l)) ∧ Keeps w w' := by
  have hn1 := hR.n1
  have hn4 := hR.n4
  have kb := Keeps.alloc w (.cells #[.slice S n cS, .slice A n cA, .slice B n cB] 26)
  have HR := Lib.hid hR
  have HW := Lib.hid hl
  have HWL := Lib.hid hl.len
  have HC := Lib.hid hC
  have HB0 : Hid (Blk (w.alloc (.cells #[.slice S n cS, .slice A n cA, .slice B n cB] 26)) w.heap.size 26 #[.slice S n cS, .slice A n cA, .slice B n cB]) := Lib.hid (Blk.new w _ _)
  have HK0 : Hid (Keeps w (w.alloc (.cells #[.slice S n cS, .slice A n cA, .slice B n cB] 26))) := Lib.hid kb
  clear hR hl hC kb
  have CV := Lib.hid (fun (W : World) (hK : Keeps w W) => voice_any S A B C n cS cA cB cC s rA rB F G l W (HR.out.keeps hK) HW.out (HC.out.keeps hK))
  go_enter Try.func38, Try.ntmps38
  go_wp2_with fail
  generalize w.alloc (.cells #[.slice S n cS, .slice A n cA, .slice B n cB] 26) = w1 at *
  refine (CV.out _ HK0.out).mono ?_
  rintro e w2 ⟨rfl, hk2⟩
  have HK2 := Lib.hid (HK0.out.step hk2)
  have HB2 := Lib.hid (HB0.out.keeps hk2)
  have b0 : w2.cell? ⟨w.heap.size, 0, none⟩ = some (.slice S n cS) := HB2.out.cell 0
  have b1 : w2.cell? ⟨w.heap.size, 1, none⟩ = some (.slice A n cA) := HB2.out.cell 1
  have b2 : w2.cell? ⟨w.heap.size, 2, none⟩ = some (.slice B n cB) := HB2.out.cell 2
  clear hk2 HB0 HK0 CV
  go_wp2_with fail
  refine (reached_any S A B C n cS cA cB cC s rA rB F G l w2 (HR.out.keeps HK2.out) HW.out (HC.out.keeps HK2.out)).mono ?_
  rintro e w3 ⟨R, g, k, c, rfl, hc, hrc, hr, _, hk3⟩
  have HK3 := Lib.hid (HK2.out.step hk3)
  have HB3 := Lib.hid (HB2.out.keeps hk3)
  have HCR := Lib.hid hr
  have hkl := hr.len
  have HML : Hid (l ∈ R.map (·.l)) := Lib.hid (by rw [hc]; exact (mem_rchL HR.out.rul HW.out).2 .refl)
  have hse := steady_eq HR.out.bits HML.out (fun x hx => (hrc x hx).crw HR.out.rul HW.out)
  have HE1 : Hid ((∀ i, i < k → voice s n (R.getD i default).l = voice s n l) → stead F G n s l = voice s n l) := Lib.hid (fun h => by
    show voL s n (rchL F G n l) = _
    rw [← hc, hse, if_neg]
    rintro ⟨x, hx, hne⟩
    obtain ⟨q, hq, rfl⟩ := mem_mapD hx
    exact hne (h q (by omega)))
  have HE2 : Hid (∀ x ∈ R.map (·.l), voice s n x ≠ voice s n l → stead F G n s l = 2) := Lib.hid (fun x hx h => by
    show voL s n (rchL F G n l) = _
    rw [← hc, hse, if_pos ⟨x, hx, h⟩])
  have hkb : k ≤ 1296 := by
    have h1 := crowds_le (L := R.map (·.l)) hn4 (crowdsN R hc) (fun x hx => ((hrc x hx).crw HR.out.rul HW.out).1)
    rw [List.length_map] at h1
    omega
  have HCW : Hid (∀ i, i < k → Crw n (R.getD i default).l) := Lib.hid (fun i hi => ((hrc _ (getD_map (by omega))).crw HR.out.rul HW.out).1)
  have HKL := Lib.hid hkl
  clear hc hrc hr hk3 HK2 HB2 b0 b1 b2 hkl HML hse
  generalize hvo : voice s n l = out at *
  clear hvo
  go_wp2_with fail
  go_loopw [7] (fun i wr => ∃ j : Nat, j ≤ k ∧ i = .int .i64 j ∧ Hid (Keeps w3 wr) ∧ Hid (∀ i, i < j → voice s n (R.getD i default).l = out)) (fun i _ => k - (intOf i).toNat)
  case atStart => exact ⟨0, by omega, rfl, Lib.hid (Keeps.refl _), Lib.hid (fun i hi => absurd hi (Nat.not_lt_zero _))⟩
  case round =>
    obtain ⟨i, hi, rfl, HKR, HA⟩ := hrel
    by_cases hlt : i < k
    · have hii : (i : Int) < k := by omega
      have hcell := (HCR.out.keeps HKR.out).cell i hlt
      have HXO := Lib.hid ((HCR.out.keeps HKR.out).rowD i hlt).ints
      have HX := Lib.hid (HCW.out i hlt)
      have HMX : Hid ((R.getD i default).l ∈ R.map (·.l)) := Lib.hid (getD_map (by rw [HKL.out]; exact hlt))
      unfold Hdr.v at hcell
      rw [HX.out.len] at hcell HXO
      have CW := Lib.hid (fun (W : World) (hK : Keeps wr W) => voice_any S A B (some ⟨(R.getD i default).g, 0, none⟩) n cS cA cB (R.getD i default).c s rA rB F G (R.getD i default).l W (HR.out.keeps ((HK3.out.step HKR.out).step hK)) HX.out (HXO.out.keeps hK))
      have HXE : Hid (∀ v, v = voice s n (R.getD i default).l → (v = out → ∀ q, q < i + 1 → voice s n (R.getD q default).l = out) ∧ (v ≠ out → stead F G n s l = 2)) := Lib.hid (fun v hv => ⟨fun h q hq => by
        by_cases e : q = i
        · subst e; rw [← hv]; exact h
        · exact HA.out q (by omega), fun h => HE2.out _ HMX.out (by rw [← hv]; exact h)⟩)
      obtain ⟨xg, hxg⟩ : ∃ x, x = (R.getD i default).g := ⟨_, rfl⟩
      obtain ⟨xc, hxc⟩ : ∃ x, x = (R.getD i default).c := ⟨_, rfl⟩
      rw [← hxg, ← hxc] at hcell CW
      obtain ⟨v, hv⟩ : ∃ v, v = voice s n (R.getD i default).l := ⟨_, rfl⟩
      rw [← hv] at CW
      have HXV := Lib.hid (HXE.out v hv)
      clear hxg hxc hv HXE HMX HXO
      have b0 : wr.cell? ⟨w.heap.size, 0, none⟩ = some (.slice S n cS) := (HB3.out.keeps HKR.out).cell 0
      have b1 : wr.cell? ⟨w.heap.size, 1, none⟩ = some (.slice A n cA) := (HB3.out.keeps HKR.out).cell 1
      have b2 : wr.cell? ⟨w.heap.size, 2, none⟩ = some (.slice B n cB) := (HB3.out.keeps HKR.out).cell 2
      by_cases h1 : v = out
      · have h1' : (v != out) = false := by simp [h1]
        have HA2 := Lib.hid (HXV.out.1 h1)
        clear HXV h1
        go_upto_region 6 with fail
        go_region_law (first | (refine step_go 60 #[.tmp 20, .tmp 24] #[26, 23] rfl rfl (fun _ _ => rfl) (by simp [Act.eval]) (CW.out _ (Keeps.drew1 _)) ?_; rintro e w4 ⟨rfl, hk4⟩; refine ⟨_, rfl, ?_⟩))
        all_goals
          have HK4 := Lib.hid (HKR.out.step ((Keeps.drew1 _).step hk4))
          clear hk4
          go_wp2_with fail
          go_roundw
          case rel => exact ⟨i + 1, by omega, by go_num, HK4, HA2⟩
          case measure => simp [intOf]; omega
      · have h1' : (v != out) = true := by simp [h1]
        have HF := Lib.hid (HXV.out.2 h1)
        clear HXV h1
        go_upto_region 6 with fail
        go_region_law (first | (refine step_go 60 #[.tmp 20, .tmp 24] #[26, 23] rfl rfl (fun _ _ => rfl) (by simp [Act.eval]) (CW.out _ (Keeps.drew1 _)) ?_; rintro e w4 ⟨rfl, hk4⟩; refine ⟨_, rfl, ?_⟩))
        all_goals
          have HK4 := Lib.hid (HKR.out.step ((Keeps.drew1 _).step hk4))
          clear hk4
          go_wp2_with fail
          go_ret
          exact ⟨ret_int HF.out.symm, HK3.out.step HK4.out⟩
    · obtain rfl : i = k := by omega
      have HFIN : Hid (stead F G n s l = out) := Lib.hid (HE1.out HA.out)
      go_wp2_with fail
      go_ret
      exact ⟨ret_int HFIN.out.symm, HK3.out.step HKR.out⟩
end Go.Proofs.Ytaejakejnllimaa
