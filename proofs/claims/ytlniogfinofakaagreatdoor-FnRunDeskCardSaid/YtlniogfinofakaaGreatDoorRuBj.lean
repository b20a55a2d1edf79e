/-
  What a crowd says for ever: of both. Conditions: valid rules and a crowd.
-/
import Derived.Test.YtlniogfinofakaaGreatDoorRuBi
import Derived.Scope
import Derived.WalkMore
namespace Go.Proofs.YtlniogfinofakaaGreatDoor
set_option maxRecDepth 100000
set_option maxRecDepth 100000
set_option linter.unusedVariables false
open Go.RowKit

/-- The loop's number with what one kind says. -/
theorem vo_round {t : List Int} {v : Int} (hv : v = 0 ∨ v = 1) : vo (t ++ [v]) = if vo t = v then vo t else if vo t = 3 then v else 2 := by
  rw [vo_snoc]
  unfold joinV
  by_cases h1 : vo t = 3
  · rw [if_pos h1, h1]
    by_cases h2 : (3 : Int) = v
    · omega
    · rw [if_neg h2, if_pos rfl]
  · rw [if_neg h1, if_neg (by omega), if_neg h1]
theorem vo_two {t u : List Int} (h : vo t = 2) : vo (t ++ u) = 2 := by rw [vo_app, h, two_joinV]
theorem voL_app (s : Nat → Int) (n : Nat) (M N : List (List Int)) : voL s n (M ++ N) = joinV (voL s n M) (voL s n N) := by
  unfold voL
  rw [List.map_append]
  exact vo_app _ _
/-- What is said up to kind k of crowd i. -/
def saidTo (s : Nat → Int) (n : Nat) (R : List Hdr) (i k : Nat) : Int := joinV (voL s n ((R.take i).map (·.l))) (vo (presS s (R.getD i default).l k))
theorem saidTo_zero (s : Nat → Int) (n : Nat) (R : List Hdr) (i : Nat) : saidTo s n R i 0 = voL s n ((R.take i).map (·.l)) := joinV_none _
theorem saidTo_next (s : Nat → Int) (n : Nat) (R : List Hdr) (i : Nat) (hi : i < R.length) : voL s n ((R.take (i + 1)).map (·.l)) = saidTo s n R i n := by
  rw [take_snoc R i hi, List.map_append]
  exact voL_snoc _ _ _ _
theorem saidTo_skip (s : Nat → Int) (n : Nat) (R : List Hdr) (i k : Nat) (h : (R.getD i default).l.getD k 0 = 0) : saidTo s n R i (k + 1) = saidTo s n R i k := by
  unfold saidTo
  rw [presS, h]
  simp
theorem saidTo_round (s : Nat → Int) (n : Nat) (R : List Hdr) (i k : Nat) (h : (R.getD i default).l.getD k 0 ≠ 0) (hv : s k = 0 ∨ s k = 1) : saidTo s n R i (k + 1) = if saidTo s n R i k = s k then saidTo s n R i k else if saidTo s n R i k = 3 then s k else 2 := by
  have h1 : saidTo s n R i (k + 1) = joinV (saidTo s n R i k) (s k) := by
    unfold saidTo
    rw [presS, if_neg (by simpa using h), vo_snoc, joinV_assoc]
  rw [h1]
  generalize saidTo s n R i k = t
  unfold joinV
  by_cases h1 : t = 3
  · rw [if_pos h1, h1]
    by_cases h2 : (3 : Int) = s k
    · omega
    · rw [if_neg h2, if_pos rfl]
  · rw [if_neg h1, if_neg (by omega), if_neg h1]
theorem saidTo_two (s : Nat → Int) (n : Nat) (R : List Hdr) (i k : Nat) (hi : i < R.length) (hk : k ≤ n) (h : saidTo s n R i k = 2) : voL s n (R.map (·.l)) = 2 := by
  have h1 : ∀ d, k + d ≤ n → saidTo s n R i (k + d) = 2 := by
    intro d
    induction d with
    | zero => intro _; exact h
    | succ d ih =>
      intro hd
      have h2 := ih (by omega)
      rw [← Nat.add_assoc]
      by_cases h3 : (R.getD i default).l.getD (k + d) 0 = 0
      · rw [saidTo_skip _ _ _ _ _ h3, h2]
      · unfold saidTo at h2 ⊢
        rw [presS, if_neg (by simpa using h3), vo_snoc, ← joinV_assoc, h2, two_joinV]
  have h4 := h1 (n - k) (by omega)
  rw [show k + (n - k) = n by omega, ← saidTo_next _ _ _ _ hi] at h4
  have h5 : R.map (·.l) = (R.take (i + 1)).map (·.l) ++ (R.drop (i + 1)).map (·.l) := by rw [← List.map_append, List.take_append_drop]
  rw [h5, voL_app, h4, two_joinV]
/-- The sorted list of what is reached has no crowd twice. -/
theorem crowdsN {F G : Nat → Nat → Nat} {n : Nat} {l : List Int} (R : List Hdr) (h : R.map (·.l) = rchL F G n l) : (R.map (·.l)).Nodup := by
  rw [h]
  unfold rchL
  split
  · rename_i hM
    exact hM.choose_spec.1.nodup
  · exact List.nodup_nil
/-- All lists of n numbers from 0 to 5. -/
def allC : Nat → List (List Int)
  | 0 => [[]]
  | n + 1 => (allC n).flatMap fun l => [0, 1, 2, 3, 4, 5].map fun x => x :: l
theorem mem_allC : ∀ (l : List Int), (∀ x ∈ l, 0 ≤ x ∧ x ≤ 5) → l ∈ allC l.length
  | [], _ => by simp [allC]
  | x :: l, h => by
    have h1 := h x (List.mem_cons_self ..)
    have h2 := mem_allC l (fun y hy => h y (List.mem_cons_of_mem _ hy))
    rw [List.length_cons, allC, List.mem_flatMap]
    refine ⟨l, h2, ?_⟩
    have : x = 0 ∨ x = 1 ∨ x = 2 ∨ x = 3 ∨ x = 4 ∨ x = 5 := by omega
    rcases this with rfl | rfl | rfl | rfl | rfl | rfl <;> simp
theorem rch_ex {F G : Nat → Nat → Nat} {n : Nat} {c : List Int} (hR : Rul n F G) (h : Crw n c) : ∃ M, SL M ∧ ∀ x, x ∈ M ↔ Rch F G n c x := by
  classical
  refine ⟨canL ((allC n).filter fun x => decide (Rch F G n c x)), sl_canL _, fun x => ?_⟩
  rw [mem_canL, List.mem_filter]
  constructor
  · rintro ⟨_, h1⟩; exact of_decide_eq_true h1
  · intro h1
    have h2 := (h1.crw hR h).1
    exact ⟨by have := mem_allC x h2.le; rw [h2.len] at this; exact this, decide_eq_true h1⟩
theorem mem_rchL {F G : Nat → Nat → Nat} {n : Nat} {c x : List Int} (hR : Rul n F G) (h : Crw n c) : x ∈ rchL F G n c ↔ Rch F G n c x := by
  obtain ⟨M, h1, h2⟩ := rch_ex hR h
  rw [rchL_eq h1 h2]
  exact h2 x
theorem sl_rchL {F G : Nat → Nat → Nat} {n : Nat} {c : List Int} (hR : Rul n F G) (h : Crw n c) : SL (rchL F G n c) := by
  obtain ⟨M, h1, h2⟩ := rch_ex hR h
  rw [rchL_eq h1 h2]
  exact h1
set_option maxRecDepth 100000 in
set_option maxHeartbeats 4000000 in
theorem steadyOf_any (S A B C : Option Addr) (n cS cA cB cC : Nat) (s : Nat → Int) (rA rB : Nat → Option Addr × Nat × Nat) (F G : Nat → Nat → Nat) (l : List Int) (w : World) (hR : RulN w S n s A rA F B rB G) (hl : Crw n l) (hC : Ints w C n (fun i => l.getD i 0)) :
    Calls Tryz.prog 104 #[.agg #[.slice S n cS, .slice A n cA, .slice B n cB], .slice C n cC] w fun e w' => e = .returned (.int .i64 (stead F G n s l)) ∧ Keeps w w' := by
  have hn1 := hR.n1
  have hn4 := hR.n4
  have kb := Keeps.alloc w (.cells #[.slice S n cS, .slice A n cA, .slice B n cB] 54)
  have HR := Lib.hid hR
  have HW := Lib.hid hl
  have HWL := Lib.hid hl.len
  have HC := Lib.hid hC
  have HB0 : Hid (Blk (w.alloc (.cells #[.slice S n cS, .slice A n cA, .slice B n cB] 54)) w.heap.size 54 #[.slice S n cS, .slice A n cA, .slice B n cB]) := Lib.hid (Blk.new w _ _)
  have HK0 : Hid (Keeps w (w.alloc (.cells #[.slice S n cS, .slice A n cA, .slice B n cB] 54))) := Lib.hid kb
  clear hR hl hC kb
  go_enter Tryz.func104, Tryz.ntmps104
  go_wp2_with fail
  generalize w.alloc (.cells #[.slice S n cS, .slice A n cA, .slice B n cB] 54) = w1 at *
  refine (reachedOf_any S A B C n cS cA cB cC s rA rB F G l w1 (HR.out.keeps HK0.out) HW.out (HC.out.keeps HK0.out)).mono ?_
  rintro e w2 ⟨R, g, k, rfl, hc, hrc, _, hr, hk2⟩
  have HK2 := Lib.hid (HK0.out.step hk2)
  have HB2 := Lib.hid (HB0.out.keeps hk2)
  have HCR := Lib.hid hr
  have HEQ : Hid (voL s n (R.map (·.l)) = stead F G n s l) := Lib.hid (by rw [hc]; rfl)
  have hkl := hr.len
  have hkb : k ≤ 1296 := by
    have h1 := crowds_le (L := R.map (·.l)) hn4 (by
      have := (crowdsN (F := F) (G := G) (n := n) (l := l) R hc)
      exact this) (fun x hx => ((hrc x hx).crw HR.out.rul HW.out).1)
    rw [List.length_map] at h1
    omega
  have HCW : Hid (∀ i, i < k → Crw n (R.getD i default).l) := Lib.hid (fun i hi => ((hrc _ (getD_map (by omega))).crw HR.out.rul HW.out).1)
  have HKL := Lib.hid hkl
  clear hc hrc hr hk2 HK0 HB0 hkl
  go_wp2_with fail
  go_loopw [14, 5] (fun i v wr => ∃ j : Nat, j ≤ k ∧ i = .int .i64 j ∧ v = .int .i64 (saidTo s n R j 0) ∧ Hid (Keeps w2 wr) ∧ Hid (saidTo s n R j 0 ≠ 2)) (fun i _ _ => k - (intOf i).toNat)
  case atStart => exact ⟨0, by omega, rfl, rfl, Lib.hid (Keeps.refl _), Lib.hid (by rw [saidTo_zero]; simp [voL, vo])⟩
  case round =>
    obtain ⟨i, hi, rfl, rfl, HKR, HN2⟩ := hrel
    by_cases hlt : i < k
    · have hii : (i : Int) < k := by omega
      have hcell := (HCR.out.keeps HKR.out).cell i hlt
      have HXO := Lib.hid ((HCR.out.rowD i hlt).ints)
      have HX := Lib.hid (HCW.out i hlt)
      unfold Hdr.v at hcell
      rw [HX.out.len] at hcell HXO
      obtain ⟨xg, hxg⟩ : ∃ x, x = (R.getD i default).g := ⟨_, rfl⟩
      obtain ⟨xc, hxc⟩ : ∃ x, x = (R.getD i default).c := ⟨_, rfl⟩
      rw [← hxg, ← hxc] at hcell
      rw [← hxg] at HXO
      clear hxg hxc
      go_wp2_with fail
      go_loopw [20, 5] (fun q v wi => ∃ j : Nat, j ≤ n ∧ q = .int .i64 j ∧ v = .int .i64 (saidTo s n R i j) ∧ Hid (Keeps w2 wi) ∧ Hid (saidTo s n R i j ≠ 2)) (fun q _ _ => n - (intOf q).toNat)
      case atStart => exact ⟨0, by omega, rfl, rfl, HKR, HN2⟩
      case round =>
        clear HKR HN2 hcell
        obtain ⟨j, hj, rfl, rfl, HKR, HN2⟩ := hrel
        by_cases hltj : j < n
        · have hji : (j : Int) < n := by omega
          obtain ⟨dX, oX, eX, hcx⟩ := HXO.out.keeps HKR.out j hltj
          cases eX
          rw [Nat.zero_add] at hcx
          dsimp only at hcx
          obtain ⟨dS, oS, rfl, hcs⟩ := (HR.out.says.keeps (HK2.out.step HKR.out)) j hltj
          have b0 : wr.cell? ⟨w.heap.size, 0, none⟩ = some (.slice (some ⟨dS, oS, none⟩) n cS) := (HB2.out.keeps HKR.out).cell 0
          have HSK := Lib.hid (saidTo_skip s n R i j)
          have HRD := Lib.hid (saidTo_round s n R i j)
          have HBT := Lib.hid (HR.out.bits j hltj)
          have HTW : Hid (∀ t, t = 2 → saidTo s n R i (j + 1) = t → stead F G n s l = 2) := Lib.hid (fun t ht he => by rw [← HEQ.out]; exact saidTo_two s n R i (j + 1) (by rw [HKL.out]; exact hlt) (by omega) (he.trans ht))
          generalize he1 : saidTo s n R i (j + 1) = sd1 at *
          have HE1 := Lib.hid he1
          clear he1
          generalize saidTo s n R i j = sd at *
          generalize (R.getD i default).l.getD j 0 = xj at *
          generalize s j = sj at *
          by_cases h0 : xj = 0
          · obtain rfl : sd1 = sd := HSK.out h0
            subst h0
            clear HSK HRD HTW
            go_wp2_with fail
            go_roundw
            case rel => exact ⟨j + 1, by omega, by go_num, by rw [HE1.out], HKR, Lib.hid (by rw [HE1.out]; exact HN2.out)⟩
            case measure => simp [intOf]; omega
          · have h0' : (xj == 0) = false := by simp [h0]
            have HR1 := Lib.hid (HRD.out h0 HBT.out)
            by_cases h1 : sd = sj
            · subst h1
              obtain rfl : sd1 = sd := by have := HR1.out; rw [if_pos rfl] at this; exact this
              clear HSK HRD HTW HR1
              go_wp2_with fail
              go_roundw
              case rel => exact ⟨j + 1, by omega, by go_num, by rw [HE1.out], HKR, Lib.hid (by rw [HE1.out]; exact HN2.out)⟩
              case measure => simp [intOf]; omega
            · have h1' : (sd == sj) = false := by simp [h1]
              by_cases h2 : sd = 3
              · subst h2
                obtain rfl : sd1 = sj := by have := HR1.out; rw [if_neg h1, if_pos rfl] at this; exact this
                have HN3 : Hid (sd1 ≠ 2) := Lib.hid (by have := HBT.out; omega)
                clear HSK HRD HTW HR1 HN2
                go_wp2_with fail
                go_roundw
                case rel => exact ⟨j + 1, by omega, by go_num, by rw [HE1.out], HKR, Lib.hid (by rw [HE1.out]; exact HN3.out)⟩
                case measure => simp [intOf]; omega
              · have h2' : (sd == 3) = false := by simp [h2]
                have HFIN : Hid (stead F G n s l = 2) := Lib.hid (HTW.out sd1 (by have := HR1.out; rw [if_neg h1, if_neg h2] at this; exact this) rfl)
                clear HSK HRD HTW HR1 HN2
                go_wp2_with fail
                go_ret
                exact ⟨ret_int HFIN.out.symm, HK2.out.step HKR.out⟩
        · obtain rfl : j = n := by omega
          have HNX : Hid (saidTo s j R (i + 1) 0 = saidTo s j R i j) := Lib.hid (by rw [saidTo_zero, saidTo_next s j R i (by rw [HKL.out]; exact hlt)])
          go_wp2_with fail
          go_roundw
          case rel => exact ⟨i + 1, by omega, by go_num, by rw [HNX.out], HKR, Lib.hid (by rw [HNX.out]; exact HN2.out)⟩
          case measure => simp [intOf]; omega
    · obtain rfl : i = k := by omega
      have HFIN : Hid (stead F G n s l = saidTo s n R i 0) := Lib.hid (by rw [← HEQ.out, saidTo_zero, ← HKL.out, List.take_length])
      go_wp2_with fail
      go_ret
      exact ⟨ret_int HFIN.out.symm, HK2.out.step HKR.out⟩
end Go.Proofs.YtlniogfinofakaaGreatDoor
/-
  The reference's steady: what a crowd says for ever. Conditions: valid rules and a crowd.
-/
namespace Go.Proofs.YtlniogfinofakaaGreatDoor
set_option maxRecDepth 100000
set_option maxRecDepth 100000
set_option linter.unusedVariables false
open Go.RowKit

/-- What the kinds ahead of k say that are there. -/
def vp (s : Nat → Int) (x : List Int) (k : Nat) : Int := vo (presS s x k)
theorem vp_skip (s : Nat → Int) (x : List Int) (k : Nat) (h : x.getD k 0 = 0) : vp s x (k + 1) = vp s x k := by
  unfold vp
  rw [presS, h]
  simp
theorem vp_round (s : Nat → Int) (x : List Int) (k : Nat) (h : x.getD k 0 ≠ 0) (hv : s k = 0 ∨ s k = 1) : vp s x (k + 1) = if vp s x k = 3 then s k else if vp s x k = s k then vp s x k else 2 := by
  unfold vp
  rw [presS, if_neg (by simpa using h), vo_round hv]
  generalize vo (presS s x k) = t
  by_cases h1 : t = s k
  · rw [if_pos h1]
    by_cases h2 : t = 3
    · omega
    · rw [if_neg h2, if_pos h1]
  · rw [if_neg h1]
    by_cases h2 : t = 3
    · rw [if_pos h2, if_pos h2]
    · rw [if_neg h2, if_neg h2, if_neg h1]
theorem vp_two (s : Nat → Int) (x : List Int) (k : Nat) (h : vp s x k = 2) : ∀ d, vp s x (k + d) = 2 := by
  intro d
  induction d with
  | zero => exact h
  | succ d ih =>
    rw [← Nat.add_assoc]
    unfold vp at ih ⊢
    rw [presS]
    exact vo_two ih
set_option maxRecDepth 100000 in
set_option maxHeartbeats 4000000 in
theorem voice_any (S A B C : Option Addr) (n cS cA cB cC : Nat) (s : Nat → Int) (rA rB : Nat → Option Addr × Nat × Nat) (F G : Nat → Nat → Nat) (l : List Int) (w : World) (hR : RulN w S n s A rA F B rB G) (hl : Crw n l) (hC : Ints w C n (fun i => l.getD i 0)) :
    Calls Tryz.prog 81 #[.agg #[.slice S n cS, .slice A n cA, .slice B n cB], .slice C n cC] w fun e w' => e = .returned (.int .i64 (voice s n l)) ∧ Keeps w w' := by
  have hn1 := hR.n1
  have hn4 := hR.n4
  have kb := Keeps.alloc w (.cells #[.slice S n cS, .slice A n cA, .slice B n cB] 54)
  have HR := Lib.hid hR
  have HW := Lib.hid hl
  have HWL := Lib.hid hl.len
  have HC := Lib.hid hC
  have HB0 : Hid (Blk (w.alloc (.cells #[.slice S n cS, .slice A n cA, .slice B n cB] 54)) w.heap.size 54 #[.slice S n cS, .slice A n cA, .slice B n cB]) := Lib.hid (Blk.new w _ _)
  have HK0 : Hid (Keeps w (w.alloc (.cells #[.slice S n cS, .slice A n cA, .slice B n cB] 54))) := Lib.hid kb
  clear hR hl hC kb
  go_enter Tryz.func81, Tryz.ntmps81
  go_wp2_with fail
  generalize w.alloc (.cells #[.slice S n cS, .slice A n cA, .slice B n cB] 54) = w1 at *
  go_loopw [6, 5] (fun i v wr => ∃ j : Nat, j ≤ n ∧ i = .int .i64 j ∧ v = .int .i64 (vp s l j) ∧ Hid (Keeps w1 wr) ∧ Hid (vp s l j ≠ 2)) (fun i _ _ => n - (intOf i).toNat)
  case atStart => exact ⟨0, by omega, rfl, rfl, Lib.hid (Keeps.refl _), Lib.hid (by simp [vp, presS, vo])⟩
  case round =>
    obtain ⟨j, hj, rfl, rfl, HKR, HN2⟩ := hrel
    by_cases hltj : j < n
    · have hji : (j : Int) < n := by omega
      obtain ⟨dX, oX, rfl, hcx⟩ := (HC.out.keeps (HK0.out.step HKR.out)) j hltj
      obtain ⟨dS, oS, rfl, hcs⟩ := (HR.out.says.keeps (HK0.out.step HKR.out)) j hltj
      dsimp only at hcx
      have b0 : wr.cell? ⟨w.heap.size, 0, none⟩ = some (.slice (some ⟨dS, oS, none⟩) n cS) := (HB0.out.keeps HKR.out).cell 0
      have hpos := (HW.out.at j hltj).1
      have HSK := Lib.hid (vp_skip s l j)
      have HRD := Lib.hid (vp_round s l j)
      have HBT := Lib.hid (HR.out.bits j hltj)
      have HTW : Hid (∀ t, t = 2 → vp s l (j + 1) = t → voice s n l = 2) := Lib.hid (fun t ht he => by
        have h := vp_two s l (j + 1) (he.trans ht) (n - (j + 1))
        rw [show j + 1 + (n - (j + 1)) = n by omega] at h
        exact h)
      generalize he1 : vp s l (j + 1) = sd1 at *
      have HE1 := Lib.hid he1
      clear he1
      generalize vp s l j = sd at *
      generalize l.getD j 0 = xj at *
      generalize s j = sj at *
      by_cases h0 : xj = 0
      · obtain rfl : sd1 = sd := HSK.out h0
        subst h0
        clear HSK HRD HTW
        go_wp2_with fail
        go_roundw
        case rel => exact ⟨j + 1, by omega, by go_num, by rw [HE1.out], HKR, Lib.hid (by rw [HE1.out]; exact HN2.out)⟩
        case measure => simp [intOf]; omega
      · have h0' : 0 < xj := by omega
        have HR1 := Lib.hid (HRD.out h0 HBT.out)
        by_cases h2 : sd = 3
        · subst h2
          obtain rfl : sd1 = sj := by have := HR1.out; rw [if_pos rfl] at this; exact this
          have HN3 : Hid (sd1 ≠ 2) := Lib.hid (by have := HBT.out; omega)
          clear HSK HRD HTW HR1 HN2
          go_wp2_with fail
          go_roundw
          case rel => exact ⟨j + 1, by omega, by go_num, by rw [HE1.out], HKR, Lib.hid (by rw [HE1.out]; exact HN3.out)⟩
          case measure => simp [intOf]; omega
        · have h2' : (sd == 3) = false := by simp [h2]
          by_cases h1 : sd = sj
          · subst h1
            have h1' : (sd != sd) = false := by simp
            obtain rfl : sd1 = sd := by have := HR1.out; rw [if_neg h2, if_pos rfl] at this; exact this
            clear HSK HRD HTW HR1
            go_wp2_with fail
            go_roundw
            case rel => exact ⟨j + 1, by omega, by go_num, by rw [HE1.out], HKR, Lib.hid (by rw [HE1.out]; exact HN2.out)⟩
            case measure => simp [intOf]; omega
          · have h1' : (sd != sj) = true := by simp [h1]
            have HFIN : Hid (voice s n l = 2) := Lib.hid (HTW.out sd1 (by have := HR1.out; rw [if_neg h2, if_neg h1] at this; exact this) rfl)
            clear HSK HRD HTW HR1 HN2
            go_wp2_with fail
            go_ret
            exact ⟨ret_int HFIN.out.symm, HK0.out.step HKR.out⟩
    · obtain rfl : j = n := by omega
      have HFIN : Hid (voice s j l = vp s l j) := Lib.hid rfl
      go_wp2_with fail
      go_ret
      exact ⟨ret_int HFIN.out.symm, HK0.out.step HKR.out⟩
set_option maxRecDepth 100000 in
set_option maxHeartbeats 4000000 in
theorem ssteady_any (S A B C : Option Addr) (n cS cA cB cC : Nat) (s : Nat → Int) (rA rB : Nat → Option Addr × Nat × Nat) (F G : Nat → Nat → Nat) (l : List Int) (w : World) (hR : RulN w S n s A rA F B rB G) (hl : Crw n l) (hC : Ints w C n (fun i => l.getD i 0)) :
    Calls Tryz.prog 54 #[.agg #[.slice S n cS, .slice A n cA, .slice B n cB], .slice C n cC] w fun e w' => e = .returned (.int .i64 (stead F G n s l)) ∧ Keeps w w' := by
  have hn1 := hR.n1
  have hn4 := hR.n4
  have kb := Keeps.alloc w (.cells #[.slice S n cS, .slice A n cA, .slice B n cB] 54)
  have HR := Lib.hid hR
  have HW := Lib.hid hl
  have HWL := Lib.hid hl.len
  have HC := Lib.hid hC
  have HB0 : Hid (Blk (w.alloc (.cells #[.slice S n cS, .slice A n cA, .slice B n cB] 54)) w.heap.size 54 #[.slice S n cS, .slice A n cA, .slice B n cB]) := Lib.hid (Blk.new w _ _)
  have HK0 : Hid (Keeps w (w.alloc (.cells #[.slice S n cS, .slice A n cA, .slice B n cB] 54))) := Lib.hid kb
  clear hR hl hC kb
  have CV := Lib.hid (fun (W : World) (hK : Keeps w W) => voice_any S A B C n cS cA cB cC s rA rB F G l W (HR.out.keeps hK) HW.out (HC.out.keeps hK))
  go_enter Tryz.func54, Tryz.ntmps54
  go_wp2_with fail
  generalize w.alloc (.cells #[.slice S n cS, .slice A n cA, .slice B n cB] 54) = w1 at *
  refine (CV.out _ HK0.out).mono ?_
  rintro e w2 ⟨rfl, hk2⟩
  have HK2 := Lib.hid (HK0.out.step hk2)
  have HB2 := Lib.hid (HB0.out.keeps hk2)
  have b0 : w2.cell? ⟨w.heap.size, 0, none⟩ = some (.slice S n cS) := HB2.out.cell 0
  have b1 : w2.cell? ⟨w.heap.size, 1, none⟩ = some (.slice A n cA) := HB2.out.cell 1
  have b2 : w2.cell? ⟨w.heap.size, 2, none⟩ = some (.slice B n cB) := HB2.out.cell 2
  clear hk2 HB0 HK0 CV
  go_wp2_with fail
  refine (reached_any S A B C n cS cA cB cC s rA rB F G l w2 (HR.out.keeps HK2.out) HW.out (HC.out.keeps HK2.out)).mono ?_
  rintro e w3 ⟨R, g, k, c, rfl, hc, hrc, hr, _, hk3⟩
  have HK3 := Lib.hid (HK2.out.step hk3)
  have HB3 := Lib.hid (HB2.out.keeps hk3)
  have HCR := Lib.hid hr
  have hkl := hr.len
  have HML : Hid (l ∈ R.map (·.l)) := Lib.hid (by rw [hc]; exact (mem_rchL HR.out.rul HW.out).2 .refl)
  have hse := steady_eq HR.out.bits HML.out (fun x hx => (hrc x hx).crw HR.out.rul HW.out)
  have HE1 : Hid ((∀ i, i < k → voice s n (R.getD i default).l = voice s n l) → stead F G n s l = voice s n l) := Lib.hid (fun h => by
    show voL s n (rchL F G n l) = _
    rw [← hc, hse, if_neg]
    rintro ⟨x, hx, hne⟩
    obtain ⟨q, hq, rfl⟩ := mem_mapD hx
    exact hne (h q (by omega)))
  have HE2 : Hid (∀ x ∈ R.map (·.l), voice s n x ≠ voice s n l → stead F G n s l = 2) := Lib.hid (fun x hx h => by
    show voL s n (rchL F G n l) = _
    rw [← hc, hse, if_pos ⟨x, hx, h⟩])
  have hkb : k ≤ 1296 := by
    have h1 := crowds_le (L := R.map (·.l)) hn4 (crowdsN R hc) (fun x hx => ((hrc x hx).crw HR.out.rul HW.out).1)
    rw [List.length_map] at h1
    omega
  have HCW : Hid (∀ i, i < k → Crw n (R.getD i default).l) := Lib.hid (fun i hi => ((hrc _ (getD_map (by omega))).crw HR.out.rul HW.out).1)
  have HKL := Lib.hid hkl
  clear hc hrc hr hk3 HK2 HB2 b0 b1 b2 hkl HML hse
  generalize hvo : voice s n l = out at *
  clear hvo
  go_wp2_with fail
  go_loopw [7] (fun i wr => ∃ j : Nat, j ≤ k ∧ i = .int .i64 j ∧ Hid (Keeps w3 wr) ∧ Hid (∀ i, i < j → voice s n (R.getD i default).l = out)) (fun i _ => k - (intOf i).toNat)
  case atStart => exact ⟨0, by omega, rfl, Lib.hid (Keeps.refl _), Lib.hid (fun i hi => absurd hi (Nat.not_lt_zero _))⟩
  case round =>
    obtain ⟨i, hi, rfl, HKR, HA⟩ := hrel
    by_cases hlt : i < k
    · have hii : (i : Int) < k := by omega
      have hcell := (HCR.out.keeps HKR.out).cell i hlt
      have HXO := Lib.hid ((HCR.out.keeps HKR.out).rowD i hlt).ints
      have HX := Lib.hid (HCW.out i hlt)
      have HMX : Hid ((R.getD i default).l ∈ R.map (·.l)) := Lib.hid (getD_map (by rw [HKL.out]; exact hlt))
      unfold Hdr.v at hcell
      rw [HX.out.len] at hcell HXO
      have CW := Lib.hid (fun (W : World) (hK : Keeps wr W) => voice_any S A B (some ⟨(R.getD i default).g, 0, none⟩) n cS cA cB (R.getD i default).c s rA rB F G (R.getD i default).l W (HR.out.keeps ((HK3.out.step HKR.out).step hK)) HX.out (HXO.out.keeps hK))
      have HXE : Hid (∀ v, v = voice s n (R.getD i default).l → (v = out → ∀ q, q < i + 1 → voice s n (R.getD q default).l = out) ∧ (v ≠ out → stead F G n s l = 2)) := Lib.hid (fun v hv => ⟨fun h q hq => by
        by_cases e : q = i
        · subst e; rw [← hv]; exact h
        · exact HA.out q (by omega), fun h => HE2.out _ HMX.out (by rw [← hv]; exact h)⟩)
      obtain ⟨xg, hxg⟩ : ∃ x, x = (R.getD i default).g := ⟨_, rfl⟩
      obtain ⟨xc, hxc⟩ : ∃ x, x = (R.getD i default).c := ⟨_, rfl⟩
      rw [← hxg, ← hxc] at hcell CW
      obtain ⟨v, hv⟩ : ∃ v, v = voice s n (R.getD i default).l := ⟨_, rfl⟩
      rw [← hv] at CW
      have HXV := Lib.hid (HXE.out v hv)
      clear hxg hxc hv HXE HMX HXO
      have b0 : wr.cell? ⟨w.heap.size, 0, none⟩ = some (.slice S n cS) := (HB3.out.keeps HKR.out).cell 0
      have b1 : wr.cell? ⟨w.heap.size, 1, none⟩ = some (.slice A n cA) := (HB3.out.keeps HKR.out).cell 1
      have b2 : wr.cell? ⟨w.heap.size, 2, none⟩ = some (.slice B n cB) := (HB3.out.keeps HKR.out).cell 2
      by_cases h1 : v = out
      · have h1' : (v != out) = false := by simp [h1]
        have HA2 := Lib.hid (HXV.out.1 h1)
        clear HXV h1
        go_upto_region 6 with fail
        go_region_law (first | (refine step_go 81 #[.tmp 20, .tmp 24] #[54, 45] rfl rfl (fun _ _ => rfl) (by simp [Act.eval]) (CW.out _ (Keeps.drew1 _)) ?_; rintro e w4 ⟨rfl, hk4⟩; refine ⟨_, rfl, ?_⟩))
        all_goals
          have HK4 := Lib.hid (HKR.out.step ((Keeps.drew1 _).step hk4))
          clear hk4
          go_wp2_with fail
          go_roundw
          case rel => exact ⟨i + 1, by omega, by go_num, HK4, HA2⟩
          case measure => simp [intOf]; omega
      · have h1' : (v != out) = true := by simp [h1]
        have HF := Lib.hid (HXV.out.2 h1)
        clear HXV h1
        go_upto_region 6 with fail
        go_region_law (first | (refine step_go 81 #[.tmp 20, .tmp 24] #[54, 45] rfl rfl (fun _ _ => rfl) (by simp [Act.eval]) (CW.out _ (Keeps.drew1 _)) ?_; rintro e w4 ⟨rfl, hk4⟩; refine ⟨_, rfl, ?_⟩))
        all_goals
          have HK4 := Lib.hid (HKR.out.step ((Keeps.drew1 _).step hk4))
          clear hk4
          go_wp2_with fail
          go_ret
          exact ⟨ret_int HF.out.symm, HK3.out.step HK4.out⟩
    · obtain rfl : i = k := by omega
      have HFIN : Hid (stead F G n s l = out) := Lib.hid (HE1.out HA.out)
      go_wp2_with fail
      go_ret
      exact ⟨ret_int HFIN.out.symm, HK3.out.step HKR.out⟩
end Go.Proofs.YtlniogfinofakaaGreatDoor
/-
  impl.verdictOf: what a crowd always may come to say for ever. Conditions: valid rules and a crowd.
-/
namespace Go.Proofs.YtlniogfinofakaaGreatDoor
set_option maxRecDepth 100000
set_option maxRecDepth 100000
set_option linter.unusedVariables false
open Go.RowKit

section
variable (F G : Nat → Nat → Nat) (n : Nat) (s : Nat → Int)
/-- Of what is reached one says this for ever. -/
noncomputable def anyV (v : Int) (x : List Int) : Bool := (rchL F G n x).any (fun y => stead F G n s y == v)
variable {F G n s}
theorem canB_iff {c : List Int} {v : Int} {R : List Hdr} {k : Nat} (h : R.map (·.l) = rchL F G n c) (hk : R.length = k) : canB F G n s c v = true ↔ ∀ i, i < k → anyV F G n s v (R.getD i default).l = true := by
  unfold canB
  rw [← h, List.all_eq_true]
  constructor
  · intro h1 i hi
    exact h1 _ (getD_map (by omega))
  · intro h1 x hx
    obtain ⟨i, hi, rfl⟩ := mem_mapD hx
    exact h1 i (by omega)
theorem anyV_eq {x : List Int} {v : Int} {R : List Hdr} {k : Nat} (h : R.map (·.l) = rchL F G n x) (hk : R.length = k) : anyB (fun i => stead F G n s (R.getD i default).l == v) k = anyV F G n s v x := by
  unfold anyV
  rw [← h]
  cases hb : (R.map (·.l)).any (fun y => stead F G n s y == v)
  · rw [anyB_false]
    intro i hi
    rw [List.any_eq_false] at hb
    have := hb _ (getD_map (R := R) (i := i) (by omega))
    simpa using this
  · rw [anyB_iff]
    obtain ⟨y, hy, h1⟩ := List.any_eq_true.1 hb
    obtain ⟨i, hi, rfl⟩ := mem_mapD hy
    exact ⟨i, by omega, h1⟩
theorem verd_at {c : List Int} {v : Int} (hv : v = 0 ∨ v = 1) (h0 : ∀ u : Int, 0 ≤ u → u < v → canB F G n s c u = false) (h1 : canB F G n s c v = true) : verd F G n s c = v := by
  unfold verd
  rcases hv with rfl | rfl
  · rw [if_pos h1]
  · rw [if_neg (by rw [h0 0 (by omega) (by omega)]; simp), if_pos h1]
theorem verd_none {c : List Int} (h0 : ∀ u : Int, 0 ≤ u → u < 2 → canB F G n s c u = false) : verd F G n s c = -1 := by
  unfold verd
  rw [if_neg (by rw [h0 0 (by omega) (by omega)]; simp), if_neg (by rw [h0 1 (by omega) (by omega)]; simp)]
end
set_option maxRecDepth 100000 in
set_option maxHeartbeats 2000000 in
theorem verd1_any (bx by' : Nat) (v : Int) (S A B C : Option Addr) (n cS cA cB cC : Nat) (s : Nat → Int) (rA rB : Nat → Option Addr × Nat × Nat) (F G : Nat → Nat → Nat) (l : List Int) (w : World) (hR : RulN w S n s A rA F B rB G) (hl : Crw n l) (hC : Ints w C n (fun i => l.getD i 0)) (hb : Blk w bx 54 #[.slice S n cS, .slice A n cA, .slice B n cB]) (hv : w.cell? ⟨by', 0, none⟩ = some (.int .i64 v)) :
    Calls Tryz.prog 103 #[.slice C n cC, .pointer (some ⟨bx, 0, none⟩), .pointer (some ⟨by', 0, none⟩)] w fun e w' => e = .returned (.bool (stead F G n s l == v)) ∧ Keeps w w' := by
  have CS1 := Lib.hid (fun (W : World) (hK : Keeps w W) => steadyOf_any S A B C n cS cA cB cC s rA rB F G l W (hR.keeps hK) hl (hC.keeps hK))
  have b0 : w.cell? ⟨bx, 0, none⟩ = some (.slice S n cS) := hb.cell 0
  have b1 : w.cell? ⟨bx, 1, none⟩ = some (.slice A n cA) := hb.cell 1
  have b2 : w.cell? ⟨bx, 2, none⟩ = some (.slice B n cB) := hb.cell 2
  clear hR hl hC hb
  generalize stead F G n s l = sd at *
  go_enter Tryz.func103, Tryz.ntmps103
  go_upto_region 1 with fail
  go_region_law (first | (refine step_go 104 #[.tmp 5, .tmp 6] #[54, 45] rfl rfl (fun _ _ => rfl) (by simp [Act.eval]) (CS1.out _ (Keeps.drew1 _)) ?_; rintro e w4 ⟨rfl, hk4⟩; have hv4 := cell_keeps hk4 (cell_keeps (Keeps.drew1 _) hv); refine ⟨_, rfl, ?_⟩))
  all_goals
    have HK4 := Lib.hid ((Keeps.drew1 _).step hk4)
    clear hk4
    go_wp2_with fail
    go_ret
    exact ⟨rfl, HK4.out⟩
set_option maxRecDepth 100000 in
set_option maxHeartbeats 4000000 in
theorem verdictOf_any (S A B C : Option Addr) (n cS cA cB cC : Nat) (s : Nat → Int) (rA rB : Nat → Option Addr × Nat × Nat) (F G : Nat → Nat → Nat) (l : List Int) (w : World) (hR : RulN w S n s A rA F B rB G) (hl : Crw n l) (hC : Ints w C n (fun i => l.getD i 0)) :
    Calls Tryz.prog 69 #[.agg #[.slice S n cS, .slice A n cA, .slice B n cB], .slice C n cC] w fun e w' => e = .returned (.int .i64 (verd F G n s l)) ∧ Keeps w w' := by
  have hmf : ∀ (fn : Fn) (first cap : Array Value) (w : World), (Instr.makeFunc fn first cap).run Tryz.prog w = .ok (.func fn first cap) w := fun _ _ _ _ => rfl
  have hn1 := hR.n1
  have hn4 := hR.n4
  have kb := Keeps.alloc w (.cells #[.slice S n cS, .slice A n cA, .slice B n cB] 54)
  have HR := Lib.hid hR
  have HW := Lib.hid hl
  have HWL := Lib.hid hl.len
  have HC := Lib.hid hC
  have HB0 : Hid (Blk (w.alloc (.cells #[.slice S n cS, .slice A n cA, .slice B n cB] 54)) w.heap.size 54 #[.slice S n cS, .slice A n cA, .slice B n cB]) := Lib.hid (Blk.new w _ _)
  have HK0 : Hid (Keeps w (w.alloc (.cells #[.slice S n cS, .slice A n cA, .slice B n cB] 54))) := Lib.hid kb
  clear hR hl hC kb
  go_enter Tryz.func69, Tryz.ntmps69
  go_wp2_with fail
  generalize w.alloc (.cells #[.slice S n cS, .slice A n cA, .slice B n cB] 54) = w1 at *
  have b0 : w1.cell? ⟨w.heap.size, 0, none⟩ = some (.slice S n cS) := HB0.out.cell 0
  have b1 : w1.cell? ⟨w.heap.size, 1, none⟩ = some (.slice A n cA) := HB0.out.cell 1
  have b2 : w1.cell? ⟨w.heap.size, 2, none⟩ = some (.slice B n cB) := HB0.out.cell 2
  refine wp_scope_straight ?_
  go_wp2_with fail
  refine (reachedOf_any S A B C n cS cA cB cC s rA rB F G l w1 (HR.out.keeps HK0.out) HW.out (HC.out.keeps HK0.out)).mono ?_
  rintro e w2 ⟨R, g, k, rfl, hc, hrc, _, hr, hk2⟩
  have HK2 := Lib.hid (HK0.out.step hk2)
  have HB2 := Lib.hid (HB0.out.keeps hk2)
  have HCR := Lib.hid hr
  have hkl := hr.len
  have hkb : k ≤ 1296 := by
    have h1 := crowds_le (L := R.map (·.l)) hn4 (crowdsN R hc) (fun x hx => ((hrc x hx).crw HR.out.rul HW.out).1)
    rw [List.length_map] at h1
    omega
  have HCW : Hid (∀ i, i < k → Crw n (R.getD i default).l) := Lib.hid (fun i hi => ((hrc _ (getD_map (by omega))).crw HR.out.rul HW.out).1)
  have HIF : Hid (∀ v, canB F G n s l v = true ↔ ∀ i, i < k → anyV F G n s v (R.getD i default).l = true) := Lib.hid (fun v => canB_iff hc hkl)
  clear hc hrc hr hk2 HK0 HB0 hkl b0 b1 b2
  go_wp2_with fail
  refine wp_label ?_
  go_wp2_with fail
  go_loopw [12] (fun i wr => ∃ u : Nat, u ≤ 2 ∧ i = .int .i64 u ∧ Hid (Keeps w2 wr) ∧ Hid (∀ v : Int, 0 ≤ v → v < (u : Nat) → canB F G n s l v = false)) (fun i _ => 2 - (intOf i).toNat)
  case atStart => exact ⟨0, by omega, rfl, Lib.hid (Keeps.refl _), Lib.hid (fun v h1 h2 => by omega)⟩
  case round =>
    obtain ⟨u, hu, rfl, HKR, HA⟩ := hrel
    by_cases hlt : u < 2
    · have hui : (u : Int) < 2 := by omega
      have HKS := Lib.hid (HKR.out.step (Keeps.alloc wr (.cells #[.int .i64 u] 3)))
      have HYB : Hid (∀ W, Keeps (wr.alloc (.cells #[.int .i64 u] 3)) W → W.cell? ⟨wr.heap.size, 0, none⟩ = some (.int .i64 u)) := Lib.hid (fun W hK => by rw [((Blk.new wr #[.int .i64 u] 3).keeps hK).cell 0]; rfl)
      go_wp2_with fail
      generalize wr.alloc (.cells #[.int .i64 u] 3) = w4 at *
      generalize wr.heap.size = yb at *
      go_loopw [17] (fun q wi => ∃ i : Nat, i ≤ k ∧ q = .int .i64 i ∧ Hid (Keeps w4 wi) ∧ Hid (∀ q, q < i → anyV F G n s u (R.getD q default).l = true)) (fun q _ => k - (intOf q).toNat)
      case atStart => exact ⟨0, by omega, rfl, Lib.hid (Keeps.refl _), Lib.hid (fun q h => absurd h (Nat.not_lt_zero _))⟩
      case round =>
        clear HKR
        obtain ⟨i, hi, rfl, HKI, HAI⟩ := hrel
        by_cases hlti : i < k
        · have hii : (i : Int) < k := by omega
          have HKW := Lib.hid (HKS.out.step HKI.out)
          have hcell := (HCR.out.keeps HKW.out).cell i hlti
          have HXO := Lib.hid ((HCR.out.keeps HKW.out).rowD i hlti).ints
          have HX := Lib.hid (HCW.out i hlti)
          unfold Hdr.v at hcell
          rw [HX.out.len] at hcell HXO
          have HSTEP : Hid (∀ X, X = (R.getD i default).l → (anyV F G n s u X = true → ∀ q, q < i + 1 → anyV F G n s u (R.getD q default).l = true) ∧ (anyV F G n s u X = false → canB F G n s l u = false)) := Lib.hid (fun X hX => ⟨fun h q hq => by
            by_cases e : q = i
            · subst e; rw [← hX]; exact h
            · exact HAI.out q (by omega), fun h => by
            rw [Bool.eq_false_iff]
            intro hh
            have := (HIF.out u).1 hh i hlti
            rw [← hX, h] at this
            cases this⟩)
          obtain ⟨xg, hxg⟩ : ∃ x, x = (R.getD i default).g := ⟨_, rfl⟩
          obtain ⟨xc, hxc⟩ : ∃ x, x = (R.getD i default).c := ⟨_, rfl⟩
          obtain ⟨X, hX⟩ : ∃ x, x = (R.getD i default).l := ⟨_, rfl⟩
          rw [← hxg, ← hxc] at hcell
          rw [← hxg, ← hX] at HXO
          rw [← hX] at HX
          have HST := Lib.hid (HSTEP.out X hX)
          clear hxg hxc hX HSTEP
          have b0 : wr.cell? ⟨w.heap.size, 0, none⟩ = some (.slice S n cS) := (HB2.out.keeps HKW.out).cell 0
          have b1 : wr.cell? ⟨w.heap.size, 1, none⟩ = some (.slice A n cA) := (HB2.out.keeps HKW.out).cell 1
          have b2 : wr.cell? ⟨w.heap.size, 2, none⟩ = some (.slice B n cB) := (HB2.out.keeps HKW.out).cell 2
          go_wp2_with fail
          refine (reachedOf_any S A B (some ⟨xg, 0, none⟩) n cS cA cB xc s rA rB F G X wr (HR.out.keeps (HK2.out.step HKW.out)) HX.out HXO.out).mono ?_
          rintro e w5 ⟨R2, g2, k2, rfl, hc2, hrc2, _, hr2, hk5⟩
          have HK5 := Lib.hid (HKI.out.step hk5)
          have hk2l := hr2.len
          have hk2b : k2 ≤ 1296 := by
            have h1 := crowds_le (L := R2.map (·.l)) hn4 (crowdsN R2 hc2) (fun x hx => ((hrc2 x hx).crw HR.out.rul HX.out).1)
            rw [List.length_map] at h1
            omega
          have CC : Hid (Calls Tryz.prog 102 #[.slice (some ⟨g2, 0, none⟩) k2 k2, .func (.func 103) #[] #[.pointer (some ⟨w.heap.size, 0, none⟩), .pointer (some ⟨yb, 0, none⟩)]] w5 fun e w' => e = .returned (.bool (anyV F G n s u X)) ∧ Keeps w5 w') := Lib.hid (by
            have h := rowcontains_any 103 #[.pointer (some ⟨w.heap.size, 0, none⟩), .pointer (some ⟨yb, 0, none⟩)] (some ⟨g2, 0, none⟩) k2 k2 (hdrR R2) (numR R2) (fun i => stead F G n s (R2.getD i default).l == (u : Int)) w5 (by omega) hr2.rows (fun _ _ => rfl) (fun q w' hq hK => by
              have hcq := ((hrc2 _ (getD_map (i := q) (by omega))).crw HR.out.rul HX.out).1
              have hrow := ((hr2.rowD q hq).keeps hK).ints
              have h2 := verd1_any w.heap.size yb u S A B (some ⟨(R2.getD q default).g, 0, none⟩) n cS cA cB (R2.getD q default).c s rA rB F G (R2.getD q default).l w' (HR.out.keeps ((HK2.out.step (HKS.out.step HK5.out)).step hK)) hcq (by rw [hcq.len] at hrow; exact hrow) ((HB2.out.keeps (HKS.out.step HK5.out)).keeps hK) (HYB.out w' (HK5.out.step hK))
              unfold hdrR
              rw [hcq.len]
              exact h2)
            rw [anyV_eq hc2 hk2l] at h
            exact h)
          clear hc2 hrc2 hr2 hk5 hk2l b0 b1 b2 hcell HKW
          go_wp2_with fail
          refine CC.out.mono ?_
          rintro e w6 ⟨rfl, hk6⟩
          have HK6 := Lib.hid (HK5.out.step hk6)
          clear hk6 CC
          cases hb : anyV F G n s u X
          · have HF := Lib.hid (HST.out.2 hb)
            clear hb HST
            have HKN := Lib.hid (HKS.out.step HK6.out)
            go_wp2_with fail
            go_roundw
            case rel => exact ⟨u + 1, by omega, by go_num, HKN, Lib.hid (fun v h1 h2 => by
              by_cases e : v = (u : Nat)
              · subst e; exact HF.out
              · exact HA.out v h1 (by omega))⟩
            case measure => simp [intOf]; omega
          · have HT := Lib.hid (HST.out.1 hb)
            clear hb HST
            go_wp2_with fail
            go_roundw
            case rel => exact ⟨i + 1, by omega, by go_num, HK6, HT⟩
            case measure => simp [intOf]; omega
        · obtain rfl : i = k := by omega
          have hyb := HYB.out wr HKI.out
          have HFIN : Hid (verd F G n s l = (u : Nat)) := Lib.hid (verd_at (v := ((u : Nat) : Int)) (by omega) (fun v h1 h2 => HA.out v h1 h2) ((HIF.out u).2 HAI.out))
          go_wp2_with fail
          try rw [Exit.noGoto_ret]
          go_ret
          exact ⟨ret_int HFIN.out.symm, HK2.out.step (HKS.out.step HKI.out)⟩
    · obtain rfl : u = 2 := by omega
      have HFIN : Hid (verd F G n s l = -1) := Lib.hid (verd_none (fun v h1 h2 => HA.out v h1 (by simpa using h2)))
      go_wp2_with fail
      try rw [Exit.noGoto_ret]
      go_ret
      exact ⟨ret_int HFIN.out.symm, HK2.out.step HKR.out⟩
end Go.Proofs.YtlniogfinofakaaGreatDoor
/-
  The reference's VerdictOf. Conditions: bounds on lengths.
-/
namespace Go.Proofs.YtlniogfinofakaaGreatDoor
set_option maxRecDepth 100000
set_option maxRecDepth 100000
set_option linter.unusedVariables false
open Go.RowKit

/-- One int is appended, as one step of a region that draws its order. -/
theorem step_one_int {ops : Array Oper} {o : Oper} {a : Act} {K : Act → World → Prop} {Q : Exit → Act → World → Prop} {D : Prop}
    (hgd : o.guard = none) (s y : Operand) (ho : o.op = .call { callee := .builtin .append, args := #[s, y], argTypes := #[45, 45] })
    (lo g n c : Nat) (l : List Int) (W : World) (hs : a.eval s = .slice (some ⟨g, 0, none⟩) n c) (hC : OwnInts W lo (some ⟨g, 0, none⟩) n c l)
    (b : Nat) (x : Int) (hz : W.cell? ⟨b, 0, none⟩ = some (.int .i64 x)) (hx : a.eval y = .slice (some ⟨b, 0, none⟩) 1 1) (hn : n + 1 ≤ 1099511627776) (hbase : lo ≤ W.heap.size)
    (h : ∀ (g' c' : Nat) (w' : World), OwnInts w' lo (some ⟨g', 0, none⟩) (n + 1) c' (l ++ [x]) → W.grownBy w' (some g) → K (a.put o.dst (.slice (some ⟨g', 0, none⟩) (n + 1) c')) w') :
    if Region.wanted o (yielded ops a.tmps) = true then Oper.wp Tryz.prog o a W K Q else D := by
  have hw : Region.wanted o (yielded ops a.tmps) = true := by simp [Region.wanted, hgd]
  rw [if_pos hw]
  obtain ⟨i0, hi, hz0, hz1, hz2⟩ := info_parts info_int
  obtain ⟨v', w', hr, h2, h3, h4, h5⟩ := run_append_own_at (P := Tryz.prog) W lo 45 o.type 3 i0 _ 1 8 Tryz.underlying45 hi hz0 hz1 hz2 rfl (by decide) _ n _ hC ⟨b, 0, none⟩ 1 1 ([x].map (Value.int .i64)) (by simp) (fun j u hj => by
    have hj0 : j = 0 := by
      have := (List.getElem?_eq_some_iff.1 hj).1
      simpa using this
    subst hj0
    rw [show (⟨b, 0, none⟩ : Addr).add 0 = ⟨b, 0, none⟩ from rfl, hz, ← hj]
    rfl) (fun u hu => by
    obtain ⟨x, _, rfl⟩ := List.mem_map.1 hu
    rfl) (by unfold maxLen; omega) (by omega) hbase
  have hv : ∃ g' c', v' = .slice (some ⟨g', 0, none⟩) (n + 1) c' := by
    rcases h2.2 with ⟨e, h0⟩ | ⟨g', cap, cur, e, _⟩
    · have := (h4.1 e).1
      cases this
    · exact ⟨g', cap, e⟩
  obtain ⟨g', c', rfl⟩ := hv
  unfold Oper.wp execOp
  simp only [ho, resolve, invoke, builtin, Sem.run_bind, Sem.run_pure, Result.andThen_ok, List.map_toArray, List.map_cons, List.map_nil, hs, hx, hr]
  exact h g' c' w' (by unfold OwnInts; rw [List.map_append]; exact h2) h3
theorem il_snoc (n : Nat) (x : Nat → Int) : il (n + 1) x = il n x ++ [x n] := by
  unfold il
  rw [List.range_succ, List.map_append]
  rfl
section
variable (F G : Nat → Nat → Nat) (n : Nat) (s : Nat → Int) (R : List Hdr)
noncomputable def stQ (q : Nat) : Int := stead F G n s (R.getD q default).l
/-- All ahead of i may come to say v. -/
noncomputable def zbV (v : Int) (i : Nat) : Bool := !anyB (fun q => !anyV F G n s v (R.getD q default).l) i
variable {F G n s R}
theorem zbV_next (v : Int) (i : Nat) : zbV F G n s R v (i + 1) = (zbV F G n s R v i && anyV F G n s v (R.getD i default).l) := by
  unfold zbV
  rw [anyB]
  cases anyB (fun q => !anyV F G n s v (R.getD q default).l) i <;> cases anyV F G n s v (R.getD i default).l <;> rfl
theorem zbV_all {c : List Int} {k : Nat} (h : R.map (·.l) = rchL F G n c) (hk : R.length = k) (v : Int) : canB F G n s c v = zbV F G n s R v k := by
  rw [Bool.eq_iff_iff, canB_iff h hk]
  unfold zbV
  rw [Bool.not_eq_true', anyB_false]
  constructor
  · intro h1 i hi; rw [h1 i hi]; rfl
  · intro h1 i hi; have := h1 i hi; simpa using this
theorem sl_at {R : List Hdr} (h : SL (R.map (·.l))) {i j : Nat} (hij : i < j) (hj : j < R.length) : ltL (R.getD i default).l (R.getD j default).l = true := by
  unfold SL at h
  rw [List.pairwise_iff_getElem] at h
  have := h i j (by rw [List.length_map]; omega) (by rw [List.length_map]; omega) hij
  simp only [List.getElem_map] at this
  rw [List.getD_eq_getElem?_getD, List.getD_eq_getElem?_getD, List.getElem?_eq_getElem (by omega), List.getElem?_eq_getElem hj]
  exact this
theorem pos_lt {R R2 : List Hdr} (h : SL (R.map (·.l))) (h2 : SL (R2.map (·.l))) {q t p p' : Nat} (hqt : q < t) (ht : t < R2.length) (hp : p < R.length) (hp' : p' < R.length) (e : (R.getD p default).l = (R2.getD q default).l) (e' : (R.getD p' default).l = (R2.getD t default).l) : p < p' := by
  have h3 := sl_at h2 hqt ht
  rw [← e, ← e'] at h3
  rcases Nat.lt_trichotomy p p' with h4 | h4 | h4
  · exact h4
  · subst h4
    rw [ltL_irrefl] at h3
    cases h3
  · have := ltL_asymm (sl_at h h4 hp)
    rw [h3] at this
    cases this
theorem pos_ex {l X : List Int} {R R2 : List Hdr} (hR : Rul n F G) (hl : Crw n l) (hc : R.map (·.l) = rchL F G n l) (hX : X ∈ R.map (·.l)) (hc2 : R2.map (·.l) = rchL F G n X) {q : Nat} (hq : q < R2.length) : ∃ p, p < R.length ∧ (R.getD p default).l = (R2.getD q default).l := by
  rw [hc] at hX
  have h1 := (mem_rchL hR hl).1 hX
  have h2 : (R2.getD q default).l ∈ rchL F G n X := by rw [← hc2]; exact getD_map hq
  have h3 := (mem_rchL hR (h1.crw hR hl).1).1 h2
  have h4 : (R2.getD q default).l ∈ R.map (·.l) := by rw [hc]; exact (mem_rchL hR hl).2 (h1.trans h3)
  obtain ⟨p, hp, e⟩ := mem_mapD h4
  exact ⟨p, hp, e.symm⟩
end
set_option maxRecDepth 100000 in
set_option maxHeartbeats 40000000 in
theorem sVerdictOf_any (S A B C : Option Addr) (nS cS nA cA nB cB cC : Nat) (s : Nat → Int) (rA rB : Nat → Option Addr × Nat × Nat) (f g : Nat → Nat → Int) (l : List Int) (w : World) (hR : RulAt w S nS s A nA rA f B nB rB g) (hC : Ints w C l.length (fun i => l.getD i 0)) (hl : l.length ≤ 1099511627776) :
    Calls Tryz.prog 36 #[.agg #[.slice S nS cS, .slice A nA cA, .slice B nB cB], .slice C l.length cC] w fun e w' => e = .returned (.int .i64 (if (rulB nS s nA rA f nB rB g && crwB nS l) then verd (natF f) (natF g) nS s l else -1)) ∧ Keeps w w' := by
  have hbS := hR.bS
  cases hv0 : rulB nS s nA rA f nB rB g
  · have kb := Keeps.alloc w (.cells #[.slice S nS cS, .slice A nA cA, .slice B nB cB] 54)
    have HB := Lib.hid (Blk.new w #[.slice S nS cS, .slice A nA cA, .slice B nB cB] 54)
    have HR := Lib.hid (hR.keeps kb)
    have HC := Lib.hid (hC.keeps kb)
    have HK := Lib.hid kb
    have hln := hl
    rw [Bool.false_and, if_neg (by simp)]
    clear hR hC kb
    go_enter Tryz.func36, Tryz.ntmps36
    go_wp2_with fail
    generalize w.alloc (.cells #[.slice S nS cS, .slice A nA cA, .slice B nB cB] 54) = w1 at *
    have CV := Lib.hid (svalidRules_any S A B nS cS nA cA nB cB s rA rB f g w1 HR.out)
    rw [hv0] at CV
    refine CV.out.mono ?_
    rintro e w2 ⟨rfl, hk2⟩
    have HKF := Lib.hid (HK.out.step hk2)
    have HB2 := Lib.hid (HB.out.keeps hk2)
    have HR2 := Lib.hid (HR.out.keeps hk2)
    have HC2 := Lib.hid (HC.out.keeps hk2)
    clear hk2 HB HR HC HK
    go_wp2_with fail
    go_ret
    exact ⟨rfl, HKF.out⟩
  · cases hv3 : crwB nS l
    · have kb := Keeps.alloc w (.cells #[.slice S nS cS, .slice A nA cA, .slice B nB cB] 54)
      have HB := Lib.hid (Blk.new w #[.slice S nS cS, .slice A nA cA, .slice B nB cB] 54)
      have HR := Lib.hid (hR.keeps kb)
      have HC := Lib.hid (hC.keeps kb)
      have HK := Lib.hid kb
      have hln := hl
      rw [Bool.true_and, if_neg (by simp)]
      clear hR hC kb
      go_enter Tryz.func36, Tryz.ntmps36
      go_wp2_with fail
      generalize w.alloc (.cells #[.slice S nS cS, .slice A nA cA, .slice B nB cB] 54) = w1 at *
      have CV := Lib.hid (svalidRules_any S A B nS cS nA cA nB cB s rA rB f g w1 HR.out)
      rw [hv0] at CV
      refine CV.out.mono ?_
      rintro e w2 ⟨rfl, hk2⟩
      have HKF := Lib.hid (HK.out.step hk2)
      have HB2 := Lib.hid (HB.out.keeps hk2)
      have HR2 := Lib.hid (HR.out.keeps hk2)
      have HC2 := Lib.hid (HC.out.keeps hk2)
      clear hk2 HB HR HC HK
      have d0 : w2.cell? ⟨w.heap.size, 0, none⟩ = some (.slice S nS cS) := HB2.out.cell 0
      have d1 : w2.cell? ⟨w.heap.size, 1, none⟩ = some (.slice A nA cA) := HB2.out.cell 1
      have d2 : w2.cell? ⟨w.heap.size, 2, none⟩ = some (.slice B nB cB) := HB2.out.cell 2
      have CW := Lib.hid (validCrowd_any S A B C nS cS nA cA nB cB cC l w2 hbS HC2.out hln)
      rw [hv3] at CW
      go_wp2_with fail
      refine CW.out.mono ?_
      rintro e w3 ⟨rfl, hk3⟩
      have HKG := Lib.hid (HKF.out.step hk3)
      have HB3 := Lib.hid (HB2.out.keeps hk3)
      have HC3 := Lib.hid (HC2.out.keeps hk3)
      clear hk3 HB2 HC2 HKF HR2
      go_wp2_with fail
      go_ret
      exact ⟨rfl, HKG.out⟩
    · have hv : (rulB nS s nA rA f nB rB g && crwB nS l) = true := by rw [hv0, hv3]; rfl
      have hv1 := (Bool.and_eq_true_iff.1 hv)
      obtain ⟨h1, h2, hN⟩ := hR.valid hv1.1
      have hW := crwB_iff.1 hv1.2
      have hlen := hW.len
      have HN : Hid (RulN w S nS s A rA (natF f) B rB (natF g)) := Lib.hid hN
      have HW := Lib.hid hW
      have HLN := Lib.hid hlen
      rw [Bool.true_and, if_pos rfl]
      rw [h1, h2] at hR ⊢
      rw [hlen]
      have kb := Keeps.alloc w (.cells #[.slice S nS cS, .slice A nS cA, .slice B nS cB] 54)
      have HB := Lib.hid (Blk.new w #[.slice S nS cS, .slice A nS cA, .slice B nS cB] 54)
      have HR := Lib.hid (hR.keeps kb)
      have HC := Lib.hid (hC.keeps kb)
      have HK := Lib.hid kb
      have hln := hl
      have hv2 : rulB nS s nS rA f nS rB g = true := by have h := hv0; rw [h1, h2] at h; exact h
      clear hN hW
      clear hR hC kb
      go_enter Tryz.func36, Tryz.ntmps36
      go_wp2_with fail
      generalize w.alloc (.cells #[.slice S nS cS, .slice A nS cA, .slice B nS cB] 54) = w1 at *
      have CV := Lib.hid (svalidRules_any S A B nS cS nS cA nS cB s rA rB f g w1 HR.out)
      rw [hv2] at CV
      clear hv hv1 hv0 hv2 h1 h2 hl
      refine CV.out.mono ?_
      rintro e w2 ⟨rfl, hk2⟩
      have HKF := Lib.hid (HK.out.step hk2)
      have HB2 := Lib.hid (HB.out.keeps hk2)
      have HR2 := Lib.hid (HR.out.keeps hk2)
      have HC2 := Lib.hid (HC.out.keeps hk2)
      clear hk2 HB HR HC HK
      have d0 : w2.cell? ⟨w.heap.size, 0, none⟩ = some (.slice S nS cS) := HB2.out.cell 0
      have d1 : w2.cell? ⟨w.heap.size, 1, none⟩ = some (.slice A nS cA) := HB2.out.cell 1
      have d2 : w2.cell? ⟨w.heap.size, 2, none⟩ = some (.slice B nS cB) := HB2.out.cell 2
      have CW := Lib.hid (validCrowd_any S A B C nS cS nS cA nS cB cC l w2 hbS HC2.out hln)
      rw [hv3, hlen] at CW
      clear hv3 hlen hln
      go_wp2_with fail
      refine CW.out.mono ?_
      rintro e w3 ⟨rfl, hk3⟩
      clear d0 d1 d2
      have HKG := Lib.hid (HKF.out.step hk3)
      have HB3 := Lib.hid (HB2.out.keeps hk3)
      have HC3 := Lib.hid (HC2.out.keeps hk3)
      clear hk3 HB2 HC2 HKF HR2
      have HCI : Hid (Ints w3 C nS (fun i => l.getD i 0)) := Lib.hid (by have h := HC3.out; rw [HLN.out] at h; exact h)
      clear HLN HC3
      have hn4 := HN.out.n4
      have d0 : w3.cell? ⟨w.heap.size, 0, none⟩ = some (.slice S nS cS) := HB3.out.cell 0
      have d1 : w3.cell? ⟨w.heap.size, 1, none⟩ = some (.slice A nS cA) := HB3.out.cell 1
      have d2 : w3.cell? ⟨w.heap.size, 2, none⟩ = some (.slice B nS cB) := HB3.out.cell 2
      have CX := Lib.hid (reached_any S A B C nS cS cA cB cC s rA rB (natF f) (natF g) l w3 (HN.out.keeps HKG.out) HW.out HCI.out)
      go_wp2_with fail
      refine CX.out.mono ?_
      rintro e w4 ⟨R, g0, k, c0, rfl, hc, hrc, hr, _, hk4⟩
      have HK4 := Lib.hid (HKG.out.step hk4)
      have HB4 := Lib.hid (HB3.out.keeps hk4)
      have HCR := Lib.hid hr
      have hkl := hr.len
      have HRC := Lib.hid hc
      have HKL := Lib.hid hkl
      have hkb : k ≤ 1296 := by
        have h1 := crowds_le (L := R.map (·.l)) hn4 (crowdsN R hc) (fun x hx => ((hrc x hx).crw HN.out.rul HW.out).1)
        rw [List.length_map] at h1
        omega
      have HCW : Hid (∀ i, i < k → Crw nS (R.getD i default).l) := Lib.hid (fun i hi => ((hrc _ (getD_map (by omega))).crw HN.out.rul HW.out).1)
      have HIF : Hid (∀ v, canB (natF f) (natF g) nS s l v = zbV (natF f) (natF g) nS s R v k) := Lib.hid (fun v => zbV_all hc hkl v)
      clear hc hrc hr hk4 HKG HB3 hkl d0 d1 d2 CX HCI
      have HO0 : Hid (OwnInts (w4.alloc (.cells #[] 3)) w4.heap.size (some ⟨w4.heap.size, 0, none⟩) 0 0 (il 0 (stQ (natF f) (natF g) nS s R))) := Lib.hid (OwnInts.made w4 w4.heap.size (Nat.le_refl _))
      have HK0 : Hid (Keeps w4 (w4.alloc (.cells #[] 3))) := Lib.hid (Keeps.alloc _ _)
      go_wp2_with fail
      generalize w4.alloc (.cells #[] 3) = w5 at *
      as_aux_lemma =>
        go_loopw [7, 6] (fun i v wr => ∃ (i' gs cs : Nat), i' ≤ k ∧ i = .int .i64 i' ∧ v = .slice (some ⟨gs, 0, none⟩) i' cs ∧ Hid (Keeps w4 wr) ∧ Hid (OwnInts wr w4.heap.size (some ⟨gs, 0, none⟩) i' cs (il i' (stQ (natF f) (natF g) nS s R)))) (fun i _ _ => k - (intOf i).toNat)
        case atStart => exact ⟨0, _, 0, by omega, rfl, rfl, HK0, HO0⟩
        case round =>
          clear HK0 HO0
          obtain ⟨i, gs, cs, hi, rfl, rfl, HKR, HO⟩ := hrel
          by_cases hlt : i < k
          · have hii : (i : Int) < k := by omega
            have hcell := (HCR.out.keeps HKR.out).cell i hlt
            have HXO := Lib.hid ((HCR.out.keeps HKR.out).rowD i hlt).ints
            have HX := Lib.hid (HCW.out i hlt)
            unfold Hdr.v at hcell
            rw [HX.out.len] at hcell HXO
            have CW := Lib.hid (fun (W : World) (hK : Keeps wr W) => ssteady_any S A B (some ⟨(R.getD i default).g, 0, none⟩) nS cS cA cB (R.getD i default).c s rA rB (natF f) (natF g) (R.getD i default).l W (HN.out.keeps ((HK4.out.step HKR.out).step hK)) HX.out (HXO.out.keeps hK))
            obtain ⟨xg, hxg⟩ : ∃ x, x = (R.getD i default).g := ⟨_, rfl⟩
            obtain ⟨xc, hxc⟩ : ∃ x, x = (R.getD i default).c := ⟨_, rfl⟩
            rw [← hxg, ← hxc] at hcell CW
            have HSQ : Hid (il (i + 1) (stQ (natF f) (natF g) nS s R) = il i (stQ (natF f) (natF g) nS s R) ++ [stead (natF f) (natF g) nS s (R.getD i default).l]) := Lib.hid (il_snoc i _)
            clear hxg hxc HXO
            generalize stead (natF f) (natF g) nS s (R.getD i default).l = sd at *
            have b0 : wr.cell? ⟨w.heap.size, 0, none⟩ = some (.slice S nS cS) := (HB4.out.keeps HKR.out).cell 0
            have b1 : wr.cell? ⟨w.heap.size, 1, none⟩ = some (.slice A nS cA) := (HB4.out.keeps HKR.out).cell 1
            have b2 : wr.cell? ⟨w.heap.size, 2, none⟩ = some (.slice B nS cB) := (HB4.out.keeps HKR.out).cell 2
            have hsz := HKR.out.size
            go_upto_region 8 with fail
            go_region_law (first | (refine step_go 54 #[.tmp 36, .tmp 40] #[54, 45] rfl rfl (fun _ _ => rfl) (by simp [Act.eval]) (CW.out _ (Keeps.drew1 _)) ?_; rintro e w6 ⟨rfl, hk6⟩; refine ⟨_, rfl, ?_⟩) | (refine step_one_int rfl (.tmp 35) (.tmp 42) rfl w4.heap.size gs i cs (il i (stQ (natF f) (natF g) nS s R)) _ rfl (HO.out.keeps (((Keeps.drew1 _).step hk6).step (Keeps.alloc w6 _))) w6.heap.size sd (by rw [(Blk.new w6 #[.int .i64 sd] 3).cell 0]; rfl) rfl (by omega) (by have h1 := hk6.size; have h2 : wr.drew.heap.size = wr.heap.size := rfl; have h3 := (Keeps.alloc w6 (.cells #[.int .i64 sd] 3)).size; omega) ?_; intro gs2 cs2 w7 hO7 hg7))
            all_goals
              have HK7 : Hid (Keeps w4 w7) := Lib.hid ((HKR.out.step (((Keeps.drew1 _).step hk6).step (Keeps.alloc w6 _))).grown (HO.out.keeps (((Keeps.drew1 _).step hk6).step (Keeps.alloc w6 _))) (Nat.le_refl _) hg7)
              have HO7 : Hid (OwnInts w7 w4.heap.size (some ⟨gs2, 0, none⟩) (i + 1) cs2 (il (i + 1) (stQ (natF f) (natF g) nS s R))) := Lib.hid (by rw [HSQ.out]; exact hO7)
              clear hk6 hO7 hg7
              go_wp2_with fail
              go_roundw
              case rel => exact ⟨i + 1, gs2, cs2, by omega, by go_num, rfl, HK7, HO7⟩
              case measure => simp [intOf]; omega
          · obtain rfl : k = i := by omega
            have HVF : Hid (verd (natF f) (natF g) nS s l = if zbV (natF f) (natF g) nS s R 0 k then 0 else if zbV (natF f) (natF g) nS s R 1 k then 1 else -1) := Lib.hid (by
              unfold verd
              rw [HIF.out, HIF.out])
            have HKB := HKR
            have HOB := HO
            clear HIF HKR HO
            as_aux_lemma =>
              go_wp2_with fail
              go_loopw [10, 8, 9] (fun q z o wi => ∃ i' : Nat, i' ≤ k ∧ q = .int .i64 i' ∧ z = .bool (zbV (natF f) (natF g) nS s R 0 i') ∧ o = .bool (zbV (natF f) (natF g) nS s R 1 i') ∧ Hid (Keeps wr wi)) (fun q _ _ _ => k - (intOf q).toNat)
              case atStart => exact ⟨0, by omega, rfl, rfl, rfl, Lib.hid (Keeps.refl _)⟩
              case round =>
                obtain ⟨i, hi, rfl, rfl, rfl, HKI⟩ := hrel
                have HZ0 := Lib.hid (@zbV_next (natF f) (natF g) nS s R 0 i)
                have HZ1 := Lib.hid (@zbV_next (natF f) (natF g) nS s R 1 i)
                by_cases hlt : i < k
                · have hii : (i : Int) < k := by omega
                  have HKW := Lib.hid (HKB.out.step HKI.out)
                  have hcell := (HCR.out.keeps HKW.out).cell i hlt
                  have HXO := Lib.hid ((HCR.out.keeps HKW.out).rowD i hlt).ints
                  have HX := Lib.hid (HCW.out i hlt)
                  have HXM : Hid ((R.getD i default).l ∈ R.map (·.l)) := Lib.hid (getD_map (by rw [HKL.out]; exact hlt))
                  unfold Hdr.v at hcell
                  rw [HX.out.len] at hcell HXO
                  have CW := Lib.hid (fun (W : World) (hK : Keeps wr W) => reached_any S A B (some ⟨(R.getD i default).g, 0, none⟩) nS cS cA cB (R.getD i default).c s rA rB (natF f) (natF g) (R.getD i default).l W (HN.out.keeps ((HK4.out.step HKW.out).step hK)) HX.out (HXO.out.keeps hK))
                  obtain ⟨xg, hxg⟩ : ∃ x, x = (R.getD i default).g := ⟨_, rfl⟩
                  obtain ⟨xc, hxc⟩ : ∃ x, x = (R.getD i default).c := ⟨_, rfl⟩
                  obtain ⟨X, hX⟩ : ∃ x, x = (R.getD i default).l := ⟨_, rfl⟩
                  rw [← hxg, ← hxc] at hcell CW
                  rw [← hX] at CW HZ0 HZ1 HX HXM
                  clear hxg hxc hX HXO
                  have b0 : wr.cell? ⟨w.heap.size, 0, none⟩ = some (.slice S nS cS) := (HB4.out.keeps HKW.out).cell 0
                  have b1 : wr.cell? ⟨w.heap.size, 1, none⟩ = some (.slice A nS cA) := (HB4.out.keeps HKW.out).cell 1
                  have b2 : wr.cell? ⟨w.heap.size, 2, none⟩ = some (.slice B nS cB) := (HB4.out.keeps HKW.out).cell 2
                  generalize hz0 : zbV (natF f) (natF g) nS s R 0 i = zz at *
                  generalize hz1 : zbV (natF f) (natF g) nS s R 1 i = oo at *
                  clear hz0 hz1
                  go_upto_region 14 with fail
                  go_region_law (first | (refine step_go 53 #[.tmp 50, .tmp 54] #[54, 45] rfl rfl (fun _ _ => rfl) (by simp [Act.eval]) (CW.out _ (Keeps.drew1 _)) ?_; rintro e w8 ⟨R2, g2, k2, c2, rfl, hc2, hrc2, hr2, _, hk8⟩; refine ⟨_, rfl, ?_⟩))
                  all_goals
                    simp only [Act.put, List.getElem_toArray, List.getElem_cons_succ, List.getElem_cons_zero, List.setIfInBounds_toArray, List.set_cons_succ, List.set_cons_zero]
                    have HK8 := Lib.hid (HKI.out.step ((Keeps.drew1 _).step hk8))
                    have HR2 := Lib.hid hr2
                    have hk2l := hr2.len
                    have hk2b : k2 ≤ 1296 := by
                      have h1 := crowds_le (L := R2.map (·.l)) hn4 (crowdsN R2 hc2) (fun x hx => ((hrc2 x hx).crw HN.out.rul HX.out).1)
                      rw [List.length_map] at h1
                      omega
                    have HCW2 : Hid (∀ i, i < k2 → (R2.getD i default).l.length = nS) := Lib.hid (fun i hi => ((hrc2 _ (getD_map (by omega))).crw HN.out.rul HX.out).1.len)
                    have HPX : Hid (∀ q, q < k2 → ∃ p, p < k ∧ (R.getD p default).l = (R2.getD q default).l) := Lib.hid (fun q hq => by
                      have h := pos_ex HN.out.rul HW.out HRC.out HXM.out hc2 (q := q) (by omega)
                      rw [HKL.out] at h
                      exact h)
                    have HPL : Hid (∀ q t p p', q < t → t < k2 → p < k → p' < k → (R.getD p default).l = (R2.getD q default).l → (R.getD p' default).l = (R2.getD t default).l → p < p') := Lib.hid (fun q t p p' h1 h2 h3 h4 h5 h6 => pos_lt (by rw [HRC.out]; exact sl_rchL HN.out.rul HW.out) (by rw [hc2]; exact sl_rchL HN.out.rul HX.out) h1 (by omega) (by rw [HKL.out]; exact h3) (by rw [HKL.out]; exact h4) h5 h6)
                    have HAV : Hid (∀ v, anyB (fun t => stead (natF f) (natF g) nS s (R2.getD t default).l == v) k2 = anyV (natF f) (natF g) nS s v X) := Lib.hid (fun v => anyV_eq hc2 hk2l)
                    clear hc2 hrc2 hr2 hk8 hk2l b0 b1 b2 hcell HKI HKW CW HXM
                    as_aux_lemma =>
                      go_wp2_with fail
                      go_loopw [15, 12, 13, 14] (fun q a b t wi => ∃ (q' t' : Nat), q' ≤ k2 ∧ q = .int .i64 q' ∧ a = .bool (anyB (fun t => stead (natF f) (natF g) nS s (R2.getD t default).l == 0) q') ∧ b = .bool (anyB (fun t => stead (natF f) (natF g) nS s (R2.getD t default).l == 1) q') ∧ t = .int .i64 t' ∧ Hid (Keeps w8 wi) ∧ Hid (t' ≤ k ∧ ∀ t p, q' ≤ t → t < k2 → p < k → (R.getD p default).l = (R2.getD t default).l → t' ≤ p)) (fun q _ _ _ _ => k2 - (intOf q).toNat)
                      case atStart => exact ⟨0, 0, by omega, rfl, rfl, rfl, rfl, Lib.hid (Keeps.refl _), Lib.hid ⟨by omega, fun t p _ _ _ _ => by omega⟩⟩
                      case round =>
                        obtain ⟨q, t, hq, rfl, rfl, rfl, rfl, HKQ, HT⟩ := hrel
                        have HA0 : Hid (anyB (fun t => stead (natF f) (natF g) nS s (R2.getD t default).l == 0) (q + 1) = (anyB (fun t => stead (natF f) (natF g) nS s (R2.getD t default).l == 0) q || (stead (natF f) (natF g) nS s (R2.getD q default).l == 0))) := Lib.hid rfl
                        have HA1 : Hid (anyB (fun t => stead (natF f) (natF g) nS s (R2.getD t default).l == 1) (q + 1) = (anyB (fun t => stead (natF f) (natF g) nS s (R2.getD t default).l == 1) q || (stead (natF f) (natF g) nS s (R2.getD q default).l == 1))) := Lib.hid rfl
                        by_cases hltq : q < k2
                        · have hqi : (q : Int) < k2 := by omega
                          obtain ⟨p0, hp0, hpe⟩ := HPX.out q hltq
                          have HPE := Lib.hid hpe
                          have htp : t ≤ p0 := HT.out.2 q p0 (Nat.le_refl _) hltq hp0 hpe
                          have HNX : Hid (∀ u, u < k → (R.getD u default).l = (R2.getD q default).l → ∀ t p, q + 1 ≤ t → t < k2 → p < k → (R.getD p default).l = (R2.getD t default).l → u ≤ p) := Lib.hid (fun u hu hue t p h1 h2 h3 h4 => Nat.le_of_lt (HPL.out q t u p h1 h2 hu h3 hue h4))
                          generalize hva : anyB (fun t => stead (natF f) (natF g) nS s (R2.getD t default).l == 0) q = va at *
                          generalize hvb : anyB (fun t => stead (natF f) (natF g) nS s (R2.getD t default).l == 1) q = vb at *
                          clear hva hvb HT hpe
                          as_aux_lemma =>
                            go_wp2_with fail
                            go_loopw [14] (fun t wi => ∃ t' : Nat, t' ≤ p0 ∧ t = .int .i64 t' ∧ Hid (Keeps w8 wi)) (fun t _ => p0 + 1 - (intOf t).toNat)
                            case atStart => exact ⟨t, htp, rfl, HKQ⟩
                            case round =>
                              clear HKQ htp
                              obtain ⟨t, htp, rfl, HKQ⟩ := hrel
                              have htk : t < k := by omega
                              have hti : (t : Int) < k := by omega
                              have HK48 := Lib.hid ((HKB.out.step HK8.out).step HKQ.out)
                              have hc1 := (HCR.out.keeps HK48.out).cell t htk
                              have hc2 := (HR2.out.keeps HKQ.out).cell q hltq
                              have HO1 := Lib.hid ((HCR.out.keeps HK48.out).rowD t htk).ints
                              have HO2 := Lib.hid ((HR2.out.keeps HKQ.out).rowD q hltq).ints
                              have HL1 := Lib.hid (HCW.out t htk).len
                              have HL2 := Lib.hid (HCW2.out q hltq)
                              unfold Hdr.v at hc1 hc2
                              rw [HL1.out] at hc1 HO1
                              rw [HL2.out] at hc2 HO2
                              have hsv := (HOB.out.keeps (HK8.out.step HKQ.out)).cell t htk
                              rw [il_getD _ _ _ htk] at hsv
                              have HSV : Hid ((R.getD t default).l = (R2.getD q default).l → stQ (natF f) (natF g) nS s R t = stead (natF f) (natF g) nS s (R2.getD q default).l) := Lib.hid (fun h => by unfold stQ; rw [h])
                              generalize stQ (natF f) (natF g) nS s R t = sv at *
                              have CE := Lib.hid (fun (W : World) (hK : Keeps wr W) => same_any (some ⟨(R.getD t default).g, 0, none⟩) (some ⟨(R2.getD q default).g, 0, none⟩) nS (R.getD t default).c (R2.getD q default).c (R.getD t default).l (R2.getD q default).l W HL1.out HL2.out (by omega) (HO1.out.keeps hK) (HO2.out.keeps hK))
                              obtain ⟨xg1, hx1⟩ : ∃ x, x = (R.getD t default).g := ⟨_, rfl⟩
                              obtain ⟨xc1, hx2⟩ : ∃ x, x = (R.getD t default).c := ⟨_, rfl⟩
                              obtain ⟨xg2, hx3⟩ : ∃ x, x = (R2.getD q default).g := ⟨_, rfl⟩
                              obtain ⟨xc2, hx4⟩ : ∃ x, x = (R2.getD q default).c := ⟨_, rfl⟩
                              rw [← hx1, ← hx2] at hc1
                              rw [← hx3, ← hx4] at hc2
                              rw [← hx1, ← hx2, ← hx3, ← hx4] at CE
                              clear hx1 hx2 hx3 hx4 HO1 HO2
                              have HSK : Hid ((R.getD t default).l ≠ (R2.getD q default).l → t + 1 ≤ p0) := Lib.hid (fun h => by
                                rcases Nat.lt_or_ge t p0 with h1 | h1
                                · exact h1
                                · have : t = p0 := by omega
                                  subst this
                                  exact absurd HPE.out h)
                              have HNT := Lib.hid (HNX.out t htk)
                              as_aux_lemma =>
                                obtain ⟨bb, hbb⟩ : ∃ bb, bb = decide ((R.getD t default).l = (R2.getD q default).l) := ⟨_, rfl⟩
                                rw [← hbb] at CE
                                have HBB := Lib.hid hbb
                                clear hbb
                                go_upto_region 21 with fail
                                go_region_held3 (fun w' => w'.cell? ⟨g0, t, none⟩ = some (.slice (some ⟨xg1, 0, none⟩) nS xc1) ∧ w'.cell? ⟨g2, q, none⟩ = some (.slice (some ⟨xg2, 0, none⟩) nS xc2) ∧ Keeps wr w') (first | exact ⟨cell_keeps hk9 q0, cell_keeps hk9 q1, q2.step hk9⟩ | exact ⟨hc1, hc2, Keeps.drew1 _⟩) (first | (go_at_call 55; obtain ⟨q0, q1, q2⟩ : _ ∧ _ ∧ Keeps wr _ := (by assumption); (with_reducible refine (CE.out _ q2).mono ?_); rintro e w9 ⟨rfl, hk9⟩))
                                have HK9 := Lib.hid (HKQ.out.step (q2.step hk9))
                                have hsv9 := cell_keeps (q2.step hk9) hsv
                                clear q0 q1 q2 hk9 CE hc1 hc2 hsv
                                cases bb
                                · have hskip := HSK.out (of_decide_eq_false HBB.out.symm)
                                  clear HBB HSK HNT HSV
                                  as_aux_lemma =>
                                    go_wp2_with fail
                                    go_roundw
                                    case rel => exact ⟨t + 1, by omega, by go_num, HK9⟩
                                    case measure => simp [intOf]; omega
                                · have heq := of_decide_eq_true HBB.out.symm
                                  have HNN := Lib.hid (HNT.out heq)
                                  have HSQ := Lib.hid (HSV.out heq)
                                  clear HBB HSK HNT HSV heq
                                  as_aux_lemma =>
                                    cases va <;> cases vb
                                    all_goals
                                      as_aux_lemma =>
                                        go_wp2_with fail
                                        go_roundw
                                        case rel => exact ⟨q + 1, t, by omega, by go_num, by rw [HA0.out, ← HSQ.out]; simp, by rw [HA1.out, ← HSQ.out]; simp, rfl, HK9, Lib.hid ⟨by omega, HNN.out⟩⟩
                                        case measure => simp [intOf]; omega
                        · obtain rfl : k2 = q := by omega
                          have HAV0 := Lib.hid (HAV.out 0)
                          have HAV1 := Lib.hid (HAV.out 1)
                          rw [← HAV0.out] at HZ0
                          rw [← HAV1.out] at HZ1
                          clear HAV0 HAV1
                          generalize hva : anyB (fun t => stead (natF f) (natF g) nS s (R2.getD t default).l == 0) k2 = va at *
                          generalize hvb : anyB (fun t => stead (natF f) (natF g) nS s (R2.getD t default).l == 1) k2 = vb at *
                          clear hva hvb
                          have HKN := Lib.hid (HK8.out.step HKQ.out)
                          as_aux_lemma =>
                            cases zz <;> cases oo
                            all_goals
                              go_wp2_with fail
                              go_roundw
                              case rel => exact ⟨i + 1, by omega, by go_num, by rw [HZ0.out]; simp, by rw [HZ1.out]; simp, HKN⟩
                              case measure => simp [intOf]; omega
                · obtain rfl : k = i := by omega
                  have HKF := Lib.hid (HK4.out.step (HKB.out.step HKI.out))
                  clear HZ0 HZ1
                  generalize hz0 : zbV (natF f) (natF g) nS s R 0 k = zz at *
                  generalize hz1 : zbV (natF f) (natF g) nS s R 1 k = oo at *
                  clear hz0 hz1
                  have HV := Lib.hid HVF.out.symm
                  clear HVF
                  cases zz
                  · cases oo
                    · go_wp2_with fail
                      go_ret
                      exact ⟨ret_int HV.out, HKF.out⟩
                    · go_wp2_with fail
                      go_ret
                      exact ⟨ret_int HV.out, HKF.out⟩
                  · go_wp2_with fail
                    go_ret
                    exact ⟨ret_int HV.out, HKF.out⟩
end Go.Proofs.YtlniogfinofakaaGreatDoor
/-
  SteadyOf of both, for any rules and numbers, and the program's VerdictOf. Conditions: bounds on lengths.
-/
namespace Go.Proofs.YtlniogfinofakaaGreatDoor
set_option maxRecDepth 100000
set_option maxRecDepth 100000
set_option linter.unusedVariables false
open Go.RowKit

end Go.Proofs.YtlniogfinofakaaGreatDoor
