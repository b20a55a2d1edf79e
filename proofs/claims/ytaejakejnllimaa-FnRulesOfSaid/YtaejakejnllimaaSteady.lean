/-
  What a crowd says for ever: of both. Conditions: valid rules and a crowd.
-/
import Derived.Test.YtaejakejnllimaaSRch
namespace Go.Proofs.Ytaejakejnllimaa
set_option maxRecDepth 100000
set_option linter.unusedVariables false
open Go.RowKit

/-- The loop's number with what one kind says. -/
theorem vo_round {t : List Int} {v : Int} (hv : v = 0 ∨ v = 1) : vo (t ++ [v]) = if vo t = v then vo t else if vo t = 3 then v else 2 := by
  rw [vo_snoc]
  unfold joinV
  by_cases h1 : vo t = 3
  · rw [if_pos h1, h1]
    by_cases h2 : (3 : Int) = v
    · omega
    · rw [if_neg h2, if_pos rfl]
  · rw [if_neg h1, if_neg (by omega), if_neg h1]
theorem vo_two {t u : List Int} (h : vo t = 2) : vo (t ++ u) = 2 := by rw [vo_app, h, two_joinV]
theorem voL_app (s : Nat → Int) (n : Nat) (M N : List (List Int)) : voL s n (M ++ N) = joinV (voL s n M) (voL s n N) := by
  unfold voL
  rw [List.map_append]
  exact vo_app _ _
/-- What is said up to kind k of crowd i. -/
def saidTo (s : Nat → Int) (n : Nat) (R : List Hdr) (i k : Nat) : Int := joinV (voL s n ((R.take i).map (·.l))) (vo (presS s (R.getD i default).l k))
theorem saidTo_zero (s : Nat → Int) (n : Nat) (R : List Hdr) (i : Nat) : saidTo s n R i 0 = voL s n ((R.take i).map (·.l)) := joinV_none _
theorem saidTo_next (s : Nat → Int) (n : Nat) (R : List Hdr) (i : Nat) (hi : i < R.length) : voL s n ((R.take (i + 1)).map (·.l)) = saidTo s n R i n := by
  rw [take_snoc R i hi, List.map_append]
  exact voL_snoc _ _ _ _
theorem saidTo_skip (s : Nat → Int) (n : Nat) (R : List Hdr) (i k : Nat) (h : (R.getD i default).l.getD k 0 = 0) : saidTo s n R i (k + 1) = saidTo s n R i k := by
  unfold saidTo
  rw [presS, h]
  simp
theorem saidTo_round (s : Nat → Int) (n : Nat) (R : List Hdr) (i k : Nat) (h : (R.getD i default).l.getD k 0 ≠ 0) (hv : s k = 0 ∨ s k = 1) : saidTo s n R i (k + 1) = if saidTo s n R i k = s k then saidTo s n R i k else if saidTo s n R i k = 3 then s k else 2 := by
  have h1 : saidTo s n R i (k + 1) = joinV (saidTo s n R i k) (s k) := by
    unfold saidTo
    rw [presS, if_neg (by simpa using h), vo_snoc, joinV_assoc]
  rw [h1]
  generalize saidTo s n R i k = t
  unfold joinV
  by_cases h1 : t = 3
  · rw [if_pos h1, h1]
    by_cases h2 : (3 : Int) = s k
    · omega
    · rw [if_neg h2, if_pos rfl]
  · rw [if_neg h1, if_neg (by omega), if_neg h1]
theorem saidTo_two (s : Nat → Int) (n : Nat) (R : List Hdr) (i k : Nat) (hi : i < R.length) (hk : k ≤ n) (h : saidTo s n R i k = 2) : voL s n (R.map (·.l)) = 2 := by
  have h1 : ∀ d, k + d ≤ n → saidTo s n R i (k + d) = 2 := by
    intro d
    induction d with
    | zero => intro _; exact h
    | succ d ih =>
      intro hd
      have h2 := ih (by omega)
      rw [← Nat.add_assoc]
      by_cases h3 : (R.getD i default).l.getD (k + d) 0 = 0
      · rw [saidTo_skip _ _ _ _ _ h3, h2]
      · unfold saidTo at h2 ⊢
        rw [presS, if_neg (by simpa using h3), vo_snoc, ← joinV_assoc, h2, two_joinV]
  have h4 := h1 (n - k) (by omega)
  rw [show k + (n - k) = n by omega, ← saidTo_next _ _ _ _ hi] at h4
  have h5 : R.map (·.l) = (R.take (i + 1)).map (·.l) ++ (R.drop (i + 1)).map (·.l) := by rw [← List.map_append, List.take_append_drop]
  rw [h5, voL_app, h4, two_joinV]
/-- The sorted list of what is reached has no crowd twice. -/
theorem crowdsN {F G : Nat → Nat → Nat} {n : Nat} {l : List Int} (R : List Hdr) (h : R.map (·.l) = rchL F G n l) : (R.map (·.l)).Nodup := by
  rw [h]
  unfold rchL
  split
  · rename_i hM
    exact hM.choose_spec.1.nodup
  · exact List.nodup_nil
/-- All lists of n numbers from 0 to 5. -/
def allC : Nat → List (List Int)
  | 0 => [[]]
  | n + 1 => (allC n).flatMap fun l => [0, 1, 2, 3, 4, 5].map fun x => x :: l
theorem mem_allC : ∀ (l : List Int), (∀ x ∈ l, 0 ≤ x ∧ x ≤ 5) → l ∈ allC l.length
  | [], _ => by simp [allC]
  | x :: l, h => by
    have h1 := h x (List.mem_cons_self ..)
    have h2 := mem_allC l (fun y hy => h y (List.mem_cons_of_mem _ hy))
    rw [List.length_cons, allC, List.mem_flatMap]
    refine ⟨l, h2, ?_⟩
    have : x = 0 ∨ x = 1 ∨ x = 2 ∨ x = 3 ∨ x = 4 ∨ x = 5 := by omega
    rcases this with rfl | rfl | rfl | rfl | rfl | rfl <;> simp
theorem rch_ex {F G : Nat → Nat → Nat} {n : Nat} {c : List Int} (hR : Rul n F G) (h : Crw n c) : ∃ M, SL M ∧ ∀ x, x ∈ M ↔ Rch F G n c x := by
  classical
  refine ⟨canL ((allC n).filter fun x => decide (Rch F G n c x)), sl_canL _, fun x => ?_⟩
  rw [mem_canL, List.mem_filter]
  constructor
  · rintro ⟨_, h1⟩; exact of_decide_eq_true h1
  · intro h1
    have h2 := (h1.crw hR h).1
    exact ⟨by have := mem_allC x h2.le; rw [h2.len] at this; exact this, decide_eq_true h1⟩
theorem mem_rchL {F G : Nat → Nat → Nat} {n : Nat} {c x : List Int} (hR : Rul n F G) (h : Crw n c) : x ∈ rchL F G n c ↔ Rch F G n c x := by
  obtain ⟨M, h1, h2⟩ := rch_ex hR h
  rw [rchL_eq h1 h2]
  exact h2 x
theorem sl_rchL {F G : Nat → Nat → Nat} {n : Nat} {c : List Int} (hR : Rul n F G) (h : Crw n c) : SL (rchL F G n c) := by
  obtain ⟨M, h1, h2⟩ := rch_ex hR h
  rw [rchL_eq h1 h2]
  exact h1
set_option maxRecDepth 100000 in
set_option maxHeartbeats 4000000 in
theorem steadyOf_any (S A B C : Option Addr) (n cS cA cB cC : Nat) (s : Nat → Int) (rA rB : Nat → Option Addr × Nat × Nat) (F G : Nat → Nat → Nat) (l : List Int) (w : World) (hR : RulN w S n s A rA F B rB G) (hl : Crw n l) (hC : Ints w C n (fun i => l.getD i 0)) :
    Calls Try.prog 53 #[.agg #[.slice S n cS, .slice A n cA, .slice B n cB], .slice C n cC] w fun e w' => e = .returned (.int .i64 (stead F G n s l)) ∧ Keeps w w' := by
  have hn1 := hR.n1
  have hn4 := hR.n4
  have kb := Keeps.alloc w (.cells #[.slice S n cS, .slice A n cA, .slice B n cB] 26)
  have HR := Lib.hid hR
  have HW := Lib.hid hl
  have HWL := Lib.hid hl.len
  have HC := Lib.hid hC
  have HB0 : Hid (Blk (w.alloc (.cells #[.slice S n cS, .slice A n cA, .slice B n cB] 26)) w.heap.size 26 #[.slice S n cS, .slice A n cA, .slice B n cB]) := Lib.hid (Blk.new w _ _)
  have HK0 : Hid (Keeps w (w.alloc (.cells #[.slice S n cS, .slice A n cA, .slice B n cB] 26))) := Lib.hid kb
  clear hR hl hC kb
  go_enter Try.func53, Try.ntmps53
  go_wp2_with fail
  generalize w.alloc (.cells #[.slice S n cS, .slice A n cA, .slice B n cB] 26) = w1 at *
  refine (reachedOf_any S A B C n cS cA cB cC s rA rB F G l w1 (HR.out.keeps HK0.out) HW.out (HC.out.keeps HK0.out)).mono ?_
  rintro e w2 ⟨R, g, k, rfl, hc, hrc, _, hr, hk2⟩
  have HK2 := Lib.hid (HK0.out.step hk2)
  have HB2 := Lib.hid (HB0.out.keeps hk2)
  have HCR := Lib.hid hr
  have HEQ : Hid (voL s n (R.map (·.l)) = stead F G n s l) := Lib.hid (by rw [hc]; rfl)
  have hkl := hr.len
  have hkb : k ≤ 1296 := by
    have h1 := crowds_le (L := R.map (·.l)) hn4 (by
      have := (crowdsN (F := F) (G := G) (n := n) (l := l) R hc)
      exact this) (fun x hx => ((hrc x hx).crw HR.out.rul HW.out).1)
    rw [List.length_map] at h1
    omega
  have HCW : Hid (∀ i, i < k → Crw n (R.getD i default).l) := Lib.hid (fun i hi => ((hrc _ (getD_map (by omega))).crw HR.out.rul HW.out).1)
  have HKL := Lib.hid hkl
  clear hc hrc hr hk2 HK0 HB0 hkl
  go_wp2_with fail
  go_loopw [14, 5] (fun i v wr => ∃ j : Nat, j ≤ k ∧ i = .int .i64 j ∧ v = .int .i64 (saidTo s n R j 0) ∧ Hid (Keeps w2 wr) ∧ Hid (saidTo s n R j 0 ≠ 2)) (fun i _ _ => k - (intOf i).toNat)
  case atStart => exact ⟨0, by omega, rfl, rfl, Lib.hid (Keeps.refl _), Lib.hid (by rw [saidTo_zero]; simp [voL, vo])⟩
  case round =>
    obtain ⟨i, hi, rfl, rfl, HKR, HN2⟩ := hrel
    by_cases hlt : i < k
    · have hii : (i : Int) < k := by omega
      have hcell := (HCR.out.keeps HKR.out).cell i hlt
      have HXO := Lib.hid ((HCR.out.rowD i hlt).ints)
      have HX := Lib.hid (HCW.out i hlt)
      unfold Hdr.v at hcell
      rw [HX.out.len] at hcell HXO
      obtain ⟨xg, hxg⟩ : ∃ x, x = (R.getD i default).g := ⟨_, rfl⟩
      obtain ⟨xc, hxc⟩ : ∃ x, x = (R.getD i default).c := ⟨_, rfl⟩
      rw [← hxg, ← hxc] at hcell
      rw [← hxg] at HXO
      clear hxg hxc
      go_wp2_with fail
      go_loopw [20, 5] (fun q v wi => ∃ j : Nat, j ≤ n ∧ q = .int .i64 j ∧ v = .int .i64 (saidTo s n R i j) ∧ Hid (Keeps w2 wi) ∧ Hid (saidTo s n R i j ≠ 2)) (fun q _ _ => n - (intOf q).toNat)
      case atStart => exact ⟨0, by omega, rfl, rfl, HKR, HN2⟩
      case round =>
        clear HKR HN2 hcell
        obtain ⟨j, hj, rfl, rfl, HKR, HN2⟩ := hrel
        by_cases hltj : j < n
        · have hji : (j : Int) < n := by omega
          obtain ⟨dX, oX, eX, hcx⟩ := HXO.out.keeps HKR.out j hltj
          cases eX
          rw [Nat.zero_add] at hcx
          dsimp only at hcx
          obtain ⟨dS, oS, rfl, hcs⟩ := (HR.out.says.keeps (HK2.out.step HKR.out)) j hltj
          have b0 : wr.cell? ⟨w.heap.size, 0, none⟩ = some (.slice (some ⟨dS, oS, none⟩) n cS) := (HB2.out.keeps HKR.out).cell 0
          have HSK := Lib.hid (saidTo_skip s n R i j)
          have HRD := Lib.hid (saidTo_round s n R i j)
          have HBT := Lib.hid (HR.out.bits j hltj)
          have HTW : Hid (∀ t, t = 2 → saidTo s n R i (j + 1) = t → stead F G n s l = 2) := Lib.hid (fun t ht he => by rw [← HEQ.out]; exact saidTo_two s n R i (j + 1) (by rw [HKL.out]; exact hlt) (by omega) (he.trans ht))
          generalize he1 : saidTo s n R i (j + 1) = sd1 at *
          have HE1 := Lib.hid he1
          clear he1
          generalize saidTo s n R i j = sd at *
          generalize (R.getD i default).l.getD j 0 = xj at *
          generalize s j = sj at *
          by_cases h0 : xj = 0
          · obtain rfl : sd1 = sd := HSK.out h0
            subst h0
            clear HSK HRD HTW
            go_wp2_with fail
            go_roundw
            case rel => exact ⟨j + 1, by omega, by go_num, by rw [HE1.out], HKR, Lib.hid (by rw [HE1.out]; exact HN2.out)⟩
            case measure => simp [intOf]; omega
          · have h0' : (xj == 0) = false := by simp [h0]
            have HR1 := Lib.hid (HRD.out h0 HBT.out)
            by_cases h1 : sd = sj
            · subst h1
              obtain rfl : sd1 = sd := by have := HR1.out; rw [if_pos rfl] at this; exact this
              clear HSK HRD HTW HR1
              go_wp2_with fail
              go_roundw
              case rel => exact ⟨j + 1, by omega, by go_num, by rw [HE1.out], HKR, Lib.hid (by rw [HE1.out]; exact HN2.out)⟩
              case measure => simp [intOf]; omega
            · have h1' : (sd == sj) = false := by simp [h1]
              by_cases h2 : sd = 3
              · subst h2
                obtain rfl : sd1 = sj := by have := HR1.out; rw [if_neg h1, if_pos rfl] at this; exact this
                have HN3 : Hid (sd1 ≠ 2) := Lib.hid (by have := HBT.out; omega)
                clear HSK HRD HTW HR1 HN2
                go_wp2_with fail
                go_roundw
                case rel => exact ⟨j + 1, by omega, by go_num, by rw [HE1.out], HKR, Lib.hid (by rw [HE1.out]; exact HN3.out)⟩
                case measure => simp [intOf]; omega
              · have h2' : (sd == 3) = false := by simp [h2]
                have HFIN : Hid (stead F G n s l = 2) := Lib.hid (HTW.out sd1 (by have := HR1.out; rw [if_neg h1, if_neg h2] at this; exact this) rfl)
                clear HSK HRD HTW HR1 HN2
                go_wp2_with fail
                go_ret
                exact ⟨ret_int HFIN.out.symm, HK2.out.step HKR.out⟩
        · obtain rfl : j = n := by omega
          have HNX : Hid (saidTo s j R (i + 1) 0 = saidTo s j R i j) := Lib.hid (by rw [saidTo_zero, saidTo_next s j R i (by rw [HKL.out]; exact hlt)])
          go_wp2_with fail
          go_roundw
          case rel => exact ⟨i + 1, by omega, by go_num, by rw [HNX.out], HKR, Lib.hid (by rw [HNX.out]; exact HN2.out)⟩
          case measure => simp [intOf]; omega
    · obtain rfl : i = k := by omega
      have HFIN : Hid (stead F G n s l = saidTo s n R i 0) := Lib.hid (by rw [← HEQ.out, saidTo_zero, ← HKL.out, List.take_length])
      go_wp2_with fail
      go_ret
      exact ⟨ret_int HFIN.out.symm, HK2.out.step HKR.out⟩
end Go.Proofs.Ytaejakejnllimaa
