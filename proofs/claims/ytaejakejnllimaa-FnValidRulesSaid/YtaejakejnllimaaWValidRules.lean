/-
  The walk of FnValidRules: whatever the code is, it returns true, and nothing that was there turns. No condition.
-/
import Derived.Test.YtaejakejnllimaaTotal
import Derived.Test.YtaejakejnllimaaWrap
import Derived.Test.YtaejakejnllimaaCrowdLaw
namespace Go.Proofs.Ytaejakejnllimaa
set_option linter.unusedVariables false
set_option maxRecDepth 100000
open Go.RowKit

/-- Two of one kind. -/
def twoL (n a : Nat) : List Int := (List.replicate n (0 : Int)).set a 2
theorem twoL_len (n a : Nat) : (twoL n a).length = n := by simp [twoL]
theorem twoL_at {n a : Nat} (ha : a < n) (j : Nat) : (twoL n a).getD j 0 = if j = a then 2 else 0 := by
  unfold twoL
  rw [getD_set _ _ _ _ (by simpa using ha)]
  split
  · rfl
  · rw [List.getD_eq_getElem?_getD, List.getElem?_replicate]
    split <;> rfl
theorem twoL_crw {n a : Nat} (ha : a < n) : Crw n (twoL n a) ∧ (twoL n a).sum = 2 := by
  have hs : (twoL n a).sum = 2 := by
    unfold twoL
    rw [sum_set _ _ _ (by simpa using ha)]
    have h1 : (List.replicate n (0 : Int)).sum = 0 := by simp
    have h2 : (List.replicate n (0 : Int)).getD a 0 = 0 := by
      rw [List.getD_eq_getElem?_getD, List.getElem?_replicate]
      split <;> rfl
    rw [h1, h2]
    rfl
  refine ⟨⟨twoL_len n a, pos_of_getD fun j hj => ?_, by omega⟩, hs⟩
  rw [twoL_at ha]
  split <;> omega
theorem twoV {nS nA nB a : Nat} {s : Nat → Int} {rA rB : Nat → Option Addr × Nat × Nat} {f g : Nat → Nat → Int} (hv : rulB nS s nA rA f nB rB g = true) (ha : a < nS) :
    (if (rulB nS s nA rA f nB rB g && crwB nS (twoL nS a)) then nextL (natF f) (natF g) nS (twoL nS a) else []).length ≤ 1 ∧ ∀ x ∈ (if (rulB nS s nA rA f nB rB g && crwB nS (twoL nS a)) then nextL (natF f) (natF g) nS (twoL nS a) else []), Crw nS x ∧ x.sum = 2 := by
  obtain ⟨h3, h4, h5, h6⟩ := rulB_iff.1 hv
  have hW := (twoL_crw ha).1
  have hR : Rul nS (natF f) (natF g) := fun a b ha hb => by
    have h7 := ((h6 a ha).2.2.2 b hb)
    unfold natF
    omega
  rw [hv, crwB_iff.2 hW, Bool.true_and, if_pos rfl]
  exact ⟨two_next (a := a) (fun j hj => by rw [twoL_at ha, if_neg hj]), fun x hx => ⟨(next_crw hR hW hx).1, (next_crw hR hW hx).2.1.trans (twoL_crw ha).2⟩⟩
theorem sValidRulesE_any (S A B : Option Addr) (nS cS nA cA nB cB : Nat) (s : Nat → Int) (rA rB : Nat → Option Addr × Nat × Nat) (f g : Nat → Nat → Int) (w : World) (hR : RulAt w S nS s A nA rA f B nB rB g) :
    Calls Try.prog 15 #[.agg #[.slice S nS cS, .slice A nA cA, .slice B nB cB]] w fun e w' => e = .returned (.bool (rulB nS s nA rA f nB rB g)) ∧ Keeps w w' := by
  have CV := Lib.hid (svalidRules_any S A B nS cS nA cA nB cB s rA rB f g _ (hR.keeps (Keeps.alloc w (.cells #[.slice S nS cS, .slice A nA cA, .slice B nB cB] 26))))
  have HK := Lib.hid (Keeps.alloc w (.cells #[.slice S nS cS, .slice A nA cA, .slice B nB cB] 26))
  clear hR
  generalize rulB nS s nA rA f nB rB g = V at *
  go_enter Try.func15, Try.ntmps15
  go_wp2_with fail
  refine CV.out.mono ?_
  rintro e w1 ⟨rfl, hk1⟩
  have HK1 := Lib.hid (HK.out.step hk1)
  clear hk1
  go_wp2_with fail
  go_ret
  exact ⟨rfl, HK1.out⟩
set_option maxHeartbeats 8000000 in
theorem FnValidRules_walk (a : Option Addr) (n c : Nat) (w : World) (hB : Bytes w w.heap.size a n) (hc : n ≤ c) (hc2 : c ≤ 9223372036854775807) :
    Calls Try.prog 4 #[.slice a n c] w fun e w' => e = .returned (.bool true) ∧ Keeps w w' := by
  have HB := Lib.hid hB
  clear hB
  by_cases hn : 1048576 < n
  · go_enter Try.func4, Try.ntmps4
    go_wp2
    go_ret
    exact ⟨rfl, Keeps.refl _⟩
  · go_enter Try.func4, Try.ntmps4
    go_wp2_with fail
    refine (drawValidRules_any a n c _ HB.out (by omega) hc hc2).mono ?_
    rintro e w1 ⟨S, A, B, nS, cS, nA, cA, nB, cB, s, rA, rB, f, gg, rfl, hR, hn4, hk1⟩
    have HR := Lib.hid hR
    have HK1 := Lib.hid hk1
    clear hR hk1
    have HBX : Hid (Blk (w1.alloc (.cells #[.slice S nS cS, .slice A nA cA, .slice B nB cB] 26)) w1.heap.size 26 #[.slice S nS cS, .slice A nA cA, .slice B nB cB]) := Lib.hid (Blk.new w1 _ _)
    have HK2 : Hid (Keeps w1 (w1.alloc (.cells #[.slice S nS cS, .slice A nA cA, .slice B nB cB] 26))) := Lib.hid (Keeps.alloc _ _)
    have CI := Lib.hid (fun (W : World) (hK : Keeps w1 W) => validRules_any S A B nS cS nA cA nB cB s rA rB f gg W (HR.out.keeps hK))
    have CS1 := Lib.hid (fun (W : World) (hK : Keeps w1 W) => sValidRulesE_any S A B nS cS nA cA nB cB s rA rB f gg W (HR.out.keeps hK))
    have CN := Lib.hid (fun (W : World) (hK : Keeps w1 W) (C : Option Addr) (cC : Nat) (x : List Int) (hx : Ints W C x.length (fun i => x.getD i 0)) (hxl : x.length ≤ 1099511627776) => iNextOf_any S A B C nS cS nA cA nB cB cC s rA rB f gg x W (HR.out.keeps hK) hx hxl)
    have HTW := Lib.hid (fun (h : rulB nS s nA rA f nB rB gg = true) (a : Nat) (ha : a < nS) => twoV h ha)
    obtain ⟨V, hV⟩ : ∃ V, V = rulB nS s nA rA f nB rB gg := ⟨_, rfl⟩
    rw [← hV] at CI CS1 HTW CN
    have hmk := make_ints nS (by omega)
    clear hV HR
    go_wp2_with fail
    generalize w1.alloc (.cells #[.slice S nS cS, .slice A nA cA, .slice B nB cB] 26) = w2 at *
    refine (CI.out _ HK2.out).mono ?_
    rintro e w3 ⟨rfl, hk3⟩
    have HK3 := Lib.hid (HK2.out.step hk3)
    have HB3 := Lib.hid (HBX.out.keeps hk3)
    have d0 : w3.cell? ⟨w1.heap.size, 0, none⟩ = some (.slice S nS cS) := HB3.out.cell 0
    have d1 : w3.cell? ⟨w1.heap.size, 1, none⟩ = some (.slice A nA cA) := HB3.out.cell 1
    have d2 : w3.cell? ⟨w1.heap.size, 2, none⟩ = some (.slice B nB cB) := HB3.out.cell 2
    clear hk3 HBX HK2
    go_wp2_with fail
    refine (CS1.out _ HK3.out).mono ?_
    rintro e w4 ⟨rfl, hk4⟩
    have HK4 := Lib.hid (HK3.out.step hk4)
    have HB4 := Lib.hid (HB3.out.keeps hk4)
    have d3 : w4.cell? ⟨w1.heap.size, 0, none⟩ = some (.slice S nS cS) := HB4.out.cell 0
    have d4 : w4.cell? ⟨w1.heap.size, 1, none⟩ = some (.slice A nA cA) := HB4.out.cell 1
    have d5 : w4.cell? ⟨w1.heap.size, 2, none⟩ = some (.slice B nB cB) := HB4.out.cell 2
    clear hk4 HB3 HK3 d0 d1 d2
    cases V
    · go_wp2_with fail
      refine (CS1.out _ HK4.out).mono ?_
      rintro e w5 ⟨rfl, hk5⟩
      have HKF := Lib.hid (HK1.out.step (HK4.out.step hk5))
      clear hk5
      go_wp2_with fail
      go_ret
      exact ⟨rfl, HKF.out⟩
    · clear d3 d4 d5 CI CS1
      go_wp2_with fail
      go_loopw [5] (fun i wr => ∃ j : Nat, j ≤ nS ∧ i = .int .i64 j ∧ Hid (Keeps w4 wr)) (fun i _ => nS - (intOf i).toNat)
      case atStart => exact ⟨0, by omega, rfl, Lib.hid (Keeps.refl _)⟩
      case round =>
        obtain ⟨i, hi, rfl, HKR⟩ := hrel
        have b0 : wr.cell? ⟨w1.heap.size, 0, none⟩ = some (.slice S nS cS) := (HB4.out.keeps HKR.out).cell 0
        by_cases hlt : i < nS
        · have hii : (i : Int) < nS := by omega
          have HO := Lib.hid (OwnInts.make wr wr.heap.size nS (Nat.le_refl _) (by omega))
          have hcx := HO.out.cell i hlt
          have hfx := HO.out.frozen i
          have HKM := Lib.hid (Keeps.alloc wr (.cells (madeCells #[.int .i64 0] nS) 3))
          have hlen : (List.replicate nS (0 : Int)).length = nS := by simp
          generalize hgz : (List.replicate nS (0 : Int)).getD i 0 = z0 at *
          have HD0 : Hid (Blk (wr.alloc (.cells (madeCells #[.int .i64 0] nS) 3)) w1.heap.size 26 #[.slice S nS cS, .slice A nA cA, .slice B nB cB]) := Lib.hid ((HB4.out.keeps HKR.out).keeps HKM.out)
          go_upto_region 11 with fail
          generalize wr.alloc (.cells (madeCells #[.int .i64 0] nS) 3) = wm at *
          have HOS : Hid (OwnInts (wm.setCell ⟨wr.heap.size, i, none⟩ (.int .i64 2)) wr.heap.size (some ⟨wr.heap.size, 0, none⟩) nS nS (twoL nS i)) := Lib.hid (HO.out.set i 2)
          have HKS : Hid (Keeps wr (wm.setCell ⟨wr.heap.size, i, none⟩ (.int .i64 2))) := Lib.hid (HKM.out.setCell (p := ⟨wr.heap.size, i, none⟩) (Nat.le_refl _) _)
          have HD : Hid (Blk (wm.setCell ⟨wr.heap.size, i, none⟩ (.int .i64 2)) w1.heap.size 26 #[.slice S nS cS, .slice A nA cA, .slice B nB cB]) := Lib.hid ((HB4.out.keeps HKR.out).keeps HKS.out)
          go_upto_region 12 with fail
          clear b0 hcx hfx HO HD0
          generalize wm.setCell ⟨wr.heap.size, i, none⟩ (.int .i64 2) = w6 at *
          have b0 : w6.cell? ⟨w1.heap.size, 0, none⟩ = some (.slice S nS cS) := HD.out.cell 0
          have b1 : w6.cell? ⟨w1.heap.size, 1, none⟩ = some (.slice A nA cA) := HD.out.cell 1
          have b2 : w6.cell? ⟨w1.heap.size, 2, none⟩ = some (.slice B nB cB) := HD.out.cell 2
          have CX := Lib.hid (CN.out w6 ((HK4.out.step HKR.out).step HKS.out) (some ⟨wr.heap.size, 0, none⟩) nS (twoL nS i) (by rw [twoL_len]; exact HOS.out.ints) (by rw [twoL_len]; omega))
          obtain ⟨hz1, hz2⟩ := HTW.out trivial i hlt
          have HZ2 := Lib.hid hz2
          rw [twoL_len] at CX
          generalize (if (true && crwB nS (twoL nS i)) then nextL (natF f) (natF gg) nS (twoL nS i) else []) = Z at *
          clear hz2
          go_wp2_with fail
          refine CX.out.mono ?_
          rintro e w7 ⟨R, A0, k, rfl, hz, _, hr, hk7⟩
          have hk1 : k ≤ 1 := by
            rw [← hz, List.length_map, hr.len] at hz1
            exact hz1
          have HX : Hid (∀ i, i < k → Crw nS (R.getD i default).l ∧ (R.getD i default).l.sum = 2) := Lib.hid (fun i hi => HZ2.out _ (by rw [← hz]; exact getD_map (by rw [hr.len]; exact hi)))
          have HCR := Lib.hid hr
          have HK7 := Lib.hid (HKR.out.step (HKS.out.step hk7))
          clear hz hr hk7 hz1 HZ2 HOS HKS HD b1 b2 CX HKR HKM hlen hgz
          by_cases h0 : k = 0
          · subst h0
            go_wp2_with fail
            go_roundw
            case rel => exact ⟨i + 1, by omega, by go_num, HK7⟩
            case measure => simp [intOf]; omega
          · obtain rfl : k = 1 := by omega
            obtain ⟨gA, rfl⟩ : ∃ gA, A0 = some ⟨gA, 0, none⟩ := by
              rcases HCR.out.top with h | ⟨gA, _, e, _⟩
              · omega
              · exact ⟨gA, e⟩
            have hcell := HCR.out.cell 0 (by omega)
            have hX := HX.out 0 (by omega)
            unfold Hdr.v at hcell
            have CT := Lib.hid (total_any (some ⟨(R.getD 0 default).g, 0, none⟩) (R.getD 0 default).c (R.getD 0 default).l w7 (by rw [hX.1.len]; omega) (fun j hj => hX.1.at j (by rw [← hX.1.len]; exact hj)) (HCR.out.rowD 0 (by omega)).ints)
            rw [hX.2] at CT
            generalize (R.getD 0 default).g = xg at *
            generalize (R.getD 0 default).c = xc at *
            generalize (R.getD 0 default).l.length = xn at *
            clear hX HX HCR
            go_wp2_with fail
            refine CT.out.mono ?_
            rintro e w8 ⟨rfl, rfl⟩
            go_wp2_with fail
            go_roundw
            case rel => exact ⟨i + 1, by omega, by go_num, HK7⟩
            case measure => simp [intOf]; omega
        · obtain rfl : i = nS := by omega
          have HKF := Lib.hid (HK1.out.step (HK4.out.step HKR.out))
          go_wp2_with fail
          go_ret
          exact ⟨rfl, HKF.out⟩
end Go.Proofs.Ytaejakejnllimaa
