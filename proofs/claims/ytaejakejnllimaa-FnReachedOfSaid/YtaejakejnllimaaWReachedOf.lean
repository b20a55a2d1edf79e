/-
  The walk of FnReachedOf: whatever the code is, it returns true, and nothing that was there turns. No condition.
-/
import Derived.Test.YtaejakejnllimaaDrawCrowd
import Derived.Test.YtaejakejnllimaaWrap
import Derived.Test.YtaejakejnllimaaCrowdLaw
import Derived.Test.YtaejakejnllimaaCrnEq
import Derived.Test.YtaejakejnllimaaLawQ
namespace Go.Proofs.Ytaejakejnllimaa
set_option linter.unusedVariables false
set_option maxRecDepth 100000
open Go.RowKit

theorem rchV {nS nA nB : Nat} {s : Nat → Int} {rA rB : Nat → Option Addr × Nat × Nat} {f g : Nat → Nat → Int} {l : List Int} {Z : List (List Int)} (hZ : Z = if (rulB nS s nA rA f nB rB g && crwB nS l) then rchL (natF f) (natF g) nS l else []) :
    Z.length ≤ 1296 ∧ ∀ x ∈ Z, l ∈ Z ∧ x.length = l.length ∧ (if (rulB nS s nA rA f nB rB g && crwB nS x) then nextL (natF f) (natF g) nS x else []).length ≤ 1296 ∧ ∀ y ∈ (if (rulB nS s nA rA f nB rB g && crwB nS x) then nextL (natF f) (natF g) nS x else []), y ∈ Z ∧ y.length = l.length := by
  subst hZ
  split
  · rename_i h
    obtain ⟨h1, h2⟩ := Bool.and_eq_true_iff.1 h
    obtain ⟨h3, h4, h5, h6⟩ := rulB_iff.1 h1
    have hW := crwB_iff.1 h2
    have hR : Rul nS (natF f) (natF g) := fun a b ha hb => by
      have h7 := ((h6 a ha).2.2.2 b hb)
      unfold natF
      omega
    refine ⟨crowds_le h3.2 (sl_rchL hR hW).nodup (fun x hx => (((mem_rchL hR hW).1 hx).crw hR hW).1), fun x hx => ?_⟩
    have hX := (mem_rchL hR hW).1 hx
    have hXC := (hX.crw hR hW).1
    refine ⟨(mem_rchL hR hW).2 .refl, by rw [hXC.len, hW.len], ?_⟩
    rw [h1, crwB_iff.2 hXC, Bool.true_and, if_pos rfl]
    exact ⟨crowds_le h3.2 (sl_canL _).nodup (fun y hy => (next_crw hR hXC hy).1), fun y hy => ⟨(mem_rchL hR hW).2 (.step hX hy), by rw [(next_crw hR hXC hy).1.len, hW.len]⟩⟩
  · simp
theorem any_mem {Z : List (List Int)} {R : List Hdr} {k : Nat} (hz : R.map (·.l) = Z) (hl : R.length = k) {x : List Int} (hx : x ∈ Z) : anyB (fun i => decide ((R.getD i default).l = x)) k = true := by
  subst hz
  obtain ⟨h, hh, e⟩ := List.mem_map.1 hx
  obtain ⟨i, hi, e2⟩ := List.mem_iff_getElem.1 hh
  refine (anyB_iff _ _).2 ⟨i, by omega, ?_⟩
  rw [List.getD_eq_getElem?_getD, List.getElem?_eq_getElem hi]
  show decide (R[i].l = x) = true
  rw [e2, e]
  simp
set_option maxHeartbeats 8000000 in
theorem FnReachedOf_walk (a : Option Addr) (n c : Nat) (w : World) (hB : Bytes w w.heap.size a n) (hc : n ≤ c) (hc2 : c ≤ 9223372036854775807) :
    Calls Try.prog 7 #[.slice a n c] w fun e w' => e = .returned (.bool true) ∧ Keeps w w' := by
  have HB := Lib.hid hB
  clear hB
  by_cases hn : 1048576 < n
  · go_enter Try.func7, Try.ntmps7
    go_wp2
    go_ret
    exact ⟨rfl, Keeps.refl _⟩
  · go_enter Try.func7, Try.ntmps7
    go_wp2_with fail
    refine (drawReachedOf_any a n c _ HB.out (by omega) hc hc2).mono ?_
    rintro e w1 ⟨S, A, B, nS, cS, nA, cA, nB, cB, g, m, d, s, rA, rB, f, gg, l, rfl, hR, hO, hm, hk1⟩
    have hml := hO.len
    have HR := Lib.hid hR
    have HC := Lib.hid hO.ints
    rw [← hml] at HC
    have HK1 := Lib.hid hk1
    have hl5 : l.length ≤ 5 := by omega
    subst hml
    clear hR hO hk1
    have HBX : Hid (Blk (w1.alloc (.cells #[.slice S nS cS, .slice A nA cA, .slice B nB cB] 26)) w1.heap.size 26 #[.slice S nS cS, .slice A nA cA, .slice B nB cB]) := Lib.hid (Blk.new w1 _ _)
    have HK2 : Hid (Keeps w1 (w1.alloc (.cells #[.slice S nS cS, .slice A nA cA, .slice B nB cB] 26))) := Lib.hid (Keeps.alloc _ _)
    obtain ⟨Z, hZ⟩ : ∃ Z, Z = (if (rulB nS s nA rA f nB rB gg && crwB nS l) then rchL (natF f) (natF gg) nS l else []) := ⟨_, rfl⟩
    have HV := Lib.hid (rchV hZ)
    have CN : Hid (∀ W, Keeps w1 W → Calls Try.prog 26 #[.agg #[.slice S nS cS, .slice A nA cA, .slice B nB cB], .slice (some ⟨g, 0, none⟩) l.length d] W fun e w' => ∃ R A0 k, e = .returned (.slice A0 k k) ∧ R.map (·.l) = Z ∧ (R.map (·.g)).Nodup ∧ Crn w' W.heap.size A0 k R ∧ Keeps W w') := Lib.hid (fun W hK => by rw [hZ]; exact iReachedOf_any S A B (some ⟨g, 0, none⟩) nS cS nA cA nB cB d s rA rB f gg l W (HR.out.keeps hK) (HC.out.keeps hK) (by omega))
    have CS1 : Hid (∀ W, Keeps w1 W → Calls Try.prog 27 #[.agg #[.slice S nS cS, .slice A nA cA, .slice B nB cB], .slice (some ⟨g, 0, none⟩) l.length d] W fun e w' => ∃ R A0 k c, e = .returned (.slice A0 k c) ∧ R.map (·.l) = Z ∧ Crn w' W.heap.size A0 k R ∧ Keeps W w') := Lib.hid (fun W hK => by rw [hZ]; exact sReachedOf_any S A B (some ⟨g, 0, none⟩) nS cS nA cA nB cB d s rA rB f gg l W (HR.out.keeps hK) (HC.out.keeps hK) (by omega))
    have CX := Lib.hid (fun (W : World) (hK : Keeps w1 W) (C : Option Addr) (cC : Nat) (x : List Int) (hx : Ints W C x.length (fun i => x.getD i 0)) (hxl : x.length ≤ 1099511627776) => iNextOf_any S A B C nS cS nA cA nB cB cC s rA rB f gg x W (HR.out.keeps hK) hx hxl)
    obtain ⟨NX, hNX⟩ : ∃ NX : List Int → List (List Int), NX = fun x => (if (rulB nS s nA rA f nB rB gg && crwB nS x) then nextL (natF f) (natF gg) nS x else []) := ⟨_, rfl⟩
    have CX2 : Hid (∀ (W : World), Keeps w1 W → ∀ (C : Option Addr) (cC : Nat) (x : List Int), Ints W C x.length (fun i => x.getD i 0) → x.length ≤ 1099511627776 → Calls Try.prog 12 #[.agg #[.slice S nS cS, .slice A nA cA, .slice B nB cB], .slice C x.length cC] W fun e w' => ∃ R A0 k, e = .returned (.slice A0 k k) ∧ R.map (·.l) = NX x ∧ (R.map (·.g)).Nodup ∧ Crn w' W.heap.size A0 k R ∧ Keeps W w') := Lib.hid (by rw [hNX]; exact CX.out)
    have HV2 : Hid (Z.length ≤ 1296 ∧ ∀ x ∈ Z, l ∈ Z ∧ x.length = l.length ∧ (NX x).length ≤ 1296 ∧ ∀ y ∈ NX x, y ∈ Z ∧ y.length = l.length) := Lib.hid (by rw [hNX]; exact HV.out)
    clear hZ HR CX hNX HV
    go_wp2_with fail
    generalize w1.alloc (.cells #[.slice S nS cS, .slice A nA cA, .slice B nB cB] 26) = w2 at *
    refine (CN.out _ HK2.out).mono ?_
    rintro e w3 ⟨R, A0, k, rfl, hz, _, hr, hk3⟩
    have hkZ : Z.length = k := by rw [← hz, List.length_map, hr.len]
    have hkb : k ≤ 1296 := by rw [← hkZ]; exact HV2.out.1
    have HCR := Lib.hid hr
    have HZ := Lib.hid hz
    have HKZ := Lib.hid hkZ
    have HX : Hid (∀ i, i < k → (R.getD i default).l ∈ Z) := Lib.hid (fun i hi => by rw [← hz]; exact getD_map (by rw [hr.len]; exact hi))
    have HK3 := Lib.hid (HK2.out.step hk3)
    have HB3 := Lib.hid (HBX.out.keeps hk3)
    have d0 : w3.cell? ⟨w1.heap.size, 0, none⟩ = some (.slice S nS cS) := HB3.out.cell 0
    have d1 : w3.cell? ⟨w1.heap.size, 1, none⟩ = some (.slice A nA cA) := HB3.out.cell 1
    have d2 : w3.cell? ⟨w1.heap.size, 2, none⟩ = some (.slice B nB cB) := HB3.out.cell 2
    have CE : Hid (∀ (W : World), Keeps w3 W → ∀ (R' : List Hdr) (A0' : Option Addr) (c' lo : Nat), R'.map (·.l) = Z → Crn W lo A0' k R' → Calls Try.prog 22 #[.slice A0 k k, .slice A0' k c'] W fun e w' => e = .returned (.bool true) ∧ Keeps W w') := Lib.hid (fun W hK R' A0' c' lo h1 h2 => eRows_true A0 A0' k k c' (hdrR R) (hdrR R') (numR R) (numR R') W (by omega) (HCR.out.keeps hK).rowsQ h2.rowsQ (fun i hi => by
      have h3 := (HV2.out.2 _ (HX.out i hi)).2.1
      unfold hdrR
      dsimp only
      omega) (hdrEq (HZ.out.trans h1.symm) HCR.out.len))
    clear hk3 HBX HK2 hz hr hkZ
    go_wp2_with fail
    refine (CS1.out _ HK3.out).mono ?_
    rintro e w4 ⟨R', A0', k', c', rfl, hz', hr', hk4⟩
    obtain rfl : k' = k := by rw [← HKZ.out, ← hz', List.length_map, hr'.len]
    have CE1 := Lib.hid (CE.out w4 hk4 R' A0' c' _ hz' hr')
    have HB4 := Lib.hid (HB3.out.keeps hk4)
    have HK34 := Lib.hid hk4
    clear hk4 hz' hr' HB3 d0 d1 d2
    go_wp2_with fail
    refine CE1.out.mono ?_
    rintro e w5 ⟨rfl, hk5⟩
    have HB5 := Lib.hid (HB4.out.keeps hk5)
    have HK35 := Lib.hid (HK34.out.step hk5)
    have HK5 := Lib.hid (HK3.out.step HK35.out)
    have d0 : w5.cell? ⟨w1.heap.size, 0, none⟩ = some (.slice S nS cS) := HB5.out.cell 0
    have d1 : w5.cell? ⟨w1.heap.size, 1, none⟩ = some (.slice A nA cA) := HB5.out.cell 1
    have d2 : w5.cell? ⟨w1.heap.size, 2, none⟩ = some (.slice B nB cB) := HB5.out.cell 2
    clear hk5 HB4 CE1 HK34
    by_cases hk0 : k' = 0
    · subst hk0
      go_wp2_with fail
      refine (CS1.out _ HK5.out).mono ?_
      rintro e w6 ⟨R2, A2, k2, c2, rfl, hz2, hr2, hk6⟩
      obtain rfl : k2 = 0 := by rw [← HKZ.out, ← hz2, List.length_map, hr2.len]
      have CE2 := Lib.hid (CE.out w6 (HK35.out.step hk6) R2 A2 c2 _ hz2 hr2)
      have HK6 := Lib.hid (HK5.out.step hk6)
      clear hk6 hz2 hr2
      go_wp2_with fail
      refine CE2.out.mono ?_
      rintro e w7 ⟨rfl, hk7⟩
      have HKF := Lib.hid (HK1.out.step (HK6.out.step hk7))
      clear hk7
      go_wp2_with fail
      go_ret
      exact ⟨rfl, HKF.out⟩
    · have hki : ¬ (k' : Int) = 0 := by omega
      have hkE : ((k' : Int) == 0) = false := by simp; omega
      clear CS1 CN CE d0 d1 d2
      obtain ⟨gA, rfl⟩ : ∃ gA, A0 = some ⟨gA, 0, none⟩ := by
        rcases HCR.out.top with h | ⟨gA, _, e, _⟩
        · omega
        · exact ⟨gA, e⟩
      have HLZ : Hid (l ∈ Z) := Lib.hid (HV2.out.2 _ (HX.out 0 (by omega))).1
      have HANY := Lib.hid (fun x hx => any_mem (x := x) HZ.out HCR.out.len hx)
      have HSTEP : Hid (∀ x i, anyB (fun i => decide ((R.getD i default).l = x)) (i + 1) = (anyB (fun i => decide ((R.getD i default).l = x)) i || decide ((R.getD i default).l = x))) := Lib.hid (fun x i => rfl)
      generalize hAY : (fun x => anyB (fun i => decide ((R.getD i default).l = x))) = AY at *
      have HAY : Hid (∀ x i, anyB (fun i => decide ((R.getD i default).l = x)) i = AY x i) := Lib.hid (fun x i => by rw [← hAY])
      have HAZ : Hid (∀ x, AY x 0 = false) := Lib.hid (fun x => by rw [← HAY.out]; rfl)
      clear hAY
      go_wp2_with fail
      go_loopw [6, 7] (fun b i wr => ∃ (j : Nat) (v : Bool), j ≤ k' ∧ i = .int .i64 j ∧ b = .bool v ∧ Hid (v = AY l j) ∧ Hid (Keeps w5 wr)) (fun _ i _ => k' - (intOf i).toNat)
      case atStart => exact ⟨0, false, by omega, rfl, rfl, Lib.hid (HAZ.out l).symm, Lib.hid (Keeps.refl _)⟩
      case round =>
        obtain ⟨i, v, hi, rfl, rfl, HV3, HKR⟩ := hrel
        by_cases hlt : i < k'
        · have hii : (i : Int) < k' := by omega
          have hK := HK35.out.step HKR.out
          have hcell := (HCR.out.keeps hK).cell i hlt
          have hX := HV2.out.2 _ (HX.out i hlt)
          unfold Hdr.v at hcell
          have HNXT := Lib.hid hX.2.2
          have CEl := Lib.hid (leIntsQ_any (some ⟨(R.getD i default).g, 0, none⟩) (some ⟨g, 0, none⟩) (R.getD i default).c d (R.getD i default).l l wr (by omega) (by omega) ((HCR.out.keeps hK).rowD i hlt).ints (HC.out.keeps (HK5.out.step HKR.out)))
          have CV := Lib.hid (fun W (hW : Keeps wr W) => CX2.out W ((HK5.out.step HKR.out).step hW) (some ⟨(R.getD i default).g, 0, none⟩) (R.getD i default).c (R.getD i default).l ((HCR.out.keeps (hK.step hW)).rowD i hlt).ints (by omega))
          have HS1 := Lib.hid (HSTEP.out l i)
          rw [HAY.out, HAY.out] at HS1
          have HKW : Hid (Keeps w5 wr) := HKR
          clear hX
          cases v
          · have HVV : Hid (decide ((R.getD i default).l = l) = AY l (i + 1)) := Lib.hid (by rw [HS1.out, ← HV3.out]; rfl)
            clear HS1 HV3
            generalize decide ((R.getD i default).l = l) = V1 at *
            go_wp2_with fail
            refine CEl.out.mono ?_
            rintro e w7 ⟨rfl, q7, rfl⟩
            have HKY := Lib.hid (Keeps.drewN wr q7)
            clear CEl
            generalize wr.drewN q7 = w7 at *
            obtain ⟨bb, b0, b1, b2⟩ : Hid True ∧ w7.cell? ⟨w1.heap.size, 0, none⟩ = some (.slice S nS cS) ∧ w7.cell? ⟨w1.heap.size, 1, none⟩ = some (.slice A nA cA) ∧ w7.cell? ⟨w1.heap.size, 2, none⟩ = some (.slice B nB cB) := ⟨Lib.hid trivial, (HB5.out.keeps (HKR.out.step HKY.out)).cell 0, (HB5.out.keeps (HKR.out.step HKY.out)).cell 1, (HB5.out.keeps (HKR.out.step HKY.out)).cell 2⟩
            have hcell2 := cell_keeps HKY.out hcell
            have CVY := Lib.hid (fun W hW => CV.out W (HKY.out.step hW))
            clear hcell CV bb
            generalize (R.getD i default).l = xl at *
            generalize (R.getD i default).g = xg at *
            generalize (R.getD i default).c = xc at *
            generalize xl.length = xn at *
            go_upto_region 12 with fail
            go_region_law (first | (refine step_go 12 #[.tmp 54, .tmp 58] #[26, 23] rfl rfl (fun _ _ => rfl) (by simp [Act.eval]) (CVY.out _ (Keeps.drew1 _)) ?_; rintro e w6 ⟨Rn, An, kn, rfl, hzn, _, hrn, hk6⟩; refine ⟨_, rfl, ?_⟩))
            all_goals
              have hknZ : kn ≤ 1296 := by
                have h1 := HNXT.out.1
                rw [← hzn, List.length_map, hrn.len] at h1
                exact h1
              have HXN : Hid (∀ q, q < kn → (Rn.getD q default).l ∈ Z ∧ (Rn.getD q default).l.length = l.length) := Lib.hid (fun q hq => HNXT.out.2 _ (by rw [← hzn]; exact getD_map (by rw [hrn.len]; exact hq)))
              have HRN := Lib.hid hrn
              have HK6 := Lib.hid (HKR.out.step (HKY.out.step ((Keeps.drew1 _).step hk6)))
              clear hzn hrn hk6 CVY b0 b1 b2 hcell2
              go_wp2_with fail
              go_loopw [9] (fun q wr => ∃ jq : Nat, jq ≤ kn ∧ q = .int .i64 jq ∧ Hid (Keeps w6 wr)) (fun q _ => kn - (intOf q).toNat)
              case atStart => exact ⟨0, by omega, rfl, Lib.hid (Keeps.refl _)⟩
              case round =>
                rename World => wr2
                obtain ⟨q, hq, rfl, HKQ⟩ := hrel
                by_cases hqt : q < kn
                · have hqi : (q : Int) < kn := by omega
                  obtain ⟨gN, rfl⟩ : ∃ gN, An = some ⟨gN, 0, none⟩ := by
                    rcases HRN.out.top with h | ⟨gN, _, e, _⟩
                    · omega
                    · exact ⟨gN, e⟩
                  have HXQ := Lib.hid (HXN.out q hqt)
                  have HROW := Lib.hid ((HRN.out.keeps HKQ.out).rowD q hqt).ints
                  have hcq := (HRN.out.keeps HKQ.out).cell q hqt
                  unfold Hdr.v at hcq
                  have HAQ := Lib.hid (HSTEP.out (Rn.getD q default).l)
                  have CEq : Hid (∀ (W : World) (j : Nat), Keeps wr2 W → j < k' → Calls Try.prog 24 #[.slice (some ⟨(R.getD j default).g, 0, none⟩) (R.getD j default).l.length (R.getD j default).c, .slice (some ⟨(Rn.getD q default).g, 0, none⟩) (Rn.getD q default).l.length (Rn.getD q default).c] W fun e w' => e = .returned (.bool (decide ((R.getD j default).l = (Rn.getD q default).l))) ∧ ∃ q, w' = W.drewN q) := Lib.hid (fun W j hW hj => leIntsQ_any _ _ _ _ _ _ _ (by have := (HV2.out.2 _ (HX.out j hj)).2.1; omega) (by have := (HV2.out.2 _ (HX.out j hj)).2.1; have := HXQ.out.2; omega) ((HCR.out.keeps (HK35.out.step (HK6.out.step (HKQ.out.step hW)))).rowD j hj).ints (HROW.out.keeps hW))
                  have HAT : Hid (AY (Rn.getD q default).l k' = true) := Lib.hid (by rw [← HAY.out]; exact HANY.out _ HXQ.out.1)
                  have HA0 := Lib.hid (HAZ.out (Rn.getD q default).l)
                  have HAS : Hid (∀ i, AY (Rn.getD q default).l (i + 1) = (AY (Rn.getD q default).l i || decide ((R.getD i default).l = (Rn.getD q default).l))) := Lib.hid (fun i => by have h := HAQ.out i; rw [HAY.out, HAY.out] at h; exact h)
                  clear HROW HAQ HXQ
                  generalize (Rn.getD q default).l = yl at *
                  generalize (Rn.getD q default).g = yg at *
                  generalize (Rn.getD q default).c = yc at *
                  generalize yl.length = yn at *
                  go_wp2_with fail
                  go_loopw [10, 11] (fun b j wr => ∃ (jj : Nat) (v : Bool), jj ≤ k' ∧ j = .int .i64 jj ∧ b = .bool v ∧ Hid (v = AY yl jj) ∧ Hid (Keeps wr2 wr)) (fun _ j _ => k' - (intOf j).toNat)
                  case atStart => exact ⟨0, false, by omega, rfl, rfl, Lib.hid HA0.out.symm, Lib.hid (Keeps.refl _)⟩
                  case round =>
                    rename World => wr3
                    obtain ⟨j, v3, hj, rfl, rfl, HV4, HKJ⟩ := hrel
                    by_cases hjt : j < k'
                    · have hji : (j : Int) < k' := by omega
                      have hcj := (HCR.out.keeps (HK35.out.step (HK6.out.step (HKQ.out.step HKJ.out)))).cell j hjt
                      have hcq2 := cell_keeps HKJ.out hcq
                      unfold Hdr.v at hcj
                      have CEj := Lib.hid (fun nn => CEq.out (wr3.drewN nn) j (HKJ.out.step (Keeps.drewN _ _)) hjt)
                      have HAJ := Lib.hid (HAS.out j)
                      generalize decide ((R.getD j default).l = yl) = D at *
                      generalize (R.getD j default).g = zg at *
                      generalize (R.getD j default).c = zc at *
                      generalize (R.getD j default).l.length = zn at *
                      clear hcq
                      cases v3
                      · have HNV : Hid (D = AY yl (j + 1)) := Lib.hid (by rw [HAJ.out, ← HV4.out]; rfl)
                        clear HV4 HAJ
                        go_wp2_with fail
                        go_quiet ((go_at_call 24; with_reducible exact Calls.quiet_of (CEj.out _)))
                        have HKN := Lib.hid (HKJ.out.step (Keeps.drewN _ nq))
                        go_wp2_with fail
                        go_roundw
                        case rel => exact ⟨j + 1, D, by omega, by go_num, rfl, HNV, HKN⟩
                        case measure => simp [intOf]; omega
                      · have HNV : Hid (true = AY yl (j + 1)) := Lib.hid (by rw [HAJ.out, ← HV4.out]; rfl)
                        clear HV4 HAJ
                        go_wp2_with fail
                        go_quiet (fail)
                        have HKN := Lib.hid (HKJ.out.step (Keeps.drewN _ nq))
                        go_wp2_with fail
                        go_roundw
                        case rel => exact ⟨j + 1, true, by omega, by go_num, rfl, HNV, HKN⟩
                        case measure => simp [intOf]; omega
                    · obtain rfl : j = k' := by omega
                      have hv3 : v3 = true := by rw [HV4.out, HAT.out]
                      subst hv3
                      have HKN := Lib.hid (HKQ.out.step HKJ.out)
                      go_wp2_with fail
                      go_roundw
                      case rel => exact ⟨q + 1, by omega, by go_num, HKN⟩
                      case measure => simp [intOf]; omega
                · obtain rfl : q = kn := by omega
                  have HKN := Lib.hid (HK6.out.step HKQ.out)
                  go_wp2_with fail
                  go_roundw
                  case rel => exact ⟨i + 1, V1, by omega, by go_num, rfl, HVV, HKN⟩
                  case measure => simp [intOf]; omega
          · have HVV : Hid (true = AY l (i + 1)) := Lib.hid (by rw [HS1.out, ← HV3.out]; rfl)
            have HKY := Lib.hid (Keeps.refl wr)
            clear HS1 HV3 CEl
            obtain ⟨bb, b0, b1, b2⟩ : Hid True ∧ wr.cell? ⟨w1.heap.size, 0, none⟩ = some (.slice S nS cS) ∧ wr.cell? ⟨w1.heap.size, 1, none⟩ = some (.slice A nA cA) ∧ wr.cell? ⟨w1.heap.size, 2, none⟩ = some (.slice B nB cB) := ⟨Lib.hid trivial, (HB5.out.keeps (HKR.out.step HKY.out)).cell 0, (HB5.out.keeps (HKR.out.step HKY.out)).cell 1, (HB5.out.keeps (HKR.out.step HKY.out)).cell 2⟩
            have hcell2 := cell_keeps HKY.out hcell
            have CVY := Lib.hid (fun W hW => CV.out W (HKY.out.step hW))
            clear hcell CV bb
            generalize (R.getD i default).l = xl at *
            generalize (R.getD i default).g = xg at *
            generalize (R.getD i default).c = xc at *
            generalize xl.length = xn at *
            go_upto_region 12 with fail
            go_region_law (first | (refine step_go 12 #[.tmp 54, .tmp 58] #[26, 23] rfl rfl (fun _ _ => rfl) (by simp [Act.eval]) (CVY.out _ (Keeps.drew1 _)) ?_; rintro e w6 ⟨Rn, An, kn, rfl, hzn, _, hrn, hk6⟩; refine ⟨_, rfl, ?_⟩))
            all_goals
              have hknZ : kn ≤ 1296 := by
                have h1 := HNXT.out.1
                rw [← hzn, List.length_map, hrn.len] at h1
                exact h1
              have HXN : Hid (∀ q, q < kn → (Rn.getD q default).l ∈ Z ∧ (Rn.getD q default).l.length = l.length) := Lib.hid (fun q hq => HNXT.out.2 _ (by rw [← hzn]; exact getD_map (by rw [hrn.len]; exact hq)))
              have HRN := Lib.hid hrn
              have HK6 := Lib.hid (HKR.out.step (HKY.out.step ((Keeps.drew1 _).step hk6)))
              clear hzn hrn hk6 CVY b0 b1 b2 hcell2
              go_wp2_with fail
              go_loopw [9] (fun q wr => ∃ jq : Nat, jq ≤ kn ∧ q = .int .i64 jq ∧ Hid (Keeps w6 wr)) (fun q _ => kn - (intOf q).toNat)
              case atStart => exact ⟨0, by omega, rfl, Lib.hid (Keeps.refl _)⟩
              case round =>
                rename World => wr2
                obtain ⟨q, hq, rfl, HKQ⟩ := hrel
                by_cases hqt : q < kn
                · have hqi : (q : Int) < kn := by omega
                  obtain ⟨gN, rfl⟩ : ∃ gN, An = some ⟨gN, 0, none⟩ := by
                    rcases HRN.out.top with h | ⟨gN, _, e, _⟩
                    · omega
                    · exact ⟨gN, e⟩
                  have HXQ := Lib.hid (HXN.out q hqt)
                  have HROW := Lib.hid ((HRN.out.keeps HKQ.out).rowD q hqt).ints
                  have hcq := (HRN.out.keeps HKQ.out).cell q hqt
                  unfold Hdr.v at hcq
                  have HAQ := Lib.hid (HSTEP.out (Rn.getD q default).l)
                  have CEq : Hid (∀ (W : World) (j : Nat), Keeps wr2 W → j < k' → Calls Try.prog 24 #[.slice (some ⟨(R.getD j default).g, 0, none⟩) (R.getD j default).l.length (R.getD j default).c, .slice (some ⟨(Rn.getD q default).g, 0, none⟩) (Rn.getD q default).l.length (Rn.getD q default).c] W fun e w' => e = .returned (.bool (decide ((R.getD j default).l = (Rn.getD q default).l))) ∧ ∃ q, w' = W.drewN q) := Lib.hid (fun W j hW hj => leIntsQ_any _ _ _ _ _ _ _ (by have := (HV2.out.2 _ (HX.out j hj)).2.1; omega) (by have := (HV2.out.2 _ (HX.out j hj)).2.1; have := HXQ.out.2; omega) ((HCR.out.keeps (HK35.out.step (HK6.out.step (HKQ.out.step hW)))).rowD j hj).ints (HROW.out.keeps hW))
                  have HAT : Hid (AY (Rn.getD q default).l k' = true) := Lib.hid (by rw [← HAY.out]; exact HANY.out _ HXQ.out.1)
                  have HA0 := Lib.hid (HAZ.out (Rn.getD q default).l)
                  have HAS : Hid (∀ i, AY (Rn.getD q default).l (i + 1) = (AY (Rn.getD q default).l i || decide ((R.getD i default).l = (Rn.getD q default).l))) := Lib.hid (fun i => by have h := HAQ.out i; rw [HAY.out, HAY.out] at h; exact h)
                  clear HROW HAQ HXQ
                  generalize (Rn.getD q default).l = yl at *
                  generalize (Rn.getD q default).g = yg at *
                  generalize (Rn.getD q default).c = yc at *
                  generalize yl.length = yn at *
                  go_wp2_with fail
                  go_loopw [10, 11] (fun b j wr => ∃ (jj : Nat) (v : Bool), jj ≤ k' ∧ j = .int .i64 jj ∧ b = .bool v ∧ Hid (v = AY yl jj) ∧ Hid (Keeps wr2 wr)) (fun _ j _ => k' - (intOf j).toNat)
                  case atStart => exact ⟨0, false, by omega, rfl, rfl, Lib.hid HA0.out.symm, Lib.hid (Keeps.refl _)⟩
                  case round =>
                    rename World => wr3
                    obtain ⟨j, v3, hj, rfl, rfl, HV4, HKJ⟩ := hrel
                    by_cases hjt : j < k'
                    · have hji : (j : Int) < k' := by omega
                      have hcj := (HCR.out.keeps (HK35.out.step (HK6.out.step (HKQ.out.step HKJ.out)))).cell j hjt
                      have hcq2 := cell_keeps HKJ.out hcq
                      unfold Hdr.v at hcj
                      have CEj := Lib.hid (fun nn => CEq.out (wr3.drewN nn) j (HKJ.out.step (Keeps.drewN _ _)) hjt)
                      have HAJ := Lib.hid (HAS.out j)
                      generalize decide ((R.getD j default).l = yl) = D at *
                      generalize (R.getD j default).g = zg at *
                      generalize (R.getD j default).c = zc at *
                      generalize (R.getD j default).l.length = zn at *
                      clear hcq
                      cases v3
                      · have HNV : Hid (D = AY yl (j + 1)) := Lib.hid (by rw [HAJ.out, ← HV4.out]; rfl)
                        clear HV4 HAJ
                        go_wp2_with fail
                        go_quiet ((go_at_call 24; with_reducible exact Calls.quiet_of (CEj.out _)))
                        have HKN := Lib.hid (HKJ.out.step (Keeps.drewN _ nq))
                        go_wp2_with fail
                        go_roundw
                        case rel => exact ⟨j + 1, D, by omega, by go_num, rfl, HNV, HKN⟩
                        case measure => simp [intOf]; omega
                      · have HNV : Hid (true = AY yl (j + 1)) := Lib.hid (by rw [HAJ.out, ← HV4.out]; rfl)
                        clear HV4 HAJ
                        go_wp2_with fail
                        go_quiet (fail)
                        have HKN := Lib.hid (HKJ.out.step (Keeps.drewN _ nq))
                        go_wp2_with fail
                        go_roundw
                        case rel => exact ⟨j + 1, true, by omega, by go_num, rfl, HNV, HKN⟩
                        case measure => simp [intOf]; omega
                    · obtain rfl : j = k' := by omega
                      have hv3 : v3 = true := by rw [HV4.out, HAT.out]
                      subst hv3
                      have HKN := Lib.hid (HKQ.out.step HKJ.out)
                      go_wp2_with fail
                      go_roundw
                      case rel => exact ⟨q + 1, by omega, by go_num, HKN⟩
                      case measure => simp [intOf]; omega
                · obtain rfl : q = kn := by omega
                  have HKN := Lib.hid (HK6.out.step HKQ.out)
                  go_wp2_with fail
                  go_roundw
                  case rel => exact ⟨i + 1, true, by omega, by go_num, rfl, HVV, HKN⟩
                  case measure => simp [intOf]; omega
        · obtain rfl : i = k' := by omega
          have HKF := Lib.hid (HK1.out.step (HK5.out.step HKR.out))
          have hv : v = true := by
            rw [HV3.out, ← HAY.out]
            exact HANY.out l HLZ.out
          subst hv
          go_wp2_with fail
          go_ret
          exact ⟨rfl, HKF.out⟩
end Go.Proofs.Ytaejakejnllimaa
