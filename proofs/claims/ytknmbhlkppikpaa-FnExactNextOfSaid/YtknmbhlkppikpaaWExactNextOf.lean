/-
  The walk of FnExactNextOf: whatever the rules and the numbers are, it returns true, and nothing that was there turns. Condition: bounds on lengths.
-/
import Derived.Test.YtknmbhlkppikpaaExactRul
import Derived.Test.YtknmbhlkppikpaaExactCr
import Derived.Test.YtknmbhlkppikpaaWrap
import Derived.Test.YtknmbhlkppikpaaBoundX
namespace Go.Proofs.Ytknmbhlkppikpaa
set_option linter.unusedVariables false
open Go.RowKit

set_option maxRecDepth 100000 in
set_option maxHeartbeats 8000000 in
theorem FnExactNextOf_walk (S A B C : Option Addr) (nS cS nA cA nB cB nC cC : Nat) (s : Nat → Int) (rA rB : Nat → Option Addr × Nat × Nat) (f g : Nat → Nat → Int) (y : Nat → Int) (w : World) (hS : Ints w S nS s) (hA : Rows w A nA rA f) (hB : Rows w B nB rB g) (hC : Ints w C nC y) (bS : nS ≤ 9223372036854775807) (bA : nA ≤ 9223372036854775807) (bB : nB ≤ 9223372036854775807) (bC : nC ≤ 9223372036854775807) (lA : ∀ i, i < nA → (rA i).2.1 ≤ 9223372036854775807) (lB : ∀ i, i < nB → (rB i).2.1 ≤ 9223372036854775807) :
    Calls Try.prog 3 #[.agg #[.slice S nS cS, .slice A nA cA, .slice B nB cB], .slice C nC cC] w fun e w' => e = .returned (.bool true) ∧ Keeps w w' := by
  have HS := Lib.hid hS
  have HA := Lib.hid hA
  have HB := Lib.hid hB
  have HC := Lib.hid hC
  have HLA := Lib.hid lA
  have HLB := Lib.hid lB
  have HK0 := Lib.hid (Keeps.alloc w (.cells #[.slice S nS cS, .slice A nA cA, .slice B nB cB] 25))
  have HBX := Lib.hid (Blk.new w #[.slice S nS cS, .slice A nA cA, .slice B nB cB] 25)
  clear hS hA hB hC lA lB
  by_cases hbig : (nC : Int) > 1048576
  · go_enter Try.func3, Try.ntmps3
    go_wp2
    go_ret
    exact ⟨rfl, HK0.out⟩
  · have hnC : nC ≤ 1048576 := by omega
    go_enter Try.func3, Try.ntmps3
    go_wp2_with fail
    generalize w.alloc (.cells #[.slice S nS cS, .slice A nA cA, .slice B nB cB] 25) = w0 at *
    refine (szRules_any S A B nS cS nA cA nB cB s rA rB f g w0 bA bB bS (HA.out.keeps HK0.out) (HB.out.keeps HK0.out) HLA.out HLB.out).mono ?_
    rintro e w1 ⟨⟨v, rfl, hv⟩, hk1⟩
    have HK1 := Lib.hid (HK0.out.step hk1)
    have HAX : Hid (∀ W, Keeps w1 W → W.cell? ⟨w.heap.size, 0, none⟩ = some (.slice S nS cS) ∧ W.cell? ⟨w.heap.size, 1, none⟩ = some (.slice A nA cA) ∧ W.cell? ⟨w.heap.size, 2, none⟩ = some (.slice B nB cB)) := Lib.hid (fun W hK => ⟨((HBX.out.keeps hk1).keeps hK).cell 0, ((HBX.out.keeps hk1).keeps hK).cell 1, ((HBX.out.keeps hk1).keeps hK).cell 2⟩)
    have HZW : Hid (w.heap.size < w1.heap.size) := Lib.hid (HBX.out.keeps hk1).lt
    clear hk1 HBX
    by_cases hsz : v < 0
    · clear hv
      go_wp2
      go_ret
      exact ⟨rfl, HK1.out⟩
    · have hnS : nS ≤ 1048576 := by omega
      have hnA : nA ≤ 1048576 := by omega
      have hnB : nB ≤ 1048576 := by omega
      have HSUM : Hid (nS + sumTo (fun i => (rA i).2.1) nA + sumTo (fun i => (rB i).2.1) nB ≤ 1048576) := Lib.hid (by omega)
      have HLA2 : Hid (∀ i, i < nA → (rA i).2.1 ≤ 1099511627776) := Lib.hid (fun i hi => Nat.le_trans (sumTo_one (fun i => (rA i).2.1) nA i hi) (by have := HSUM.out; omega))
      have HLB2 : Hid (∀ i, i < nB → (rB i).2.1 ≤ 1099511627776) := Lib.hid (fun i hi => Nat.le_trans (sumTo_one (fun i => (rB i).2.1) nB i hi) (by have := HSUM.out; omega))
      have HRAT : Hid (∀ W, Keeps w1 W → RulAt W S nS s A nA rA f B nB rB g) := Lib.hid (fun W hK => ⟨HS.out.keeps (HK1.out.step hK), HA.out.keeps (HK1.out.step hK), HB.out.keeps (HK1.out.step hK), by omega, by omega, by omega, HLA2.out, HLB2.out⟩)
      have HTV := Lib.hid (fun (W : World) (hK : Keeps w1 W) => toRules_any S A B nS cS nA cA nB cB s rA rB f g W (HRAT.out W hK))
      have HTC := Lib.hid (fun (W : World) (hK : Keeps w1 W) => toInts_any C nC cC y W (by omega) (HC.out.keeps (HK1.out.step hK)))
      obtain ⟨Z, hZ⟩ : ∃ Z, Z = (if (rulB nS s nA (fun i => (none, (rA i).2.1, 0)) f nB (fun i => (none, (rB i).2.1, 0)) g && crwB nS (il nC y)) then nextL (natF f) (natF g) nS (il nC y) else []) := ⟨_, rfl⟩
      have HZB : Hid (Z.length ≤ 1296 ∧ ∀ x ∈ Z, x.length ≤ 4) := Lib.hid (by rw [hZ]; exact boundNextOf s _ _ f g (il nC y))
      have HCR : Hid (∀ (w' : World) (lo h p1 a : Nat) (G : Nat → Nat) (p2 b : Nat) (G2 : Nat → Nat), CopyRul nS nA nB s (fun i => (rA i).2.1) (fun i => (rB i).2.1) f g lo h p1 a G p2 b G2 w' → RulAt w' (some ⟨h, 0, none⟩) nS s (some ⟨a, 0, none⟩) nA (fun i => (some ⟨G i, 0, none⟩, (rA i).2.1, (rA i).2.1)) f (some ⟨b, 0, none⟩) nB (fun i => (some ⟨G2 i, 0, none⟩, (rB i).2.1, (rB i).2.1)) g) := Lib.hid (fun w' lo h p1 a G p2 b G2 hc => hc.rulAt (by omega) (by omega) (by omega) HLA2.out HLB2.out)
      have HIL : Hid ((il nC y).length = nC) := Lib.hid (by simp [il])
      have HSP : Hid (∀ (w' : World) (lo h p1 a : Nat) (G : Nat → Nat) (p2 b : Nat) (G2 : Nat → Nat), CopyRul nS nA nB s (fun i => (rA i).2.1) (fun i => (rB i).2.1) f g lo h p1 a G p2 b G2 w' → ∀ (lo' q : Nat), OwnInts w' lo' (some ⟨q, 0, none⟩) nC nC (il nC y) → Calls Try.prog 8 #[.agg #[.slice (some ⟨h, 0, none⟩) nS nS, .slice (some ⟨a, 0, none⟩) nA nA, .slice (some ⟨b, 0, none⟩) nB nB], .slice (some ⟨q, 0, none⟩) nC nC] w' fun e w'' => ∃ R A0 k c, e = .returned (.slice A0 k c) ∧ R.map (·.l) = Z ∧ Crn w'' w'.heap.size A0 k R ∧ Keeps w' w'') := Lib.hid (fun w' lo h p1 a G p2 b G2 hc lo' q hq => by
        have h1 := sNextOf_any (some ⟨h, 0, none⟩) (some ⟨a, 0, none⟩) (some ⟨b, 0, none⟩) (some ⟨q, 0, none⟩) nS nS nA nA nB nB nC s _ _ f g (il nC y) w' (HCR.out w' lo h p1 a G p2 b G2 hc) (by rw [HIL.out]; exact hq.ints) (by rw [HIL.out]; omega)
        rw [HIL.out] at h1
        rw [hZ]
        exact h1)
      have HIM : Hid (∀ (w' : World) (lo h p1 a : Nat) (G : Nat → Nat) (p2 b : Nat) (G2 : Nat → Nat), CopyRul nS nA nB s (fun i => (rA i).2.1) (fun i => (rB i).2.1) f g lo h p1 a G p2 b G2 w' → ∀ (lo' q : Nat), OwnInts w' lo' (some ⟨q, 0, none⟩) nC nC (il nC y) → Calls Try.prog 11 #[.agg #[.slice (some ⟨h, 0, none⟩) nS nS, .slice (some ⟨a, 0, none⟩) nA nA, .slice (some ⟨b, 0, none⟩) nB nB], .slice (some ⟨q, 0, none⟩) nC nC] w' fun e w'' => ∃ R A0 k, e = .returned (.slice A0 k k) ∧ R.map (·.l) = Z ∧ (R.map (·.g)).Nodup ∧ Crn w'' w'.heap.size A0 k R ∧ Keeps w' w'') := Lib.hid (fun w' lo h p1 a G p2 b G2 hc lo' q hq => by
        have h1 := iNextOf_any (some ⟨h, 0, none⟩) (some ⟨a, 0, none⟩) (some ⟨b, 0, none⟩) (some ⟨q, 0, none⟩) nS nS nA nA nB nB nC s _ _ f g (il nC y) w' (HCR.out w' lo h p1 a G p2 b G2 hc) (by rw [HIL.out]; exact hq.ints) (by rw [HIL.out]; omega)
        rw [HIL.out] at h1
        rw [hZ]
        exact h1)
      clear hv hZ HS HA HB HC HLA HLB
      -- the reference's answer, of copies
      obtain ⟨x0, x1, x2⟩ := HAX.out w1 (Keeps.refl _)
      go_wp2_with fail
      refine (HTV.out _ (Keeps.refl _)).mono ?_
      rintro e w2 ⟨h1, p11, a1, G11, p21, b1, G21, rfl, hc1, hk2⟩
      have HC1 := Lib.hid hc1
      have HK2 := Lib.hid hk2
      clear hc1 hk2 x0 x1 x2
      go_wp2_with fail
      refine (HTC.out _ HK2.out).mono ?_
      rintro e w3 ⟨q1, rfl, hq1, hk3⟩
      have HQ1 := Lib.hid hq1
      have HC1' := Lib.hid (HC1.out.keeps hk3)
      have HK3 := Lib.hid (HK2.out.step hk3)
      clear hq1 hk3 HC1 HK2
      go_wp2_with fail
      refine (HSP.out _ _ h1 p11 a1 G11 p21 b1 G21 HC1'.out _ q1 HQ1.out).mono ?_
      rintro e w4 ⟨R1, A1, k1, c1, rfl, hz1, hr1, hk4⟩
      have HZ1 : Hid (R1.map (·.l) = Z) := Lib.hid hz1
      have HR1 := Lib.hid hr1
      obtain rfl : k1 = Z.length := by rw [← hz1, List.length_map, hr1.len]
      have HK4 := Lib.hid (HK3.out.step hk4)
      have HNZ := HZB.out.1
      clear hz1 hr1 hk4 HC1' HQ1 HK3 HSP
      generalize hN : Z.length = N at *
      have HNN := Lib.hid hN
      clear hN
      -- the arguments, copies
      as_aux_lemma =>
        obtain ⟨x0, x1, x2⟩ := HAX.out w4 HK4.out
        go_wp2_with fail
        refine (HTV.out _ HK4.out).mono ?_
        rintro e w5 ⟨h2, p12, a2, G12, p22, b2, G22, rfl, hc2, hk5⟩
        have kB := Keeps.alloc w5 (.cells #[.slice (some ⟨h2, 0, none⟩) nS nS, .slice (some ⟨a2, 0, none⟩) nA nA, .slice (some ⟨b2, 0, none⟩) nB nB] 28)
        have HB7 := Lib.hid (Blk.new w5 #[.slice (some ⟨h2, 0, none⟩) nS nS, .slice (some ⟨a2, 0, none⟩) nA nA, .slice (some ⟨b2, 0, none⟩) nB nB] 28)
        have HC2 := Lib.hid (hc2.keeps kB)
        have HCB : Hid (w4.heap.size ≤ w5.heap.size ∧ p22 ≤ w5.heap.size ∧ ∀ i, i < nB → G22 i < w5.heap.size) := Lib.hid ⟨hk5.size, by have := hc2.second.blo b2 rfl; omega, fun i hi => (hc2.second.rblo i hi (G22 i) rfl).2⟩
        have HK46 := Lib.hid (hk5.step kB)
        have HZ6 : Hid (w5.heap.size < (w5.alloc (.cells #[.slice (some ⟨h2, 0, none⟩) nS nS, .slice (some ⟨a2, 0, none⟩) nA nA, .slice (some ⟨b2, 0, none⟩) nB nB] 28)).heap.size) := Lib.hid (by simp)
        clear hc2 hk5 kB x0 x1 x2
        go_wp2_with fail
        generalize w5.alloc (.cells #[.slice (some ⟨h2, 0, none⟩) nS nS, .slice (some ⟨a2, 0, none⟩) nA nA, .slice (some ⟨b2, 0, none⟩) nB nB] 28) = w6 at *
        generalize w5.heap.size = b7 at *
        refine (HTC.out _ (HK4.out.step HK46.out)).mono ?_
        rintro e w7 ⟨q2, rfl, hq2, hk7⟩
        have HQ2 := Lib.hid hq2
        have HQB : Hid (w6.heap.size ≤ q2 ∧ q2 < w7.heap.size) := Lib.hid hq2.block
        have HC7 := Lib.hid (HC2.out.keeps hk7)
        have HK47 := Lib.hid (HK46.out.step hk7)
        have HB77 := Lib.hid (HB7.out.keeps hk7)
        have HZ7 := Lib.hid hk7.size
        clear hq2 hk7 HC2 HK46 HB7
        have c70 : w7.cell? ⟨b7, 0, none⟩ = some (.slice (some ⟨h2, 0, none⟩) nS nS) := HB77.out.cell 0
        have c71 : w7.cell? ⟨b7, 1, none⟩ = some (.slice (some ⟨a2, 0, none⟩) nA nA) := HB77.out.cell 1
        have c72 : w7.cell? ⟨b7, 2, none⟩ = some (.slice (some ⟨b2, 0, none⟩) nB nB) := HB77.out.cell 2
        go_wp2_with fail
        -- the program's answer
        refine (HIM.out _ _ h2 p12 a2 G12 p22 b2 G22 HC7.out _ q2 HQ2.out).mono ?_
        rintro e w8 ⟨R2, A2, k2, rfl, hz2, hn2, hr2, hk8⟩
        obtain rfl : k2 = N := by rw [← HNN.out, ← hz2, List.length_map, hr2.len]
        have HR2 := Lib.hid hr2
        have HM2 := Lib.hid (hr2.cm hn2)
        have HE : Hid (∀ i, i < k2 → (hdrR R2 i).2.1 = (hdrR R1 i).2.1 ∧ ∀ j, j < (hdrR R2 i).2.1 → numR R2 i j = numR R1 i j) := Lib.hid (hdr_eq (hz2.trans HZ1.out.symm) hr2.len)
        have HLN : Hid (∀ i, i < k2 → CrL R2 i ≤ 4) := Lib.hid (fun i hi => HZB.out.2 _ (by rw [← hz2]; exact getD_map (by rw [hr2.len]; exact hi)))
        have HRB : Hid (∀ i, i < k2 → ∀ d, (CrA R2 i).map (·.block) = some d → d < w8.heap.size) := Lib.hid (fun i hi d hd => (HM2.out.rblo i hi d hd).2)
        have HSL : Hid (sumTo (CrL R2) k2 ≤ 1048576) := Lib.hid (by have := sumTo_bd (CrL R2) 4 k2 HLN.out; omega)
        have HC8 := Lib.hid (HC7.out.keeps hk8)
        have HQ8 := Lib.hid (HQ2.out.keeps hk8)
        have HK48 := Lib.hid (HK47.out.step hk8)
        have HB78 := Lib.hid (HB77.out.keeps hk8)
        have HZ8 := Lib.hid hk8.size
        clear hz2 hn2 hr2 hk8 HC7 HQ2 HK47 HB77 c70 c71 c72
        have CX1 := Lib.hid (fun (W : World) (h1 : Rows W A2 k2 (fun i => (CrA R2 i, CrL R2 i, CrC R2 i)) (numR R2)) (h2 : Rows W A1 k2 (hdrR R1) (numR R1)) => xRows_true A2 A1 k2 k2 c1 (fun i => (CrA R2 i, CrL R2 i, CrC R2 i)) (hdrR R1) (numR R2) (numR R1) W (by omega) h1 h2 (fun i hi => Nat.le_trans (HLN.out i hi) (by omega)) HE.out)
        go_wp2_with fail
        refine (CX1.out _ HM2.out.rows (HR1.out.keeps HK48.out).rows').mono ?_
        rintro e w9 ⟨rfl, hk9⟩
        have HM9 := Lib.hid (HM2.out.keeps hk9)
        have HC9 := Lib.hid (HC8.out.keeps hk9)
        have HQ9 := Lib.hid (HQ8.out.keeps hk9)
        have HK49 := Lib.hid (HK48.out.step hk9)
        have HB79 := Lib.hid (HB78.out.keeps hk9)
        have HZ9 := Lib.hid hk9.size
        clear hk9 HM2 HC8 HQ8 HK48 HB78 HR2 HE HLN
        generalize CrL R2 = LL at *
        as_aux_lemma =>
          obtain ⟨x0, x1, x2⟩ := HAX.out w9 (HK4.out.step HK49.out)
          have c90 : w9.cell? ⟨b7, 0, none⟩ = some (.slice (some ⟨h2, 0, none⟩) nS nS) := HB79.out.cell 0
          have c91 : w9.cell? ⟨b7, 1, none⟩ = some (.slice (some ⟨a2, 0, none⟩) nA nA) := HB79.out.cell 1
          have c92 : w9.cell? ⟨b7, 2, none⟩ = some (.slice (some ⟨b2, 0, none⟩) nB nB) := HB79.out.cell 2
          go_wp2_with fail
          -- the argument is as it was
          go_region_held3 (fun w' => (w'.cell? ⟨w.heap.size, 0, none⟩ = some (.slice S nS cS) ∧ w'.cell? ⟨w.heap.size, 1, none⟩ = some (.slice A nA cA) ∧ w'.cell? ⟨w.heap.size, 2, none⟩ = some (.slice B nB cB)) ∧ (w'.cell? ⟨b7, 0, none⟩ = some (.slice (some ⟨h2, 0, none⟩) nS nS) ∧ w'.cell? ⟨b7, 1, none⟩ = some (.slice (some ⟨a2, 0, none⟩) nA nA) ∧ w'.cell? ⟨b7, 2, none⟩ = some (.slice (some ⟨b2, 0, none⟩) nB nB)) ∧ Keeps w9 w') (first | exact ⟨⟨cell_keeps hk10 q00, cell_keeps hk10 q01, cell_keeps hk10 q02⟩, ⟨cell_keeps hk10 q03, cell_keeps hk10 q04, cell_keeps hk10 q05⟩, qk.step hk10⟩ | exact ⟨⟨cell_keeps hk11 q00, cell_keeps hk11 q01, cell_keeps hk11 q02⟩, ⟨cell_keeps hk11 q03, cell_keeps hk11 q04, cell_keeps hk11 q05⟩, qk.step hk11⟩ | exact ⟨⟨x0, x1, x2⟩, ⟨c90, c91, c92⟩, Keeps.drew1 _⟩) (first | (go_at_call 9; obtain ⟨⟨q00, q01, q02⟩, ⟨q03, q04, q05⟩, qk⟩ : (_ ∧ _ ∧ _) ∧ (_ ∧ _ ∧ _) ∧ Keeps w9 _ := (by assumption); (with_reducible refine (HTV.out _ ((HK4.out.step HK49.out).step qk)).mono ?_); rintro e w10 ⟨h3, p13, a3, G13, p23, b3, G23, rfl, hc3, hk10⟩; have HC3 := Lib.hid (HCR.out _ _ _ _ _ _ _ _ _ hc3); clear hc3) | (go_at_call 13; obtain ⟨⟨q00, q01, q02⟩, ⟨q03, q04, q05⟩, qk⟩ : (_ ∧ _ ∧ _) ∧ (_ ∧ _ ∧ _) ∧ Keeps w9 _ := (by assumption); (refine (xRules_true (some ⟨h2, 0, none⟩) (some ⟨a2, 0, none⟩) (some ⟨b2, 0, none⟩) (some ⟨h3, 0, none⟩) (some ⟨a3, 0, none⟩) (some ⟨b3, 0, none⟩) nS nS nA nA nB nB nS nA nB s (fun i => (some ⟨G12 i, 0, none⟩, (rA i).2.1, (rA i).2.1)) (fun i => (some ⟨G22 i, 0, none⟩, (rB i).2.1, (rB i).2.1)) (fun i => (some ⟨G13 i, 0, none⟩, (rA i).2.1, (rA i).2.1)) (fun i => (some ⟨G23 i, 0, none⟩, (rB i).2.1, (rB i).2.1)) f g _ ((HCR.out _ _ _ _ _ _ _ _ _ HC9.out).keeps qk) HC3.out (fun _ _ => rfl) (fun _ _ => rfl)).mono ?_); rintro e w11 ⟨rfl, hk11⟩))
          have K11 := qk.step hk11
          have HC11 := Lib.hid (HC9.out.keeps K11)
          have HQ11 := Lib.hid (HQ9.out.keeps K11)
          have HM11 := Lib.hid (HM9.out.keeps K11)
          have HB711 := Lib.hid (HB79.out.keeps K11)
          have HK411 := Lib.hid (HK49.out.step K11)
          clear q00 q01 q02 q03 q04 q05 qk hk10 hk11 HC3 x0 x1 x2 c90 c91 c92 K11 HC9 HQ9 HM9 HB79 HK49
          go_wp2_with fail
          refine (HTC.out _ (HK4.out.step HK411.out)).mono ?_
          rintro e w12 ⟨q3, rfl, hq3, hk12⟩
          have CI := Lib.hid (xInts_true (some ⟨q2, 0, none⟩) (some ⟨q3, 0, none⟩) nC nC nC y y w12 (by omega) (il_intsR (HQ11.out.keeps hk12)) (il_intsR hq3) (fun _ _ => rfl))
          have HK12 := Lib.hid hk12
          clear hq3 hk12
          go_wp2_with fail
          refine CI.out.mono ?_
          rintro e w13 ⟨rfl, hk13⟩
          have k13 := HK12.out.step hk13
          have HC13 := Lib.hid (HC11.out.keeps k13)
          have HQ13 := Lib.hid (HQ11.out.keeps k13)
          have HM13 := Lib.hid (HM11.out.keeps k13)
          have HB713 := Lib.hid (HB711.out.keeps k13)
          have HK413 := Lib.hid (HK411.out.step k13)
          clear k13 hk13 HK12 CI HC11 HQ11 HM11 HB711 HK411
          -- marks in the arguments
          as_aux_lemma =>
            have c0 : w13.cell? ⟨b7, 0, none⟩ = some (.slice (some ⟨h2, 0, none⟩) nS nS) := HB713.out.cell 0
            have c1 : w13.cell? ⟨b7, 1, none⟩ = some (.slice (some ⟨a2, 0, none⟩) nA nA) := HB713.out.cell 1
            have c2 : w13.cell? ⟨b7, 2, none⟩ = some (.slice (some ⟨b2, 0, none⟩) nB nB) := HB713.out.cell 2
            obtain ⟨K0, hK00, hK01, CM⟩ : ∃ K0 : Int, 0 ≤ K0 ∧ K0 ≤ 1048577 ∧ Hid (Calls Try.prog 15 #[.agg #[.slice (some ⟨h2, 0, none⟩) nS nS, .slice (some ⟨a2, 0, none⟩) nA nA, .slice (some ⟨b2, 0, none⟩) nB nB], .int .i64 1] w13 fun e w' => e = .returned (.int .i64 K0) ∧ Mid w4.heap.size b7 w13 w') := ⟨_, by omega, by have := HSUM.out; omega, Lib.hid (markRules_any nS nA nB s _ _ f g w4.heap.size h2 p12 a2 p22 b2 b7 G12 G22 w13 hnS hnA hnB HSUM.out HC13.out HCB.out.2.2 HCB.out.2.1)⟩
            go_wp2_with fail
            refine CM.out.mono ?_
            rintro e w14 ⟨rfl, hm14⟩
            have HM14 := Lib.hid (HM13.out.mid hm14 (by have := HZ6.out; have := HZ7.out; omega))
            have HQ14 := Lib.hid (hm14.ints HQ13.out (fun k hk => .inr (by simp at hk; have := HQB.out; have := HZ6.out; omega)))
            have HK414 := Lib.hid (hm14.keeps HK413.out (Nat.le_refl _))
            obtain ⟨K1, hK10, CI⟩ : ∃ K1 : Int, 0 ≤ K1 ∧ Hid (Calls Try.prog 16 #[.slice (some ⟨q2, 0, none⟩) nC nC, .int .i64 K0] w14 fun e w' => e = .returned (.int .i64 K1) ∧ OwnInts w' w6.heap.size (some ⟨q2, 0, none⟩) nC nC (il nC (fun i => K0 + i)) ∧ w14.grownBy w' (some q2)) := ⟨_, by omega, Lib.hid (markInts_any w6.heap.size (some ⟨q2, 0, none⟩) nC nC _ K0 w14 (by omega) hK00 (by omega) HQ14.out)⟩
            clear hm14 HM13 HQ13 HK413 CM c0 c1 c2
            go_wp2_with fail
            refine CI.out.mono ?_
            rintro e w15 ⟨rfl, _, hg15⟩
            have m15 : Mid w6.heap.size w7.heap.size w14 w15 := Mid.ofGrown hg15 (fun d hd => by simp at hd; have := HQB.out; omega)
            have HM15 := Lib.hid (HM14.out.mid m15 (Nat.le_refl _))
            have HK415 := Lib.hid (m15.keeps HK414.out (by have := HCB.out.1; have := HZ6.out; omega))
            clear m15 hg15 HM14 HQ14 HK414 CI
            go_wp2_with fail
            refine (CX1.out _ HM15.out.rows (HR1.out.keeps HK415.out).rows').mono ?_
            rintro e w16 ⟨rfl, hk16⟩
            have HM16 := Lib.hid (HM15.out.keeps hk16)
            have HK416 := Lib.hid (HK415.out.step hk16)
            clear hk16 HM15 HK415
            -- marks in the answer
            go_wp2_with fail
            refine (markCM_any w7.heap.size w8.heap.size k2 k2 A2 _ LL _ _ _ 1 w16 (by omega) HSL.out (by omega) (by omega) HM16.out HRB.out).mono ?_
            rintro e w17 ⟨rfl, hm17, hM⟩
            have HM17 := Lib.hid hm17
            have HK417 := Lib.hid (hM.keeps HK416.out (by have := HCB.out.1; have := HZ6.out; have := HZ7.out; omega))
            clear hM hm17 HM16 HK416
            have CH := Lib.hid (fun (W : World) (h1 : OwnCM W w7.heap.size A2 k2 (CrA R2) LL (CrC R2) (CrD R2) (fun i j => 1 + (sumTo LL i : Nat) + j)) => heldCM_any w7.heap.size k2 k2 A2 (CrA R2) LL (CrC R2) (CrD R2) 1 W (by omega) HSL.out (by omega) (by omega) h1)
            obtain ⟨SS, hSS⟩ : ∃ SS, SS = sumTo LL k2 := ⟨_, rfl⟩
            rw [← hSS] at CH ⊢
            clear hSS
            have hne2 : ((1 : Int) + SS != 1 + SS) = false := by simp
            have hsn : ¬ ((1 : Int) + SS < 0) := by omega
            go_wp2_with fail
            refine (CH.out _ HM17.out).mono ?_
            rintro e w18 ⟨rfl, hk18⟩
            have HM18 := Lib.hid (HM17.out.keeps hk18)
            have HK418 := Lib.hid (HK417.out.step hk18)
            clear hk18 HM17 HK417
            -- once more, of new copies
            as_aux_lemma =>
              obtain ⟨x0, x1, x2⟩ := HAX.out w18 (HK4.out.step HK418.out)
              go_wp2_with fail
              refine (HTV.out _ (HK4.out.step HK418.out)).mono ?_
              rintro e w19 ⟨h4, p14, a4, G14, p24, b4, G24, rfl, hc4, hk19⟩
              have HC4 := Lib.hid hc4
              have HK19 := Lib.hid hk19
              clear hc4 hk19 x0 x1 x2
              go_wp2_with fail
              refine (HTC.out _ ((HK4.out.step HK418.out).step HK19.out)).mono ?_
              rintro e w20 ⟨q4, rfl, hq4, hk20⟩
              have HQ4 := Lib.hid hq4
              have HC20 := Lib.hid (HC4.out.keeps hk20)
              have HK20 := Lib.hid (HK19.out.step hk20)
              clear hq4 hk20 HC4 HK19
              go_wp2_with fail
              refine (HIM.out _ _ h4 p14 a4 G14 p24 b4 G24 HC20.out _ q4 HQ4.out).mono ?_
              rintro e w21 ⟨R3, A3, k3, rfl, hz3, hn3, hr3, hk21⟩
              obtain rfl : k2 = k3 := by rw [← HNN.out, ← hz3, List.length_map, hr3.len]
              have k21 := HK20.out.step hk21
              have HM21 := Lib.hid (HM18.out.keeps k21)
              have HK421 := Lib.hid (HK418.out.step k21)
              have CX3 := Lib.hid (xRows_true A3 A1 k2 k2 c1 (hdrR R3) (hdrR R1) (numR R3) (numR R1) w21 (by omega) hr3.rows' (HR1.out.keeps HK421.out).rows' (fun i hi => Nat.le_trans (HZB.out.2 _ (by rw [← hz3]; exact getD_map (by rw [hr3.len]; exact hi))) (by omega)) (hdr_eq (hz3.trans HZ1.out.symm) hr3.len))
              clear hz3 hn3 hr3 hk21 k21 HM18 HK418 HK20 HC20 HQ4
              go_wp2_with fail
              refine CX3.out.mono ?_
              rintro e w22 ⟨rfl, hk22⟩
              have HM22 := Lib.hid (HM21.out.keeps hk22)
              have HK422 := Lib.hid (HK421.out.step hk22)
              clear hk22 CX3 HM21 HK421
              go_wp2_with fail
              refine (CH.out _ HM22.out).mono ?_
              rintro e w23 ⟨rfl, hk23⟩
              have HKF := Lib.hid (HK1.out.step (HK4.out.step (HK422.out.step hk23)))
              clear hk23
              go_wp2
              go_ret
              exact ⟨rfl, HKF.out⟩
end Go.Proofs.Ytknmbhlkppikpaa
