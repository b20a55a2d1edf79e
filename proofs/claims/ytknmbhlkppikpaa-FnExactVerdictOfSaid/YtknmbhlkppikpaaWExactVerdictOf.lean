/-
  The walk of FnExactVerdictOf: whatever the rules and the numbers are, it returns true, and nothing that was there turns. Condition: bounds on lengths.
-/
import Derived.Test.YtknmbhlkppikpaaExactRul
import Derived.Test.YtknmbhlkppikpaaWrapV
namespace Go.Proofs.Ytknmbhlkppikpaa
set_option linter.unusedVariables false
open Go.RowKit

set_option maxRecDepth 100000 in
set_option maxHeartbeats 8000000 in
theorem FnExactVerdictOf_walk (S A B C : Option Addr) (nS cS nA cA nB cB nC cC : Nat) (s : Nat → Int) (rA rB : Nat → Option Addr × Nat × Nat) (f g : Nat → Nat → Int) (y : Nat → Int) (w : World) (hS : Ints w S nS s) (hA : Rows w A nA rA f) (hB : Rows w B nB rB g) (hC : Ints w C nC y) (bS : nS ≤ 9223372036854775807) (bA : nA ≤ 9223372036854775807) (bB : nB ≤ 9223372036854775807) (bC : nC ≤ 9223372036854775807) (lA : ∀ i, i < nA → (rA i).2.1 ≤ 9223372036854775807) (lB : ∀ i, i < nB → (rB i).2.1 ≤ 9223372036854775807) :
    Calls Try.prog 6 #[.agg #[.slice S nS cS, .slice A nA cA, .slice B nB cB], .slice C nC cC] w fun e w' => e = .returned (.bool true) ∧ Keeps w w' := by
  have HS := Lib.hid hS
  have HA := Lib.hid hA
  have HB := Lib.hid hB
  have HC := Lib.hid hC
  have HLA := Lib.hid lA
  have HLB := Lib.hid lB
  have HK0 := Lib.hid (Keeps.alloc w (.cells #[.slice S nS cS, .slice A nA cA, .slice B nB cB] 25))
  have HBX := Lib.hid (Blk.new w #[.slice S nS cS, .slice A nA cA, .slice B nB cB] 25)
  clear hS hA hB hC lA lB
  by_cases hbig : (nC : Int) > 1048576
  · go_enter Try.func6, Try.ntmps6
    go_wp2
    go_ret
    exact ⟨rfl, HK0.out⟩
  · have hnC : nC ≤ 1048576 := by omega
    go_enter Try.func6, Try.ntmps6
    go_wp2_with fail
    generalize w.alloc (.cells #[.slice S nS cS, .slice A nA cA, .slice B nB cB] 25) = w0 at *
    refine (szRules_any S A B nS cS nA cA nB cB s rA rB f g w0 bA bB bS (HA.out.keeps HK0.out) (HB.out.keeps HK0.out) HLA.out HLB.out).mono ?_
    rintro e w1 ⟨⟨v, rfl, hv⟩, hk1⟩
    have HK1 := Lib.hid (HK0.out.step hk1)
    have HAX : Hid (∀ W, Keeps w1 W → W.cell? ⟨w.heap.size, 0, none⟩ = some (.slice S nS cS) ∧ W.cell? ⟨w.heap.size, 1, none⟩ = some (.slice A nA cA) ∧ W.cell? ⟨w.heap.size, 2, none⟩ = some (.slice B nB cB)) := Lib.hid (fun W hK => ⟨((HBX.out.keeps hk1).keeps hK).cell 0, ((HBX.out.keeps hk1).keeps hK).cell 1, ((HBX.out.keeps hk1).keeps hK).cell 2⟩)
    have HZW : Hid (w.heap.size < w1.heap.size) := Lib.hid (HBX.out.keeps hk1).lt
    clear hk1 HBX
    by_cases hsz : v < 0
    · clear hv
      go_wp2
      go_ret
      exact ⟨rfl, HK1.out⟩
    · have hnS : nS ≤ 1048576 := by omega
      have hnA : nA ≤ 1048576 := by omega
      have hnB : nB ≤ 1048576 := by omega
      have HSUM : Hid (nS + sumTo (fun i => (rA i).2.1) nA + sumTo (fun i => (rB i).2.1) nB ≤ 1048576) := Lib.hid (by omega)
      have HLA2 : Hid (∀ i, i < nA → (rA i).2.1 ≤ 1099511627776) := Lib.hid (fun i hi => Nat.le_trans (sumTo_one (fun i => (rA i).2.1) nA i hi) (by have := HSUM.out; omega))
      have HLB2 : Hid (∀ i, i < nB → (rB i).2.1 ≤ 1099511627776) := Lib.hid (fun i hi => Nat.le_trans (sumTo_one (fun i => (rB i).2.1) nB i hi) (by have := HSUM.out; omega))
      have HRAT : Hid (∀ W, Keeps w1 W → RulAt W S nS s A nA rA f B nB rB g) := Lib.hid (fun W hK => ⟨HS.out.keeps (HK1.out.step hK), HA.out.keeps (HK1.out.step hK), HB.out.keeps (HK1.out.step hK), by omega, by omega, by omega, HLA2.out, HLB2.out⟩)
      have HTV := Lib.hid (fun (W : World) (hK : Keeps w1 W) => toRules_any S A B nS cS nA cA nB cB s rA rB f g W (HRAT.out W hK))
      have HTC := Lib.hid (fun (W : World) (hK : Keeps w1 W) => toInts_any C nC cC y W (by omega) (HC.out.keeps (HK1.out.step hK)))
      obtain ⟨Z, hZ⟩ : ∃ Z, Z = (if (rulB nS s nA (fun i => (none, (rA i).2.1, 0)) f nB (fun i => (none, (rB i).2.1, 0)) g && crwB nS (il nC y)) then verd (natF f) (natF g) nS s (il nC y) else -1) := ⟨_, rfl⟩
      have HCR : Hid (∀ (w' : World) (lo h p1 a : Nat) (G : Nat → Nat) (p2 b : Nat) (G2 : Nat → Nat), CopyRul nS nA nB s (fun i => (rA i).2.1) (fun i => (rB i).2.1) f g lo h p1 a G p2 b G2 w' → RulAt w' (some ⟨h, 0, none⟩) nS s (some ⟨a, 0, none⟩) nA (fun i => (some ⟨G i, 0, none⟩, (rA i).2.1, (rA i).2.1)) f (some ⟨b, 0, none⟩) nB (fun i => (some ⟨G2 i, 0, none⟩, (rB i).2.1, (rB i).2.1)) g) := Lib.hid (fun w' lo h p1 a G p2 b G2 hc => hc.rulAt (by omega) (by omega) (by omega) HLA2.out HLB2.out)
      have HIL : Hid ((il nC y).length = nC) := Lib.hid (by simp [il])
      have HSP : Hid (∀ (w' : World) (lo h p1 a : Nat) (G : Nat → Nat) (p2 b : Nat) (G2 : Nat → Nat), CopyRul nS nA nB s (fun i => (rA i).2.1) (fun i => (rB i).2.1) f g lo h p1 a G p2 b G2 w' → ∀ (lo' q : Nat), OwnInts w' lo' (some ⟨q, 0, none⟩) nC nC (il nC y) → Calls Try.prog 23 #[.agg #[.slice (some ⟨h, 0, none⟩) nS nS, .slice (some ⟨a, 0, none⟩) nA nA, .slice (some ⟨b, 0, none⟩) nB nB], .slice (some ⟨q, 0, none⟩) nC nC] w' fun e w'' => e = .returned (.int .i64 Z) ∧ Keeps w' w'') := Lib.hid (fun w' lo h p1 a G p2 b G2 hc lo' q hq => by
        have h1 := sVerdictOf_any (some ⟨h, 0, none⟩) (some ⟨a, 0, none⟩) (some ⟨b, 0, none⟩) (some ⟨q, 0, none⟩) nS nS nA nA nB nB nC s _ _ f g (il nC y) w' (HCR.out w' lo h p1 a G p2 b G2 hc) (by rw [HIL.out]; exact hq.ints) (by rw [HIL.out]; omega)
        rw [HIL.out] at h1
        rw [hZ]
        exact h1)
      have HIM : Hid (∀ (w' : World) (lo h p1 a : Nat) (G : Nat → Nat) (p2 b : Nat) (G2 : Nat → Nat), CopyRul nS nA nB s (fun i => (rA i).2.1) (fun i => (rB i).2.1) f g lo h p1 a G p2 b G2 w' → ∀ (lo' q : Nat), OwnInts w' lo' (some ⟨q, 0, none⟩) nC nC (il nC y) → Calls Try.prog 24 #[.agg #[.slice (some ⟨h, 0, none⟩) nS nS, .slice (some ⟨a, 0, none⟩) nA nA, .slice (some ⟨b, 0, none⟩) nB nB], .slice (some ⟨q, 0, none⟩) nC nC] w' fun e w'' => e = .returned (.int .i64 Z) ∧ Keeps w' w'') := Lib.hid (fun w' lo h p1 a G p2 b G2 hc lo' q hq => by
        have h1 := iVerdictOf_any (some ⟨h, 0, none⟩) (some ⟨a, 0, none⟩) (some ⟨b, 0, none⟩) (some ⟨q, 0, none⟩) nS nS nA nA nB nB nC s _ _ f g (il nC y) w' (HCR.out w' lo h p1 a G p2 b G2 hc) (by rw [HIL.out]; exact hq.ints) (by rw [HIL.out]; omega)
        rw [HIL.out] at h1
        rw [hZ]
        exact h1)
      clear hv hZ HS HA HB HC HLA HLB
      -- the reference's answer, of copies
      obtain ⟨x0, x1, x2⟩ := HAX.out w1 (Keeps.refl _)
      go_wp2_with fail
      refine (HTV.out _ (Keeps.refl _)).mono ?_
      rintro e w2 ⟨h1, p11, a1, G11, p21, b1, G21, rfl, hc1, hk2⟩
      have HC1 := Lib.hid hc1
      have HK2 := Lib.hid hk2
      clear hc1 hk2 x0 x1 x2
      go_wp2_with fail
      refine (HTC.out _ HK2.out).mono ?_
      rintro e w3 ⟨q1, rfl, hq1, hk3⟩
      have HQ1 := Lib.hid hq1
      have HC1' := Lib.hid (HC1.out.keeps hk3)
      have HK3 := Lib.hid (HK2.out.step hk3)
      clear hq1 hk3 HC1 HK2
      go_wp2_with fail
      refine (HSP.out _ _ h1 p11 a1 G11 p21 b1 G21 HC1'.out _ q1 HQ1.out).mono ?_
      rintro e w4 ⟨rfl, hk4⟩
      have HK4 := Lib.hid (HK3.out.step hk4)
      have hzz : (Z != Z) = false := by simp
      clear hk4 HC1' HQ1 HK3 HSP
      -- the arguments, copies
      as_aux_lemma =>
        obtain ⟨x0, x1, x2⟩ := HAX.out w4 HK4.out
        go_wp2_with fail
        refine (HTV.out _ HK4.out).mono ?_
        rintro e w5 ⟨h2, p12, a2, G12, p22, b2, G22, rfl, hc2, hk5⟩
        have kB := Keeps.alloc w5 (.cells #[.slice (some ⟨h2, 0, none⟩) nS nS, .slice (some ⟨a2, 0, none⟩) nA nA, .slice (some ⟨b2, 0, none⟩) nB nB] 28)
        have HB7 := Lib.hid (Blk.new w5 #[.slice (some ⟨h2, 0, none⟩) nS nS, .slice (some ⟨a2, 0, none⟩) nA nA, .slice (some ⟨b2, 0, none⟩) nB nB] 28)
        have HC2 := Lib.hid (hc2.keeps kB)
        have HCB : Hid (w4.heap.size ≤ w5.heap.size ∧ p22 ≤ w5.heap.size ∧ ∀ i, i < nB → G22 i < w5.heap.size) := Lib.hid ⟨hk5.size, by have := hc2.second.blo b2 rfl; omega, fun i hi => (hc2.second.rblo i hi (G22 i) rfl).2⟩
        have HK46 := Lib.hid (hk5.step kB)
        have HZ6 : Hid (w5.heap.size < (w5.alloc (.cells #[.slice (some ⟨h2, 0, none⟩) nS nS, .slice (some ⟨a2, 0, none⟩) nA nA, .slice (some ⟨b2, 0, none⟩) nB nB] 28)).heap.size) := Lib.hid (by simp)
        clear hc2 hk5 kB x0 x1 x2
        go_wp2_with fail
        generalize w5.alloc (.cells #[.slice (some ⟨h2, 0, none⟩) nS nS, .slice (some ⟨a2, 0, none⟩) nA nA, .slice (some ⟨b2, 0, none⟩) nB nB] 28) = w6 at *
        generalize w5.heap.size = b7 at *
        refine (HTC.out _ (HK4.out.step HK46.out)).mono ?_
        rintro e w7 ⟨q2, rfl, hq2, hk7⟩
        have HQ2 := Lib.hid hq2
        have HQB : Hid (w6.heap.size ≤ q2 ∧ q2 < w7.heap.size) := Lib.hid hq2.block
        have HC7 := Lib.hid (HC2.out.keeps hk7)
        have HK47 := Lib.hid (HK46.out.step hk7)
        have HB77 := Lib.hid (HB7.out.keeps hk7)
        have HZ7 := Lib.hid hk7.size
        clear hq2 hk7 HC2 HK46 HB7
        have c70 : w7.cell? ⟨b7, 0, none⟩ = some (.slice (some ⟨h2, 0, none⟩) nS nS) := HB77.out.cell 0
        have c71 : w7.cell? ⟨b7, 1, none⟩ = some (.slice (some ⟨a2, 0, none⟩) nA nA) := HB77.out.cell 1
        have c72 : w7.cell? ⟨b7, 2, none⟩ = some (.slice (some ⟨b2, 0, none⟩) nB nB) := HB77.out.cell 2
        go_wp2_with fail
        -- the program's answer
        refine (HIM.out _ _ h2 p12 a2 G12 p22 b2 G22 HC7.out _ q2 HQ2.out).mono ?_
        rintro e w9 ⟨rfl, hk8⟩
        have HC9 := Lib.hid (HC7.out.keeps hk8)
        have HQ9 := Lib.hid (HQ2.out.keeps hk8)
        have HK49 := Lib.hid (HK47.out.step hk8)
        have HB79 := Lib.hid (HB77.out.keeps hk8)
        clear hk8 HC7 HQ2 HK47 HB77 c70 c71 c72
        as_aux_lemma =>
          obtain ⟨x0, x1, x2⟩ := HAX.out w9 (HK4.out.step HK49.out)
          have c90 : w9.cell? ⟨b7, 0, none⟩ = some (.slice (some ⟨h2, 0, none⟩) nS nS) := HB79.out.cell 0
          have c91 : w9.cell? ⟨b7, 1, none⟩ = some (.slice (some ⟨a2, 0, none⟩) nA nA) := HB79.out.cell 1
          have c92 : w9.cell? ⟨b7, 2, none⟩ = some (.slice (some ⟨b2, 0, none⟩) nB nB) := HB79.out.cell 2
          go_wp2_with fail
          -- the argument is as it was
          go_region_held3 (fun w' => (w'.cell? ⟨w.heap.size, 0, none⟩ = some (.slice S nS cS) ∧ w'.cell? ⟨w.heap.size, 1, none⟩ = some (.slice A nA cA) ∧ w'.cell? ⟨w.heap.size, 2, none⟩ = some (.slice B nB cB)) ∧ (w'.cell? ⟨b7, 0, none⟩ = some (.slice (some ⟨h2, 0, none⟩) nS nS) ∧ w'.cell? ⟨b7, 1, none⟩ = some (.slice (some ⟨a2, 0, none⟩) nA nA) ∧ w'.cell? ⟨b7, 2, none⟩ = some (.slice (some ⟨b2, 0, none⟩) nB nB)) ∧ Keeps w9 w') (first | exact ⟨⟨cell_keeps hk10 q00, cell_keeps hk10 q01, cell_keeps hk10 q02⟩, ⟨cell_keeps hk10 q03, cell_keeps hk10 q04, cell_keeps hk10 q05⟩, qk.step hk10⟩ | exact ⟨⟨cell_keeps hk11 q00, cell_keeps hk11 q01, cell_keeps hk11 q02⟩, ⟨cell_keeps hk11 q03, cell_keeps hk11 q04, cell_keeps hk11 q05⟩, qk.step hk11⟩ | exact ⟨⟨x0, x1, x2⟩, ⟨c90, c91, c92⟩, Keeps.drew1 _⟩) (first | (go_at_call 9; obtain ⟨⟨q00, q01, q02⟩, ⟨q03, q04, q05⟩, qk⟩ : (_ ∧ _ ∧ _) ∧ (_ ∧ _ ∧ _) ∧ Keeps w9 _ := (by assumption); (with_reducible refine (HTV.out _ ((HK4.out.step HK49.out).step qk)).mono ?_); rintro e w10 ⟨h3, p13, a3, G13, p23, b3, G23, rfl, hc3, hk10⟩; have HC3 := Lib.hid (HCR.out _ _ _ _ _ _ _ _ _ hc3); clear hc3) | (go_at_call 13; obtain ⟨⟨q00, q01, q02⟩, ⟨q03, q04, q05⟩, qk⟩ : (_ ∧ _ ∧ _) ∧ (_ ∧ _ ∧ _) ∧ Keeps w9 _ := (by assumption); (refine (xRules_true (some ⟨h2, 0, none⟩) (some ⟨a2, 0, none⟩) (some ⟨b2, 0, none⟩) (some ⟨h3, 0, none⟩) (some ⟨a3, 0, none⟩) (some ⟨b3, 0, none⟩) nS nS nA nA nB nB nS nA nB s (fun i => (some ⟨G12 i, 0, none⟩, (rA i).2.1, (rA i).2.1)) (fun i => (some ⟨G22 i, 0, none⟩, (rB i).2.1, (rB i).2.1)) (fun i => (some ⟨G13 i, 0, none⟩, (rA i).2.1, (rA i).2.1)) (fun i => (some ⟨G23 i, 0, none⟩, (rB i).2.1, (rB i).2.1)) f g _ ((HCR.out _ _ _ _ _ _ _ _ _ HC9.out).keeps qk) HC3.out (fun _ _ => rfl) (fun _ _ => rfl)).mono ?_); rintro e w11 ⟨rfl, hk11⟩))
          have K11 := qk.step hk11
          have HC11 := Lib.hid (HC9.out.keeps K11)
          have HQ11 := Lib.hid (HQ9.out.keeps K11)
          have HB711 := Lib.hid (HB79.out.keeps K11)
          have HK411 := Lib.hid (HK49.out.step K11)
          clear q00 q01 q02 q03 q04 q05 qk hk10 hk11 HC3 x0 x1 x2 c90 c91 c92 K11 HC9 HQ9 HB79 HK49
          go_wp2_with fail
          refine (HTC.out _ (HK4.out.step HK411.out)).mono ?_
          rintro e w12 ⟨q3, rfl, hq3, hk12⟩
          have CI := Lib.hid (xInts_true (some ⟨q2, 0, none⟩) (some ⟨q3, 0, none⟩) nC nC nC y y w12 (by omega) (il_intsR (HQ11.out.keeps hk12)) (il_intsR hq3) (fun _ _ => rfl))
          have HK12 := Lib.hid hk12
          clear hq3 hk12
          go_wp2_with fail
          refine CI.out.mono ?_
          rintro e w13 ⟨rfl, hk13⟩
          have HKF := Lib.hid (HK1.out.step (HK4.out.step (HK411.out.step (HK12.out.step hk13))))
          clear hk13 HK12 CI
          go_wp2
          go_ret
          exact ⟨rfl, HKF.out⟩
end Go.Proofs.Ytknmbhlkppikpaa
