/-
  The walk of FnExactDecisionsAfter: whatever the run and the rounds are, it returns true, and nothing that was there turns. No condition.
-/
import Derived.Test.YtepgogaoppdllaaWExact
namespace Go.Proofs.Ytepgogaoppdllaa
open Go.RowKit

set_option maxRecDepth 100000 in
set_option maxHeartbeats 8000000 in
theorem FnExactDecisionsAfter_walk (A S : Option Addr) (n c m d : Nat) (x : Nat → Int) (st : Nat → Int × Int × Int) (r : Int) (w : World) (hI : Ints w A n x) (hS : Stops w S m st) (hn : n ≤ 9223372036854775807) (hm : m ≤ 9223372036854775807) :
    Calls Try.prog 11 #[.agg #[.slice A n c, .slice S m d], .int .i64 r] w fun e w' => e = .returned (.bool true) ∧ Keeps w w' := by
  have HI := Lib.hid hI
  have HS := Lib.hid hS
  clear hI hS
  go_enter Try.func11, Try.ntmps11
  go_wp2_with fail
  refine (szRun_any A S n c m d _ hn hm).mono ?_
  rintro e w1 ⟨rfl, hk1⟩
  have hBa := (Blk.new w #[.slice A n c, .slice S m d] 43).keeps hk1
  have hK1 := (Keeps.alloc w (.cells #[.slice A n c, .slice S m d] 43)).step hk1
  clear hk1
  have a10 : w1.cell? ⟨w.heap.size, 0, none⟩ = some (.slice A n c) := hBa.cell 0
  have a11 : w1.cell? ⟨w.heap.size, 1, none⟩ = some (.slice S m d) := hBa.cell 1
  have zBa := hBa.lt
  clear hBa
  by_cases hsz : szRunI n m < 0
  · generalize szRunI n m = z at *
    go_wp2
    go_ret
    exact ⟨rfl, hK1⟩
  · obtain ⟨hn2, hm2⟩ := szRunI_ok (show 0 ≤ szRunI n m by omega)
    generalize szRunI n m = z at *
    have HIW := Lib.hid HI.out
    have HSW := Lib.hid HS.out
    have HI1 := Lib.hid (HI.out.keeps hK1)
    have HS1 := Lib.hid (HS.out.keeps hK1)
    clear HI HS
    -- the reference's answer, of a copy
    go_wp2_with fail
    refine (toRun_any A S n c m d x st _ (by omega) (by omega) HI1.out HS1.out).mono ?_
    rintro e w2 ⟨g1, h1, z1, rfl, hO1, hZ1, hR1, hk2⟩
    have hi1 := ints_il hO1
    have hs1 := stops_of hZ1 hR1
    go_wp2_with fail
    refine (sdecisionsAfter_any _ _ n n m m r x st _ (by omega) (by omega) hi1 hs1).mono ?_
    intro e w3 hA
    obtain ⟨N, hN, hNe⟩ : ∃ N, N ≤ 1048576 ∧ (decL n x m st r).length = N := ⟨_, Nat.le_trans (decL_len n x m st r) hn2, rfl⟩
    obtain ⟨B, cb, rfl, hOw, hk3⟩ := hA
    have HFI : Hid (∀ w' e w'', Ans w' (decL n x m st r) e w'' → ∃ C cc, e = .returned (.slice C N cc) ∧ OwnInts w'' w'.heap.size C N cc (decL n x m st r) ∧ Keeps w' w'') := Lib.hid (fun w' e w'' h => by
      obtain ⟨C, cc, e1, e2, e3⟩ := h
      rw [hNe] at e1 e2
      exact ⟨C, cc, e1, e2, e3⟩)
    rw [hNe] at hOw ⊢
    have hK13 := hk2.step hk3
    have hz13 := hK13.size
    have a30 := cell_keeps hK13 a10
    have a31 := cell_keeps hK13 a11
    have HI3 := Lib.hid (HI1.out.keeps hK13)
    have HS3 := Lib.hid (HS1.out.keeps hK13)
    have hK3 := hK1.step hK13
    have hOw3 := hOw.mono (lo' := 0) (Nat.zero_le _)
    clear hi1 hs1 hO1 hZ1 hR1 hK13 hk2 hk3 hOw HI1 HS1 hK1 a10 a11 hNe
    -- the argument, a copy
    go_wp2_with fail
    refine (toRun_any A S n c m d x st _ (by omega) (by omega) HI3.out HS3.out).mono ?_
    rintro e w4 ⟨g2, h2, z2, rfl, hO2, hZ2, hR2, hk4⟩
    have a40 := cell_keeps hk4 a30
    have a41 := cell_keeps hk4 a31
    have hOw4 := hOw3.keeps hk4
    have hwb : ∀ k, B.map (·.block) = some k → k < w3.heap.size := fun k hk => (own_block hOw3 k hk).2
    have hg2 := hO2.block
    have hh2 := hZ2.block
    have kx := Keeps.alloc w4 (.cells #[.slice (some ⟨g2, 0, none⟩) n n, .slice (some ⟨h2, 0, none⟩) m m] 26)
    have hBx := Blk.new w4 #[.slice (some ⟨g2, 0, none⟩) n n, .slice (some ⟨h2, 0, none⟩) m m] 26
    have HI4 := Lib.hid (HI3.out.keeps hk4)
    have HS4 := Lib.hid (HS3.out.keeps hk4)
    have hK4 := hK3.step hk4
    have hz34 := hk4.size
    have hz03 := hK3.size
    clear HI3 HS3 hk4 hOw3 a30 a31
    go_wp2_with fail
    generalize hX : w4.heap.size = X at *
    have HX := Lib.hid hX
    clear hX
    refine (decisionsAfter_any _ _ n n m m r x st _ (by omega) (by omega) ((ints_il hO2).keeps kx) ((stops_of hZ2 hR2).keeps kx)).mono ?_
    intro e w5 hA
    obtain ⟨C, cc, rfl, hOg, hk5⟩ := HFI.out _ _ _ hA
    have hgb : ∀ k, C.map (·.block) = some k → X < k := fun k hk => by
      have := (own_block hOg k hk).1
      simp only [World.size_alloc, HX.out] at this
      omega
    have hOg5 := hOg.mono (lo' := X) (by simp [HX.out])
    have kk5 := kx.step hk5
    have hOw5 := hOw4.keeps kk5
    have hO25 := hO2.keeps kk5
    have hZ25 := hZ2.keeps kk5
    have hB5 : Blk w5 X 26 #[.slice (some ⟨g2, 0, none⟩) n n, .slice (some ⟨h2, 0, none⟩) m m] := hBx.keeps hk5
    have a50 := cell_keeps kk5 a40
    have a51 := cell_keeps kk5 a41
    have hK5 := hK4.step kk5
    have HI5 := Lib.hid (HI4.out.keeps kk5)
    have HS5 := Lib.hid (HS4.out.keeps kk5)
    clear hA hOg hOw4 hO2 hZ2 hBx a40 a41 HI4 HS4 hK4 kx hk5 kk5
    have x50 : w5.cell? ⟨X, 0, none⟩ = some (.slice (some ⟨g2, 0, none⟩) n n) := hB5.cell 0
    have x51 : w5.cell? ⟨X, 1, none⟩ = some (.slice (some ⟨h2, 0, none⟩) m m) := hB5.cell 1
    have HR2 := Lib.hid hR2
    have HOW := Lib.hid hOw5
    have HOG := Lib.hid hOg5
    have HO2 := Lib.hid hO25
    have HZ2 := Lib.hid hZ25
    have HBX := Lib.hid hB5
    have HWB := Lib.hid hwb
    have HGB := Lib.hid hgb
    clear hR2 hOw5 hOg5 hO25 hZ25 hB5 hwb hgb
    go_wp2_with fail
    refine (xOwn_true C B N cc cb _ _ (by omega) HOG.out HOW.out).mono ?_
    rintro e w6 ⟨rfl, hk6⟩
    have a60 := cell_keeps hk6 a50
    have a61 := cell_keeps hk6 a51
    have x60 := cell_keeps hk6 x50
    have x61 := cell_keeps hk6 x51
    have hK6 := hK5.step hk6
    have HI6 := Lib.hid (HI5.out.keeps hk6)
    have HS6 := Lib.hid (HS5.out.keeps hk6)
    have HOW6 := Lib.hid (HOW.out.keeps hk6)
    have HOG6 := Lib.hid (HOG.out.keeps hk6)
    have HO26 := Lib.hid (HO2.out.keeps hk6)
    have HZ26 := Lib.hid (HZ2.out.keeps hk6)
    have HBX6 := Lib.hid (HBX.out.keeps hk6)
    clear a50 a51 x50 x51 hK5 HI5 HS5 HOW HOG HO2 HZ2 HBX hk6
    -- the argument is as it was
    go_wp2_with fail
    go_region_held3 (fun w' => w'.cell? ⟨w.heap.size, 0, none⟩ = some (.slice A n c) ∧ w'.cell? ⟨w.heap.size, 1, none⟩ = some (.slice S m d) ∧ w'.cell? ⟨X, 0, none⟩ = some (.slice (some ⟨g2, 0, none⟩) n n) ∧ w'.cell? ⟨X, 1, none⟩ = some (.slice (some ⟨h2, 0, none⟩) m m) ∧ Keeps w6 w') (first | exact ⟨cell_keeps hk7 q0, cell_keeps hk7 q1, cell_keeps hk7 q2, cell_keeps hk7 q3, q4.step hk7⟩ | exact ⟨cell_keeps hk8 q0, cell_keeps hk8 q1, cell_keeps hk8 q2, cell_keeps hk8 q3, q4.step hk8⟩ | exact ⟨a60, a61, x60, x61, Keeps.drew1 _⟩) (first | (go_at_call 33; obtain ⟨q0, q1, q2, q3, q4⟩ : _ ∧ _ ∧ _ ∧ _ ∧ Keeps w6 _ := (by assumption); refine (toRun_any A S n c m d x st _ (by omega) (by omega) (HI6.out.keeps q4) (HS6.out.keeps q4)).mono ?_; rintro e w7 ⟨g3, h3, z3, rfl, hO3, hZ3, hR3, hk7⟩; have HO3 := Lib.hid (ints_il hO3); have HZ3 := Lib.hid (stops_of hZ3 hR3); clear hO3 hZ3 hR3) | (go_at_call 34; obtain ⟨q0, q1, q2, q3, q4⟩ : _ ∧ _ ∧ _ ∧ _ ∧ Keeps w6 _ := (by assumption); refine (xRun_true _ _ _ _ n n n m m m x x st st _ (by omega) (by omega) ((ints_il HO26.out).keeps q4) HO3.out (fun _ _ => rfl) ((stops_of HZ26.out HR2.out).keeps q4) HZ3.out (fun _ _ => rfl)).mono ?_; rintro e w8 ⟨rfl, hk8⟩))
    have K8 := q4.step hk8
    have a80 := cell_keeps K8 a60
    have a81 := cell_keeps K8 a61
    have x80 := cell_keeps K8 x60
    have x81 := cell_keeps K8 x61
    have hK8 := hK6.step K8
    have HI8 := Lib.hid (HI6.out.keeps K8)
    have HS8 := Lib.hid (HS6.out.keeps K8)
    have HOW8 := Lib.hid (HOW6.out.keeps K8)
    have HOG8 := Lib.hid (HOG6.out.keeps K8)
    have HO28 := Lib.hid (HO26.out.keeps K8)
    have HZ28 := Lib.hid (HZ26.out.keeps K8)
    clear q0 q1 q2 q3 q4 hk7 hk8 HO3 HZ3 a60 a61 x60 x61 hK6 HI6 HS6 HOW6 HOG6 HO26 HZ26 HBX6 K8
    -- marks in the argument
    go_wp2_with fail
    refine (markRun_any _ g2 h2 n n m m _ z2 _ (by omega) (by omega) HO28.out HZ28.out).mono ?_
    rintro e w9 ⟨rfl, hT⟩
    have hT : Two w8 g2 h2 w9 := hT
    have hOw9 := hT.own HOW8.out (fun k hk => by have := HWB.out k hk; omega)
    have hOg9 := hT.own HOG8.out (fun k hk => by have := HGB.out k hk; omega)
    have hgw : w.heap.size ≤ g2 := by omega
    have hhw : w.heap.size ≤ h2 := by omega
    have a90 := hT.cell a80 (by simp; omega) (by simp; omega)
    have a91 := hT.cell a81 (by simp; omega) (by simp; omega)
    have hK9 := hT.keeps hK8 hgw hhw
    have hz3 : w3.heap.size ≤ g2 := by omega
    have hI9 : Ints w9 A n x := HIW.out.keeps hK9
    have hS9 : Stops w9 S m st := HSW.out.keeps hK9
    have HI9 := Lib.hid hI9
    have HS9 := Lib.hid hS9
    have HOW9 := Lib.hid hOw9
    have HOG9 := Lib.hid hOg9
    clear hT hOw9 hOg9 hI9 hS9 HOW8 HOG8 HO28 HZ28 HI8 HS8 hK8 a80 a81 x80 x81
    go_wp2_with fail
    refine (xOwn_true C B N cc cb _ _ (by omega) HOG9.out HOW9.out).mono ?_
    rintro e w10 ⟨rfl, hk10⟩
    have b0 := cell_keeps hk10 a90
    have b1 := cell_keeps hk10 a91
    have hK10 := hK9.step hk10
    have HOW10 := Lib.hid (HOW9.out.keeps hk10)
    have HOG10 := Lib.hid (HOG9.out.keeps hk10)
    clear a90 a91 hK9 HI9 HS9 HOW9 HOG9 hk10
    -- marks in the answer
    go_wp2_with fail
    refine (markInts_any X C N cc _ 1 _ (by omega) (by omega) (by omega) HOG10.out).mono ?_
    rintro e w11 ⟨rfl, hOm, hG11⟩
    have hne11 : ∀ k, C.map (·.block) = some k → k ≠ w.heap.size := fun k hk => by have := HGB.out k hk; omega
    have d0 := World.grownBy.cell hG11 b0 (fun e => hne11 _ e.symm rfl)
    have d1 := World.grownBy.cell hG11 b1 (fun e => hne11 _ e.symm rfl)
    have hOw11 : OwnInts w11 0 B N cb (decL n x m st r) := own_kept HOW10.out hG11 (fun k hk e => by have h1 := HWB.out k hk; have h2 := HGB.out k e; omega)
    have hK11 := hK10.grown HOG10.out (by omega) hG11
    have HOM := Lib.hid hOm
    have HOW11 := Lib.hid hOw11
    clear hOm hOw11 hG11 hne11 b0 b1 hK10 HOW10 HOG10
    go_wp2_with fail
    refine (heldInts_any X C N cc 1 _ (by omega) (by omega) (by omega) HOM.out).mono ?_
    rintro e w12 ⟨rfl, hk12⟩
    have e0 := cell_keeps hk12 d0
    have e1 := cell_keeps hk12 d1
    have hK12 := hK11.step hk12
    have HOM12 := Lib.hid (HOM.out.keeps hk12)
    have HOW12 := Lib.hid (HOW11.out.keeps hk12)
    have HI12 := Lib.hid (HIW.out.keeps hK12)
    have HS12 := Lib.hid (HSW.out.keeps hK12)
    have hne2 : ((1 : Int) + N != 1 + N) = false := by simp
    clear d0 d1 hK11 HOM HOW11 hk12
    -- once more, of a new copy
    go_wp2_with fail
    refine (toRun_any A S n c m d x st _ (by omega) (by omega) HI12.out HS12.out).mono ?_
    rintro e w13 ⟨g4, h4, z4, rfl, hO4, hZ4, hR4, hk13⟩
    have hi4 := ints_il hO4
    have hs4 := stops_of hZ4 hR4
    clear hO4 hZ4 hR4
    go_wp2_with fail
    refine (decisionsAfter_any _ _ n n m m r x st _ (by omega) (by omega) hi4 hs4).mono ?_
    intro e w14 hA
    obtain ⟨D, cd, rfl, hOh, hk14⟩ := HFI.out _ _ _ hA
    have kk14 := hk13.step hk14
    have hK14 := hK12.step kk14
    have HOM14 := Lib.hid (HOM12.out.keeps kk14)
    have HOW14 := Lib.hid (HOW12.out.keeps kk14)
    have HOH := Lib.hid hOh
    clear hA hOh hk13 hk14 kk14 hi4 hs4 e0 e1 hK12 HOM12 HOW12 HI12 HS12
    go_wp2_with fail
    refine (xOwn_true D B N cd cb _ _ (by omega) HOH.out HOW14.out).mono ?_
    rintro e w15 ⟨rfl, hk15⟩
    have HOM15 := Lib.hid (HOM14.out.keeps hk15)
    have hK15 := hK14.step hk15
    clear hK14 HOM14 HOW14 HOH hk15
    go_wp2_with fail
    refine (heldInts_any X C N cc 1 _ (by omega) (by omega) (by omega) HOM15.out).mono ?_
    rintro e w16 ⟨rfl, hk16⟩
    go_wp2
    go_ret
    exact ⟨rfl, hK15.step hk16⟩
end Go.Proofs.Ytepgogaoppdllaa
