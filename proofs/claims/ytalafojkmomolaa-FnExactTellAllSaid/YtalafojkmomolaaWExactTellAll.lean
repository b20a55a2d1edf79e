/-
  The walk of FnExactTellAll: whatever the view and the set are, it returns true, and nothing that was there turns. Condition: bounds on lengths.
-/
import Derived.Test.YtalafojkmomolaaTellX
namespace Go.Proofs.Ytalafojkmomolaa
open Go.RowKit

set_option maxRecDepth 100000 in
set_option maxHeartbeats 8000000 in
theorem FnExactTellAll_walk (A : Option Addr) (n c : Nat) (W s : Int) (r : Nat → Option Addr × Nat × Nat) (x : Nat → Nat → Int) (w : World) (hR : Rows w A n r x) (hn : n ≤ 9223372036854775807) (hl : ∀ i, i < n → (r i).2.1 ≤ 9223372036854775807) :
    Calls Try.prog 5 #[.agg #[.int .i64 W, .slice A n c], .int .i64 s] w fun e w' => e = .returned (.bool true) ∧ Keeps w w' := by
  have HR := Lib.hid hR
  have HL := Lib.hid hl
  clear hR hl
  go_enter Try.func5, Try.ntmps5
  go_wp2_with fail
  refine (szView_any A n c W r x _ hn (HR.out.keeps (Keeps.alloc w (.cells #[.int .i64 W, .slice A n c] 32))) HL.out).mono ?_
  rintro e w1 ⟨⟨v, rfl, hv⟩, hk1⟩
  have hBa := (Blk.new w #[.int .i64 W, .slice A n c] 32).keeps hk1
  have hK1 := (Keeps.alloc w (.cells #[.int .i64 W, .slice A n c] 32)).step hk1
  clear hk1
  have a10 : w1.cell? ⟨w.heap.size, 0, none⟩ = some (.int .i64 W) := hBa.cell 0
  have a11 : w1.cell? ⟨w.heap.size, 1, none⟩ = some (.slice A n c) := hBa.cell 1
  have zBa := hBa.lt
  clear hBa
  by_cases hsz : v < 0
  · clear hv
    go_wp2
    go_ret
    exact ⟨rfl, hK1⟩
  · have hn2 : n ≤ 1048576 := by omega
    have hs2 : sumTo (fun i => (r i).2.1) n ≤ 1048576 := by omega
    have HL2 : Hid (∀ i, i < n → (r i).2.1 ≤ 1048576) := Lib.hid (fun i hi => Nat.le_trans (sumTo_one (fun i => (r i).2.1) n i hi) hs2)
    have HS2 := Lib.hid hs2
    obtain ⟨V, N, Ln, X, hN, hLs, hsp, him⟩ := tell_ans n r x W s (by omega) (fun i hi => by have := HL2.out i hi; omega)
    have HSP := Lib.hid hsp
    have HIM := Lib.hid him
    have HLS := Lib.hid hLs
    have HTV : Hid (∀ w', Keeps w1 w' → Calls Try.prog 18 #[.agg #[.int .i64 W, .slice A n c]] w' fun e w'' => ∃ (g : Nat) (G : Nat → Nat), e = .returned (.agg #[.int .i64 W, .slice (some ⟨g, 0, none⟩) n n]) ∧ OwnMat w'' w'.heap.size (some ⟨g, 0, none⟩) n n (fun i => some ⟨G i, 0, none⟩) (fun i => (r i).2.1) (fun i => (r i).2.1) x ∧ Keeps w' w'') :=
      Lib.hid (fun w' hk => toView_any A n c W r x w' (by omega) (HR.out.keeps (hK1.step hk)) (fun i hi => by have := HL2.out i hi; omega))
    clear hsp him hLs hv HL hs2 HR
    -- the reference's answer, of a copy
    go_wp2_with fail
    refine (HTV.out _ (Keeps.refl _)).mono ?_
    rintro e w2 ⟨g1, G1, rfl, hO1, hk2⟩
    have HO1 := Lib.hid hO1
    clear hO1
    go_wp2_with fail
    refine (HSP.out _ _ (fun i => (some ⟨G1 i, 0, none⟩, (r i).2.1, (r i).2.1)) _ (fun _ => rfl) HO1.out.rows).mono ?_
    rintro e w3 ⟨B, cb, r0, rfl, hB, hrl, hk3⟩
    have HRL := Lib.hid hrl
    have hB6 := Blk.new w3 #[.int .i64 V, .slice B N cb] 25
    have kB := Keeps.alloc w3 (.cells #[.int .i64 V, .slice B N cb] 25)
    have HB4 := Lib.hid (hB.keeps kB)
    have k14 := (hk2.step hk3).step kB
    have a40 := cell_keeps k14 a10
    have a41 := cell_keeps k14 a11
    have hK4 := hK1.step k14
    have z4 := k14.size
    clear hrl hB hk2 hk3 HO1 a10 a11
    go_wp2_with fail
    generalize hb6 : w3.heap.size = b6 at *
    generalize hw4 : w3.alloc (.cells #[.int .i64 V, .slice B N cb] 25) = w4 at *
    have b60 : w4.cell? ⟨b6, 0, none⟩ = some (.int .i64 V) := hB6.cell 0
    have b61 : w4.cell? ⟨b6, 1, none⟩ = some (.slice B N cb) := hB6.cell 1
    have z6 := hB6.lt
    clear hw4 hb6 hB6 kB
    -- the argument, a copy
    refine (HTV.out _ k14).mono ?_
    rintro e w5 ⟨g2, G2, rfl, hO2, hk5⟩
    have kB := Keeps.alloc w5 (.cells #[.int .i64 W, .slice (some ⟨g2, 0, none⟩) n n] 25)
    have hB7 := Blk.new w5 #[.int .i64 W, .slice (some ⟨g2, 0, none⟩) n n] 25
    have HX : Hid (∀ i, i < n → ∀ d, (some (⟨G2 i, 0, none⟩ : Addr)).map (·.block) = some d → d < w5.heap.size) := Lib.hid (fun i hi d hd => (hO2.rblo i hi d hd).2)
    have k46 := hk5.step kB
    have HO6 := Lib.hid (hO2.keeps kB)
    have a60 := cell_keeps k46 a40
    have a61 := cell_keeps k46 a41
    have b60' := cell_keeps k46 b60
    have b61' := cell_keeps k46 b61
    have z5 := k46.size
    have z45 := hk5.size
    clear hO2 hk5 a40 a41 b60 b61
    go_wp2_with fail
    generalize hb7 : w5.heap.size = b7 at *
    generalize hw6 : w5.alloc (.cells #[.int .i64 W, .slice (some ⟨g2, 0, none⟩) n n] 25) = w6 at *
    have c60 : w6.cell? ⟨b7, 0, none⟩ = some (.int .i64 W) := hB7.cell 0
    have c61 : w6.cell? ⟨b7, 1, none⟩ = some (.slice (some ⟨g2, 0, none⟩) n n) := hB7.cell 1
    have z7 := hB7.lt
    clear hw6 hb7 hB7 kB
    go_wp2_with fail
    -- the program's answer
    refine (HIM.out _ _ (fun i => (some ⟨G2 i, 0, none⟩, (r i).2.1, (r i).2.1)) _ (fun _ => rfl) HO6.out.rows).mono ?_
    rintro e w7 ⟨B8, c8, A8, Cp8, rfl, hO8, hk7⟩
    have kB := Keeps.alloc w7 (.cells #[.int .i64 V, .slice B8 N c8] 25)
    have hB8 := Blk.new w7 #[.int .i64 V, .slice B8 N c8] 25
    have HG8 : Hid (∀ i, i < N → ∀ d, (A8 i).map (·.block) = some d → w6.heap.size ≤ d ∧ d < w7.heap.size) := Lib.hid hO8.rblo
    have HT8 : Hid (∀ d, B8.map (·.block) = some d → w6.heap.size ≤ d) := Lib.hid (fun d hd => (hO8.blo d hd).1)
    have k68 := hk7.step kB
    have HG := Lib.hid (hO8.keeps kB)
    have HO8 := Lib.hid (HO6.out.keeps k68)
    have a80 := cell_keeps k68 a60
    have a81 := cell_keeps k68 a61
    have b80 := cell_keeps k68 b60'
    have b81 := cell_keeps k68 b61'
    have c80 := cell_keeps k68 c60
    have c81 := cell_keeps k68 c61
    have z67 := hk7.size
    have k48 := k46.step k68
    have HB8 := Lib.hid (HB4.out.keeps k48)
    clear hO8 hk7 a60 a61 b60' b61' c60 c61 HO6 k46 k68
    go_wp2_with fail
    generalize hb8 : w7.heap.size = b8 at *
    generalize hw8 : w7.alloc (.cells #[.int .i64 V, .slice B8 N c8] 25) = w8 at *
    have d80 : w8.cell? ⟨b8, 0, none⟩ = some (.int .i64 V) := hB8.cell 0
    have d81 : w8.cell? ⟨b8, 1, none⟩ = some (.slice B8 N c8) := hB8.cell 1
    have z8 := hB8.lt
    clear hw8 hb8 hB8 kB
    go_wp2_with fail
    refine (xMat_true B8 B N c8 cb V r0 _ hN HLS.out HG.out HB8.out HRL.out).mono ?_
    rintro e w9 ⟨rfl, hk9⟩
    have a90 := cell_keeps hk9 a80
    have a91 := cell_keeps hk9 a81
    have b90 := cell_keeps hk9 b80
    have b91 := cell_keeps hk9 b81
    have c90 := cell_keeps hk9 c80
    have c91 := cell_keeps hk9 c81
    have d90 := cell_keeps hk9 d80
    have d91 := cell_keeps hk9 d81
    have k49 := k48.step hk9
    have HG9 := Lib.hid (HG.out.keeps hk9)
    have HO9 := Lib.hid (HO8.out.keeps hk9)
    have KT := Lib.hid (k14.step k49)
    clear a80 a81 b80 b81 c80 c81 d80 d81 HG HO8 HB8 k48 hk9
    go_wp2_with fail
    -- the argument is as it was
    go_region_held3 (fun w' => w'.cell? ⟨w.heap.size, 0, none⟩ = some (.int .i64 W) ∧ w'.cell? ⟨w.heap.size, 1, none⟩ = some (.slice A n c) ∧ w'.cell? ⟨b7, 0, none⟩ = some (.int .i64 W) ∧ w'.cell? ⟨b7, 1, none⟩ = some (.slice (some ⟨g2, 0, none⟩) n n) ∧ Keeps w9 w') (first | exact ⟨cell_keeps hk10 q0, cell_keeps hk10 q1, cell_keeps hk10 q2, cell_keeps hk10 q3, q4.step hk10⟩ | exact ⟨cell_keeps hk11 q0, cell_keeps hk11 q1, cell_keeps hk11 q2, cell_keeps hk11 q3, q4.step hk11⟩ | exact ⟨a90, a91, c90, c91, Keeps.drew1 _⟩) (first | (go_at_call 18; obtain ⟨q0, q1, q2, q3, q4⟩ : _ ∧ _ ∧ _ ∧ _ ∧ Keeps w9 _ := (by assumption); refine (HTV.out _ (KT.out.step q4)).mono ?_; rintro e w10 ⟨g3, G3, rfl, hO3, hk10⟩; have HO3 := Lib.hid hO3.rows; clear hO3) | (go_at_call 20; obtain ⟨q0, q1, q2, q3, q4⟩ : _ ∧ _ ∧ _ ∧ _ ∧ Keeps w9 _ := (by assumption); refine (xMat_true _ _ n n n W _ _ hn2 HS2.out (HO9.out.keeps q4) HO3.out (fun _ _ => rfl)).mono ?_; rintro e w11 ⟨rfl, hk11⟩))
    have K11 := q4.step hk11
    have a0 := cell_keeps K11 a90
    have a1 := cell_keeps K11 a91
    have b0 := cell_keeps K11 b90
    have b1 := cell_keeps K11 b91
    have c0 := cell_keeps K11 c90
    have c1 := cell_keeps K11 c91
    have d0 := cell_keeps K11 d90
    have d1 := cell_keeps K11 d91
    have HG11 := Lib.hid (HG9.out.keeps K11)
    have HO11 := Lib.hid (HO9.out.keeps K11)
    have k4 := k49.step K11
    clear q0 q1 q2 q3 q4 hk10 hk11 HO3 a90 a91 b90 b91 c90 c91 d90 d91 HG9 HO9 KT K11 k49
    -- marks in the argument
    go_wp2_with fail
    refine (markView_any w4.heap.size b7 n n W _ _ _ _ _ _ hn2 HS2.out HO11.out HX.out).mono ?_
    rintro e w12 ⟨rfl, _, hM⟩
    have a2 := hM.cell a0 (.inl (by simp; omega))
    have a3 := hM.cell a1 (.inl (by simp; omega))
    have b2 := hM.cell b0 (.inl (by simp; omega))
    have b3 := hM.cell b1 (.inl (by simp; omega))
    have d2 := hM.cell d0 (.inr (by simp; omega))
    have d3 := hM.cell d1 (.inr (by simp; omega))
    have HG12 := Lib.hid (HG11.out.mid hM (fun k hk => .inr (by have := HT8.out k hk; omega)) (fun i hi k hk => .inr (by have := (HG8.out i hi k hk).1; omega)))
    have k412 := hM.keeps k4 (Nat.le_refl _)
    have HB12 := Lib.hid (HB4.out.keeps k412)
    clear hM a0 a1 b0 b1 c0 c1 d0 d1 HG11 HO11 k4 HX
    clear HS2
    generalize sumTo (fun i => (r i).2.1) n = S1 at *
    go_wp2_with fail
    refine (xMat_true B8 B N c8 cb V r0 _ hN HLS.out HG12.out HB12.out HRL.out).mono ?_
    rintro e w13 ⟨rfl, hk13⟩
    have a4 := cell_keeps hk13 a2
    have a5 := cell_keeps hk13 a3
    have b4 := cell_keeps hk13 b2
    have b5 := cell_keeps hk13 b3
    have d4 := cell_keeps hk13 d2
    have d5 := cell_keeps hk13 d3
    have HG13 := Lib.hid (HG12.out.keeps hk13)
    have k413 := k412.step hk13
    have z13 := hk13.size
    clear a2 a3 b2 b3 d2 d3 HG12 hk13 k412 HB12
    -- marks in the answer
    go_wp2_with fail
    refine (markView_any w6.heap.size b8 N c8 V _ _ _ _ _ _ hN HLS.out HG13.out (fun i hi d hd => (HG8.out i hi d hd).2)).mono ?_
    rintro e w14 ⟨rfl, hO14, hM⟩
    have HM := Lib.hid hO14
    have a6 := hM.cell a4 (.inl (by simp; omega))
    have a7 := hM.cell a5 (.inl (by simp; omega))
    have b6' := hM.cell b4 (.inl (by simp; omega))
    have b7' := hM.cell b5 (.inl (by simp; omega))
    have d6 := hM.cell d4 (.inr (by simp))
    have d7 := hM.cell d5 (.inr (by simp))
    have k414 := hM.keeps k413 (by omega)
    clear hM hO14 a4 a5 b4 b5 d4 d5 HG13 k413
    generalize hS2 : sumTo Ln N = S2 at *
    have HS2 := Lib.hid hS2
    clear hS2
    have hne2 : ((1 : Int) + S2 != 1 + S2) = false := by simp
    go_wp2_with fail
    refine (heldView_any _ N c8 V _ _ _ _ _ hN (by rw [HS2.out]; exact HLS.out) HM.out).mono ?_
    rw [HS2.out]
    rintro e w15 ⟨rfl, hk15⟩
    have a8 := cell_keeps hk15 a6
    have a9 := cell_keeps hk15 a7
    have b8' := cell_keeps hk15 b6'
    have b9 := cell_keeps hk15 b7'
    have d8 := cell_keeps hk15 d6
    have d9 := cell_keeps hk15 d7
    have HM15 := Lib.hid (HM.out.keeps hk15)
    have k415 := k414.step hk15
    clear a6 a7 b6' b7' d6 d7 HM hk15 k414
    -- once more, of a new copy
    go_wp2_with fail
    refine (HTV.out _ (k14.step k415)).mono ?_
    rintro e w16 ⟨g4, G4, rfl, hO4, hk16⟩
    have HO4 := Lib.hid hO4
    clear hO4
    go_wp2_with fail
    refine (HIM.out _ _ (fun i => (some ⟨G4 i, 0, none⟩, (r i).2.1, (r i).2.1)) _ (fun _ => rfl) HO4.out.rows).mono ?_
    rintro e w17 ⟨B9, c9, A9, Cp9, rfl, hO9, hk17⟩
    have kB := Keeps.alloc w17 (.cells #[.int .i64 V, .slice B9 N c9] 25)
    have hB9 := Blk.new w17 #[.int .i64 V, .slice B9 N c9] 25
    have k18 := (hk16.step hk17).step kB
    have HN := Lib.hid (hO9.keeps kB)
    have HM18 := Lib.hid (HM15.out.keeps k18)
    have b1 := cell_keeps k18 b8'
    have b2 := cell_keeps k18 b9
    have d1 := cell_keeps k18 d8
    have d2 := cell_keeps k18 d9
    have k418 := k415.step k18
    have HB18 := Lib.hid (HB4.out.keeps k418)
    clear hO9 hk16 hk17 HO4 HM15 a8 a9 b8' b9 d8 d9 k415 k18
    go_wp2_with fail
    generalize hb9 : w17.heap.size = b9 at *
    generalize hw18 : w17.alloc (.cells #[.int .i64 V, .slice B9 N c9] 25) = w18 at *
    have e1 : w18.cell? ⟨b9, 0, none⟩ = some (.int .i64 V) := hB9.cell 0
    have e2 : w18.cell? ⟨b9, 1, none⟩ = some (.slice B9 N c9) := hB9.cell 1
    have z9 := hB9.lt
    clear hw18 hb9 hB9 kB
    go_wp2_with fail
    refine (xMat_true B9 B N c9 cb V r0 _ hN (by rw [HS2.out]; exact HLS.out) HN.out HB18.out HRL.out).mono ?_
    rintro e w19 ⟨rfl, hk19⟩
    have d3 := cell_keeps hk19 d1
    have d4 := cell_keeps hk19 d2
    have HM19 := Lib.hid (HM18.out.keeps hk19)
    have k419 := k418.step hk19
    clear HN HB18 HM18 k418 d1 d2 b1 b2 e1 e2
    go_wp2_with fail
    refine (heldView_any _ N c8 V _ _ _ _ _ hN (by rw [HS2.out]; exact HLS.out) HM19.out).mono ?_
    rw [HS2.out]
    rintro e w20 ⟨rfl, hk20⟩
    have kF := hK4.step (k419.step hk20)
    go_wp2
    go_ret
    exact ⟨rfl, kF⟩
end Go.Proofs.Ytalafojkmomolaa
