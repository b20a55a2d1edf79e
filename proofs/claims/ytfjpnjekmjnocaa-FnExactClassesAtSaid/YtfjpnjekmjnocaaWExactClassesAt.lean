/-
  The walk of FnExactClassesAt: whatever the net is, it returns true, and nothing that was there turns. Condition: bounds on lengths.
-/
import Derived.Test.YtfjpnjekmjnocaaExactNet
import Derived.Test.YtfjpnjekmjnocaaSettle
namespace Go.Proofs.Ytfjpnjekmjnocaa
open Go.RowKit

set_option maxRecDepth 100000 in
set_option maxHeartbeats 8000000 in
theorem FnExactClassesAt_walk (A B : Option Addr) (n c mm d : Nat) (s : Int) (r : Nat → Option Addr × Nat × Nat) (x : Nat → Nat → Int) (y : Nat → Int) (w : World) (hR : Rows w A n r x) (hn : n ≤ 9223372036854775807) (hl : ∀ i, i < n → (r i).2.1 ≤ 9223372036854775807) (hY : Ints w B mm y) (hm : mm ≤ 9223372036854775807) :
    Calls Try.prog 9 #[.agg #[.slice A n c, .slice B mm d], .int .i64 s] w fun e w' => e = .returned (.bool true) ∧ Keeps w w' := by
  have HR := Lib.hid hR
  have HL := Lib.hid hl
  have HY := Lib.hid hY
  clear hR hl hY
  go_enter Try.func9, Try.ntmps9
  go_wp2_with fail
  refine (szNet_any A B n c mm d r x _ hn (HR.out.keeps (Keeps.alloc w (.cells #[.slice A n c, .slice B mm d] 25))) HL.out hm).mono ?_
  rintro e w1 ⟨⟨v, rfl, hv⟩, hk1⟩
  have hBa := (Blk.new w #[.slice A n c, .slice B mm d] 25).keeps hk1
  have hK1 := (Keeps.alloc w (.cells #[.slice A n c, .slice B mm d] 25)).step hk1
  clear hk1
  have a10 : w1.cell? ⟨w.heap.size, 0, none⟩ = some (.slice A n c) := hBa.cell 0
  have a11 : w1.cell? ⟨w.heap.size, 1, none⟩ = some (.slice B mm d) := hBa.cell 1
  have zBa := hBa.lt
  clear hBa
  by_cases hsz : v < 0
  · clear hv
    go_wp2
    go_ret
    exact ⟨rfl, hK1⟩
  · have hn2 : n ≤ 1048576 := by omega
    have hm2 : mm ≤ 1048576 := by omega
    have hs2 : sumTo (fun i => (r i).2.1) n ≤ 1048576 := by omega
    have HL2 : Hid (∀ i, i < n → (r i).2.1 ≤ 1048576) := Lib.hid (fun i hi => Nat.le_trans (sumTo_one (fun i => (r i).2.1) n i hi) hs2)
    have HTV : Hid (∀ w', Keeps w1 w' → Calls Try.prog 13 #[.agg #[.slice A n c, .slice B mm d]] w' (CopyNet n mm (fun i => (r i).2.1) x y w')) :=
      Lib.hid (fun w' hk => toNet_any A B n c mm d r x y w' (by omega) (HR.out.keeps (hK1.step hk)) (fun i hi => by have := HL2.out i hi; omega) (by omega) (HY.out.keeps (hK1.step hk)))
    have HNA : Hid (∀ (w' : World) (lo h g : Nat) (G : Nat → Nat), OwnMat w' lo (some ⟨g, 0, none⟩) n n (fun i => some ⟨G i, 0, none⟩) (fun i => (r i).2.1) (fun i => (r i).2.1) x → OwnInts w' lo (some ⟨h, 0, none⟩) mm mm (il mm y) → NetAt w' (some ⟨g, 0, none⟩) n (fun i => (some ⟨G i, 0, none⟩, (r i).2.1, (r i).2.1)) (some ⟨h, 0, none⟩) mm (fun i => (r i).2.1) x y) :=
      Lib.hid (fun w' lo h g G hO hI => copy_netAt hO hI (by omega) (by omega) (fun i hi => by have := HL2.out i hi; omega))
    obtain ⟨N, hN, hNe⟩ : ∃ N, N ≤ 1048576 ∧ (clsL n (fun i => (r i).2.1) x mm y s).length = N := ⟨_, by have := clsL_len n (fun i => (r i).2.1) x mm y s; omega, rfl⟩
    obtain ⟨V, hV⟩ : ∃ V, V = clsL n (fun i => (r i).2.1) x mm y s := ⟨_, rfl⟩
    have HLN : Hid (V.length = N) := Lib.hid (by rw [hV]; exact hNe)
    have HSP : Hid (∀ (w' : World) (lo h g : Nat) (G : Nat → Nat), OwnMat w' lo (some ⟨g, 0, none⟩) n n (fun i => some ⟨G i, 0, none⟩) (fun i => (r i).2.1) (fun i => (r i).2.1) x → OwnInts w' lo (some ⟨h, 0, none⟩) mm mm (il mm y) → Calls Try.prog 30 #[.agg #[.slice (some ⟨g, 0, none⟩) n n, .slice (some ⟨h, 0, none⟩) mm mm], .int .i64 s] w' fun e w'' => ∃ C cc, e = .returned (.slice C N cc) ∧ OwnInts w'' w'.heap.size C N cc V ∧ Keeps w' w'') :=
      Lib.hid (fun w' lo h g G hO hI => (sClassesAt_any _ _ n n mm mm _ _ x y s w' (HNA.out w' lo h g G hO hI)).mono (fun e w'' hA => by obtain ⟨C, cc, e1, e2, e3⟩ := hA; rw [hNe] at e1; rw [hNe, ← hV] at e2; exact ⟨C, cc, e1, e2, e3⟩))
    have HIM : Hid (∀ (w' : World) (lo h g : Nat) (G : Nat → Nat), OwnMat w' lo (some ⟨g, 0, none⟩) n n (fun i => some ⟨G i, 0, none⟩) (fun i => (r i).2.1) (fun i => (r i).2.1) x → OwnInts w' lo (some ⟨h, 0, none⟩) mm mm (il mm y) → Calls Try.prog 31 #[.agg #[.slice (some ⟨g, 0, none⟩) n n, .slice (some ⟨h, 0, none⟩) mm mm], .int .i64 s] w' fun e w'' => ∃ C cc, e = .returned (.slice C N cc) ∧ OwnInts w'' w'.heap.size C N cc V ∧ Keeps w' w'') :=
      Lib.hid (fun w' lo h g G hO hI => (iClassesAt_any _ _ n n mm mm _ _ x y s w' (HNA.out w' lo h g G hO hI)).mono (fun e w'' hA => by obtain ⟨C, cc, e1, e2, e3⟩ := hA; rw [hNe] at e1; rw [hNe, ← hV] at e2; exact ⟨C, cc, e1, e2, e3⟩))
    have HS2 := Lib.hid hs2
    clear hv hs2 hV hNe HL HR HY
    -- the reference's answer, of a copy
    go_wp2_with fail
    refine (HTV.out _ (Keeps.refl _)).mono ?_
    rintro e w2 ⟨g1, G1, h1, rfl, hO1, hI1, hGh1, hk2⟩
    have HO1 := Lib.hid hO1
    have HI1 := Lib.hid hI1
    clear hO1 hI1 hGh1
    go_wp2_with fail
    refine (HSP.out _ _ h1 g1 G1 HO1.out HI1.out).mono ?_
    rintro e w3 ⟨B0, cb, rfl, hOw, hk3⟩
    have HOW3 := Lib.hid hOw
    have HWB : Hid (∀ k, B0.map (·.block) = some k → k < w3.heap.size) := Lib.hid (fun k hk => (own_block hOw k hk).2)
    have k13 := hk2.step hk3
    have a30 := cell_keeps k13 a10
    have a31 := cell_keeps k13 a11
    have zw3 : w.heap.size < w3.heap.size := World.block_lt_of_cell? _ _ a30
    have zw13 := k13.size
    clear hOw hk2 hk3 HO1 HI1 a10 a11
    go_wp2_with fail
    -- the argument, a copy
    refine (HTV.out _ k13).mono ?_
    rintro e w5 ⟨g2, G2, h2, rfl, hO2, hI2, hGh2, hk5⟩
    have kB := Keeps.alloc w5 (.cells #[.slice (some ⟨g2, 0, none⟩) n n, .slice (some ⟨h2, 0, none⟩) mm mm] 28)
    have hB7 := Blk.new w5 #[.slice (some ⟨g2, 0, none⟩) n n, .slice (some ⟨h2, 0, none⟩) mm mm] 28
    have k36 := hk5.step kB
    have HGH := Lib.hid hGh2
    have HHI : Hid (h2 < w5.heap.size) := Lib.hid hI2.block.2
    have hz35 := hk5.size
    have HOW6 := Lib.hid (HOW3.out.keeps k36)
    have HO6 := Lib.hid (hO2.keeps kB)
    have HI6 := Lib.hid (hI2.keeps kB)
    have a60 := cell_keeps k36 a30
    have a61 := cell_keeps k36 a31
    have k16 := k13.step k36
    have z5 := k36.size
    clear hO2 hI2 hGh2 hk5 a30 a31 k13 k36
    go_wp2_with fail
    generalize hb7 : w5.heap.size = b7 at *
    generalize hw6 : w5.alloc (.cells #[.slice (some ⟨g2, 0, none⟩) n n, .slice (some ⟨h2, 0, none⟩) mm mm] 28) = w6 at *
    have c60 : w6.cell? ⟨b7, 0, none⟩ = some (.slice (some ⟨g2, 0, none⟩) n n) := hB7.cell 0
    have c61 : w6.cell? ⟨b7, 1, none⟩ = some (.slice (some ⟨h2, 0, none⟩) mm mm) := hB7.cell 1
    have z7 := hB7.lt
    clear hw6 hb7 hB7 kB
    go_wp2_with fail
    have zw6 : w.heap.size < w6.heap.size := World.block_lt_of_cell? _ _ a60
    have zw16 := k16.size
    -- the program's answer
    refine (HIM.out _ _ h2 g2 G2 HO6.out HI6.out).mono ?_
    rintro e w7 ⟨C, cc, rfl, hOg, hk7⟩
    have HOG7 := Lib.hid hOg
    have HGB : Hid (∀ k, C.map (·.block) = some k → w6.heap.size ≤ k) := Lib.hid (fun k hk => (own_block hOg k hk).1)
    have a90' := cell_keeps hk7 a60
    have a91' := cell_keeps hk7 a61
    have c90' := cell_keeps hk7 c60
    have c91' := cell_keeps hk7 c61
    have HO9' := Lib.hid (HO6.out.keeps hk7)
    have HI9' := Lib.hid (HI6.out.keeps hk7)
    have HOW7 := Lib.hid (HOW6.out.keeps hk7)
    have k17' := k16.step hk7
    have z67 := hk7.size
    clear hOg a60 a61 c60 c61 HO6 HI6 k16 hk7 HOW6 HOW3
    -- it is the reference's
    go_wp2_with fail
    refine (xInts_true C B0 N cc cb _ _ _ (by omega) HOG7.out.ints HOW7.out.ints (fun _ _ => rfl)).mono ?_
    rintro e w8 ⟨rfl, hk8⟩
    obtain ⟨wz, rfl⟩ : ∃ wz : World, wz = w7 := ⟨_, rfl⟩
    have a90 := cell_keeps hk8 a90'
    have a91 := cell_keeps hk8 a91'
    have c90 := cell_keeps hk8 c90'
    have c91 := cell_keeps hk8 c91'
    have HO9 := Lib.hid (HO9'.out.keeps hk8)
    have HI9 := Lib.hid (HI9'.out.keeps hk8)
    have HOW9 := Lib.hid (HOW7.out.keeps hk8)
    have HOG9 := Lib.hid (HOG7.out.keeps hk8)
    have k17 := k17'.step hk8
    have KT := Lib.hid k17
    have z78 := hk8.size
    clear a90' a91' c90' c91' HO9' HI9' HOW7 HOG7 k17' hk8
    have HLN2 : Hid (∀ i, i < n → (r i).2.1 ≤ 1099511627776) := Lib.hid (fun i hi => by have := HL2.out i hi; omega)
    go_wp2_with fail
    -- the argument is as it was
    go_region_held3 (fun w' => w'.cell? ⟨w.heap.size, 0, none⟩ = some (.slice A n c) ∧ w'.cell? ⟨w.heap.size, 1, none⟩ = some (.slice B mm d) ∧ w'.cell? ⟨b7, 0, none⟩ = some (.slice (some ⟨g2, 0, none⟩) n n) ∧ w'.cell? ⟨b7, 1, none⟩ = some (.slice (some ⟨h2, 0, none⟩) mm mm) ∧ Keeps w8 w') (first | exact ⟨cell_keeps hk10 q0, cell_keeps hk10 q1, cell_keeps hk10 q2, cell_keeps hk10 q3, q4.step hk10⟩ | exact ⟨cell_keeps hk11 q0, cell_keeps hk11 q1, cell_keeps hk11 q2, cell_keeps hk11 q3, q4.step hk11⟩ | exact ⟨a90, a91, c90, c91, Keeps.drew1 _⟩) (first | (go_at_call 13; obtain ⟨q0, q1, q2, q3, q4⟩ : _ ∧ _ ∧ _ ∧ _ ∧ Keeps w8 _ := (by assumption); refine (HTV.out _ (KT.out.step q4)).mono ?_; rintro e w10 ⟨g3, G3, h3, rfl, hO3, hI3, hGh3, hk10⟩; have HO3 := Lib.hid hO3.rows; have HI3 := Lib.hid (il_ints hI3); clear hO3 hI3 hGh3) | (go_at_call 15; obtain ⟨q0, q1, q2, q3, q4⟩ : _ ∧ _ ∧ _ ∧ _ ∧ Keeps w8 _ := (by assumption); refine (xNet_true _ _ _ _ n n n mm mm mm _ _ x x y y _ (by omega) (HO9.out.keeps q4).rows HO3.out HLN2.out (fun _ _ => ⟨rfl, fun _ _ => rfl⟩) (by omega) (il_ints (HI9.out.keeps q4)) HI3.out (fun _ _ => rfl)).mono ?_; rintro e w11 ⟨rfl, hk11⟩))
    have K11 := q4.step hk11
    have a0 := cell_keeps K11 a90
    have a1 := cell_keeps K11 a91
    have c0 := cell_keeps K11 c90
    have c1 := cell_keeps K11 c91
    have HO11 := Lib.hid (HO9.out.keeps K11)
    have HI11 := Lib.hid (HI9.out.keeps K11)
    have HOW11 := Lib.hid (HOW9.out.keeps K11)
    have HOG11 := Lib.hid (HOG9.out.keeps K11)
    have k111 := k17.step K11
    have z811 := K11.size
    clear q0 q1 q2 q3 q4 hk10 hk11 HO3 HI3 a90 a91 c90 c91 HO9 HI9 HOW9 HOG9 KT K11 k17
    -- marks in the argument
    go_wp2_with fail
    refine (markNet_any w3.heap.size b7 n mm g2 h2 G2 _ x y _ hn2 HS2.out hm2 HO11.out HI11.out HGH.out HHI.out).mono ?_
    rintro e w12 ⟨rfl, hM⟩
    have a2 := hM.cell a0 (.inl (by simp; omega))
    have a3 := hM.cell a1 (.inl (by simp; omega))
    have HOW12 := Lib.hid (hM.ints HOW11.out (fun k hk => .inl (HWB.out k hk)))
    have HOG12 := Lib.hid (hM.ints HOG11.out (fun k hk => .inr (by have := HGB.out k hk; omega)))
    have k112 := hM.keeps k111 (by omega)
    have z12 := hM.size
    clear hM a0 a1 c0 c1 HO11 HI11 HOW11 HOG11 k111 HS2
    generalize sumTo (fun i => (r i).2.1) n = S1 at *
    go_wp2_with fail
    refine (xInts_true C B0 N cc cb _ _ _ (by omega) HOG12.out.ints HOW12.out.ints (fun _ _ => rfl)).mono ?_
    rintro e w13 ⟨rfl, hk13⟩
    have a4 := cell_keeps hk13 a2
    have a5 := cell_keeps hk13 a3
    have HOW13 := Lib.hid (HOW12.out.keeps hk13)
    have HOG13 := Lib.hid (HOG12.out.keeps hk13)
    have k113 := k112.step hk13
    have z13 := hk13.size
    clear a2 a3 HOW12 HOG12 k112 hk13
    -- marks in the answer
    go_wp2_with fail
    refine (markInts_any w6.heap.size C N cc _ 1 _ (by omega) (by omega) (by omega) HOG13.out).mono ?_
    rintro e w14 ⟨rfl, hOm, hG14⟩
    have hOw14 : OwnInts w14 _ B0 N cb V := own_kept HOW13.out hG14 (fun k hk e => by have h1 := HWB.out k hk; have h2 := HGB.out k e; omega)
    have a6 := World.grownBy.cell hG14 a4 (by intro e; have := HGB.out _ e.symm; dsimp only at *; omega)
    have a7 := World.grownBy.cell hG14 a5 (by intro e; have := HGB.out _ e.symm; dsimp only at *; omega)
    have k114 := k113.grown HOG13.out (by omega) hG14
    have HOM := Lib.hid hOm
    have HOW14 := Lib.hid hOw14
    clear hOm hOw14 hG14 HOG13 HOW13 a4 a5 k113
    have hne2 : ((1 : Int) + N != 1 + N) = false := by simp
    go_wp2_with fail
    refine (heldInts_any _ C N cc 1 _ (by omega) (by omega) (by omega) HOM.out).mono ?_
    rintro e w15 ⟨rfl, hk15⟩
    have a8 := cell_keeps hk15 a6
    have a9 := cell_keeps hk15 a7
    have HOM15 := Lib.hid (HOM.out.keeps hk15)
    have HOW15 := Lib.hid (HOW14.out.keeps hk15)
    have k115 := k114.step hk15
    clear a6 a7 HOM HOW14 k114 hk15
    -- once more, of a new copy
    go_wp2_with fail
    refine (HTV.out _ k115).mono ?_
    rintro e w16 ⟨g4, G4, h4, rfl, hO4, hI4, hGh4, hk16⟩
    have HO4 := Lib.hid hO4
    have HI4 := Lib.hid hI4
    clear hO4 hI4 hGh4
    go_wp2_with fail
    refine (HIM.out _ _ h4 g4 G4 HO4.out HI4.out).mono ?_
    rintro e w17 ⟨D, cd, rfl, hOh, hk17⟩
    have HOH := Lib.hid hOh
    have k1517 := hk16.step hk17
    have HOM17 := Lib.hid (HOM15.out.keeps k1517)
    have HOW17 := Lib.hid (HOW15.out.keeps k1517)
    have k117 := k115.step k1517
    clear hOh hk16 hk17 HO4 HI4 HOM15 HOW15 k115 k1517 a8 a9
    go_wp2_with fail
    refine (xInts_true D B0 N cd cb _ _ _ (by omega) HOH.out.ints HOW17.out.ints (fun _ _ => rfl)).mono ?_
    rintro e w18 ⟨rfl, hk18⟩
    have HOM18 := Lib.hid (HOM17.out.keeps hk18)
    have k118 := k117.step hk18
    clear HOM17 HOW17 HOH k117 hk18
    go_wp2_with fail
    refine (heldInts_any _ C N cc 1 _ (by omega) (by omega) (by omega) HOM18.out).mono ?_
    rintro e w19 ⟨rfl, hk19⟩
    have kF := hK1.step (k118.step hk19)
    go_wp2
    go_ret
    exact ⟨rfl, kF⟩
end Go.Proofs.Ytfjpnjekmjnocaa
