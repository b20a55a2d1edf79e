/-
  DrawRunDesk of the reference: at most five lines in new memory. Condition: the code's length.
-/
import Derived.Test.YtlniogfinofakaaGreatDoorRuAn
import Derived.Test.YtlniogfinofakaaGreatDoorRuAo
import Derived.Test.YtlniogfinofakaaGreatDoorRuBi
import Derived.Test.YtlniogfinofakaaGreatDoorRuBd
namespace Go.Proofs.YtlniogfinofakaaGreatDoor
set_option maxRecDepth 100000
open Go.RowKit Go.Lib
set_option linter.unusedVariables false

theorem strs_gro {w w' : World} {lo b g n c : Nat} {l : List ByteArray} (h : OwnStrs w lo (some ⟨g, 0, none⟩) n c l) (k : Gro b w w') (hb : b < lo) : OwnStrs w' lo (some ⟨g, 0, none⟩) n c l :=
  own_kept h k (fun d hd e => by
    have h1 := (World.ownsRow.lt h g rfl).1
    have e1 : g = d := by simpa using hd
    have e2 : b = d := by simpa using e
    omega)
theorem strs_mono {w : World} {lo lo' n c : Nat} {A : Option Addr} {l : List ByteArray} (h : OwnStrs w lo A n c l) (hl : lo' ≤ lo) : OwnStrs w lo' A n c l := by
  refine ⟨h.1, ?_⟩
  rcases h.2 with h0 | ⟨g, cap, cur, e, h1, rest⟩
  · exact .inl h0
  · exact .inr ⟨g, cap, cur, e, Nat.le_trans hl h1, rest⟩
theorem strs_all {L : List ByteArray} {X : ByteArray} (h : ∀ s ∈ L, s.size ≤ 100000) (hX : X.size ≤ 100000) : ∀ s ∈ L ++ [X], s.size ≤ 100000 := fun s hs => by
  rcases List.mem_append.1 hs with hs | hs
  · exact h s hs
  · rw [List.mem_singleton.1 hs]; exact hX
theorem num_one (u : Nat) (w : World) (h : u < 1000) : Calls Tryz.prog 26 #[.int .i64 (1 + (u : Int))] w fun e w' => e = .returned (.string ⟨(decDigits (1 + u)).toArray⟩) ∧ w = w' := by
  have h1 := number_any _ (1 + u) w (Nat.le_refl _) (by omega)
  rw [show ((1 + u : Nat) : Int) = 1 + (u : Int) by omega] at h1
  exact h1
set_option maxHeartbeats 16000000 in
theorem drawRunDesk_any (a : Option Addr) (n c : Nat) (w : World) (hB : Bytes w w.heap.size a n) (hn : n ≤ 1099511627776) (hc : n ≤ c) (hc2 : c ≤ 9223372036854775807) :
    Calls Tryz.prog 10 #[.slice a n c] w fun e w' => ∃ (g m d : Nat) (L : List ByteArray), e = .returned (.slice (some ⟨g, 0, none⟩) m d) ∧ OwnStrs w' w.heap.size (some ⟨g, 0, none⟩) m d L ∧ (∀ s ∈ L, s.size ≤ 100000) ∧ m ≤ 5 ∧ Keeps w w' := by
  have HB := Lib.hid hB
  clear hB
  go_enter Tryz.func10, Tryz.ntmps10
  go_wp2_with fail
  refine (newReader_any a n c _ HB.out hn hc hc2).mono ?_
  rintro e w1 ⟨b, rfl, hR1, hb1, hK1⟩
  have HR1 := Lib.hid hR1
  obtain ⟨lo, hlo⟩ : ∃ lo, lo = w1.heap.size := ⟨_, rfl⟩
  have hblo : b < lo := by rw [hlo]; exact hR1.lt
  have hwlo : w.heap.size ≤ lo := by rw [hlo]; exact hK1.size
  have HO1 : Hid (OwnStrs (w1.alloc (.cells #[] 9)) lo (some ⟨lo, 0, none⟩) 0 0 []) := Lib.hid (by rw [hlo]; exact OwnStrs.made w1 _ (Nat.le_refl _))
  have HK1 := Lib.hid (hK1.step (Keeps.alloc w1 (.cells #[] 9)))
  have HZ1 : Hid (lo ≤ (w1.alloc (.cells #[] 9)).heap.size) := Lib.hid (by rw [hlo]; simp)
  have HR1' := Lib.hid (hR1.gro (Keeps.alloc w1 (.cells #[] 9)))
  clear hR1 hK1 HR1
  go_wp2_with fail
  rw [← hlo]
  have HLOE := Lib.hid hlo
  clear hlo
  refine (one_lit b 0 [4, 5, 2, 0] 0 5 _ _ _ _ (by decide) (by decide) (by decide) (by omega) HR1'.out rfl (by simp; exact HLOE.out) rfl).mono ?_
  rintro e w2 ⟨N, rfl, hN0, hN5, hR2, hG2⟩
  obtain ⟨N, rfl⟩ := Int.eq_ofNat_of_zero_le hN0
  have HG2 := Lib.hid ((Gro.ofKeeps (b := b) (Keeps.alloc (w1.alloc (.cells #[] 9)) (.cells ([4, 5, 2, 0].map (Value.int .i64)).toArray 3))).step hG2)
  have HO2 := Lib.hid (strs_gro HO1.out HG2.out hblo)
  have HK2 := Lib.hid (HG2.out.keeps HK1.out hb1)
  have HZ2 := Lib.hid (Nat.le_trans HZ1.out HG2.out.size)
  have HR2 := Lib.hid hR2
  clear hR2 hG2 HO1 HK1 HZ1 HR1' HG2
  have hN : N ≤ 5 := by omega
  go_wp2_with fail
  go_loopw [4, 5] (fun o i wr => ∃ (j k q g cc : Nat) (L : List ByteArray), o = .slice (some ⟨g, 0, none⟩) j cc ∧ i = .int .i64 k ∧ j + k = N ∧ q ≤ 1 + 180 * j ∧ Hid (OwnStrs wr lo (some ⟨g, 0, none⟩) j cc L) ∧ Hid (∀ s ∈ L, s.size ≤ 100000) ∧ Hid (Rd wr b q) ∧ Hid (Keeps w wr) ∧ Hid (lo ≤ wr.heap.size)) (fun _ i _ => (intOf i).toNat)
  case atStart => exact ⟨0, N, 1, lo, 0, [], rfl, rfl, by omega, by omega, HO2, Lib.hid (fun s hs => absurd hs List.not_mem_nil), HR2, HK2, HZ2⟩
  case round =>
    clear HO2 HR2 HK2 HZ2
    obtain ⟨j, k, q, g, cc, L, rfl, rfl, hjk, hq, HO, HL, HR, HK, HZ⟩ := hrel
    have HLO : Hid (∀ W, Keeps w W → Gro b wr W → lo ≤ W.heap.size) := Lib.hid (fun W _ hG => Nat.le_trans HZ.out hG.size)
    by_cases hk : 0 < k
    · have hki : (k : Int) > 0 := by omega
      have CM := Lib.hid (someMarksD_any b q wr HR.out (by omega))
      go_wp2_with fail
      refine (CM.out).mono ?_
      rintro e w3 ⟨nm, q3, gm, cm, lm, rfl, hnm, hq3, hM, hlm⟩
      have HI3 := Lib.hid hM.own.ints
      have HR3 := Lib.hid hM.rd
      have HG3 := Lib.hid hM.gro
      have HX3 : Hid (∀ i, i < nm → lm.getD i 0 ≤ 1000) := Lib.hid (fun i _ => by have := getD_le hlm (by decide) i; omega)
      clear hM hlm CM
      go_wp2_with fail
      refine (posOf_any (some ⟨gm, 0, none⟩) nm cm (fun i => lm.getD i 0) w3 (by omega) HX3.out HI3.out).mono ?_
      rintro e wp1 ⟨gp1, cp1, rfl, hI1, hk1⟩
      have CX1 := Lib.hid (listText_any (some ⟨gp1, 0, none⟩) nm cp1 (fun i => ((fun i => lm.getD i 0) i).toNat) wp1 (by omega) (fun i hi => by
        have h := HX3.out i hi
        try dsimp only at h ⊢
        omega) hI1)
      have hT1 := numsT_len (fun i => ((fun i => lm.getD i 0) i).toNat) nm (fun i hi => by
        have h := HX3.out i hi
        try dsimp only at h ⊢
        omega)
      obtain ⟨T1, hTT1⟩ : ∃ T : ByteArray, T = ⟨(numsT (fun i => ((fun i => lm.getD i 0) i).toNat) nm).toArray⟩ := ⟨_, rfl⟩
      rw [← hTT1] at CX1
      have hTs1 : T1.size ≤ 200 := by
        rw [hTT1]
        show (numsT (fun i => ((fun i => lm.getD i 0) i).toNat) nm).length ≤ 200
        omega
      have HR3p := Lib.hid (HR3.out.gro hk1)
      have HG3p := Lib.hid (HG3.out.step (Gro.ofKeeps hk1))
      have HKP1 := Lib.hid hk1
      clear hT1 hTT1 hI1 hk1
      go_wp2_with fail
      refine (CX1.out).mono ?_
      rintro e wq1 ⟨rfl, rfl⟩
      go_wp2_with fail
      refine (pick_any b q3 4 wp1 HR3p.out (by omega)).mono ?_
      rintro e w4 ⟨y, rfl, hy, hR4, hG4⟩
      have HR4 := Lib.hid hR4
      have HG4 := Lib.hid (HG3p.out.step hG4)
      clear hR4 hG4 HI3 HX3
      by_cases y0 : y = 0
      · subst y0
        have CT := Lib.hid (someTokensD_any b (q3 + 1) w4 HR4.out (by omega))
        go_wp2_with fail
        refine (CT.out).mono ?_
        rintro e w5 ⟨kt, At, nt, ct, xt, rfl, hI5, hx5, hn5, ⟨q5, hq5, hR5⟩, hG5⟩
        have HI5 := Lib.hid hI5
        have HR5 := Lib.hid hR5
        have HG5 := Lib.hid (HG4.out.step hG5)
        have HX5 : Hid (∀ i, i < nt → xt i ≤ 1000) := Lib.hid (fun i hi => by have := hx5 i hi; omega)
        clear hI5 hR5 hG5 hx5 CT
        go_wp2_with fail
        refine (posOf_any At nt ct xt w5 (by omega) HX5.out HI5.out).mono ?_
        rintro e wp2 ⟨gp2, cp2, rfl, hI2, hk2⟩
        have CX2 := Lib.hid (listText_any (some ⟨gp2, 0, none⟩) nt cp2 (fun i => (xt i).toNat) wp2 (by omega) (fun i hi => by
          have h := HX5.out i hi
          try dsimp only at h ⊢
          omega) hI2)
        have hT2 := numsT_len (fun i => (xt i).toNat) nt (fun i hi => by
          have h := HX5.out i hi
          try dsimp only at h ⊢
          omega)
        obtain ⟨T2, hTT2⟩ : ∃ T : ByteArray, T = ⟨(numsT (fun i => (xt i).toNat) nt).toArray⟩ := ⟨_, rfl⟩
        rw [← hTT2] at CX2
        have hTs2 : T2.size ≤ 200 := by
          rw [hTT2]
          show (numsT (fun i => (xt i).toNat) nt).length ≤ 200
          omega
        have HR5p := Lib.hid (HR5.out.gro hk2)
        have HG5p := Lib.hid (HG5.out.step (Gro.ofKeeps hk2))
        have HKP2 := Lib.hid hk2
        clear hT2 hTT2 hI2 hk2
        go_wp2_with fail
        refine (CX2.out).mono ?_
        rintro e wq2 ⟨rfl, rfl⟩
        go_wp2_with fail
        obtain ⟨Z, hZe⟩ : ∃ Z : ByteArray, Z = ⟨#[116, 111, 107, 101, 110, 115, 32]⟩ ++ T2 := ⟨_, rfl⟩
        have hZ : Z.size ≤ 1000 := by rw [hZe]; rw [ByteArray.size_append, show (⟨#[116, 111, 107, 101, 110, 115, 32]⟩ : ByteArray).size = 7 from rfl]; omega
        rw [← hZe]
        clear hZe
        refine (pick_any b (q5) 10 wp2 HR5p.out (by omega)).mono ?_
        rintro e wt ⟨z, rfl, hz, hRt, hGt⟩
        have HRt := Lib.hid hRt
        have HGt := Lib.hid (HG5p.out.step hGt)
        clear hRt hGt
        by_cases z0 : z = 0
        · subst z0
          have CO := Lib.hid (ofS_lit b (q5 + 1) [⟨#[]⟩, ⟨#[104, 101, 108, 112]⟩, ⟨#[101, 108, 101, 99, 116]⟩, ⟨#[101, 108, 101, 99, 116, 32, 120]⟩, ⟨#[119, 97, 108, 107, 32, 49]⟩, ⟨#[109, 117, 100, 100, 121, 32, 49]⟩, ⟨#[116, 111, 107, 101, 110, 115, 32, 53, 44, 53]⟩, ⟨#[109, 111, 115, 116, 32]⟩, ⟨#[111, 100, 100, 32, 49, 44, 49, 44, 49, 44, 49]⟩, ⟨#[101, 108, 101, 99, 116, 32, 51, 44, 32, 52]⟩] _ _ _ wt HRt.out (by omega) (by decide) (by decide) (by decide) rfl rfl rfl)
          go_wp2_with fail
          refine (CO.out).mono ?_
          rintro e wu ⟨X, rfl, hX, hRu, hGu⟩
          have HRu := Lib.hid hRu
          have HGu := Lib.hid (HGt.out.step hGu)
          clear hRu hGu CO
          have HOu := Lib.hid (strs_gro HO.out HGu.out hblo)
          have HKu := Lib.hid (HGu.out.keeps HK.out hb1)
          have hszu := HLO.out wu HKu.out HGu.out
          go_wp2_with (first | (at_builtin; refine wp_app_str rfl _ _ rfl lo (some ⟨g, 0, none⟩) j cc L _ rfl HOu.out _ rfl (by omega) hszu ?_; intro g6 c6 w6 hO6 hg6))
          have HR6 := Lib.hid (HRu.out.grown hg6 (fun d hd => by have := (World.ownsRow.lt HOu.out g rfl).1; have e : g = d := (by simpa using hd); omega))
          have HK6 := Lib.hid (HOu.out.keepsAll HKu.out hwlo hg6)
          go_roundw
          case rel => exact ⟨j + 1, k - 1, _, g6, c6, _, rfl, by go_num, by omega, by omega, Lib.hid hO6, Lib.hid (strs_all HL.out (by omega)), HR6, HK6, Lib.hid (Nat.le_trans hszu hg6.size)⟩
          case measure => simp [intOf]; omega
        · have z0' : ((z : Int) == 0) = false := by simp; omega
          clear z0
          by_cases z1 : z = 1
          · subst z1
            have CO := Lib.hid (mutate_any b (q5 + 1) Z wt HRt.out (by omega) (by omega))
            go_wp2_with fail
            refine (CO.out).mono ?_
            rintro e wu ⟨X, qu, rfl, hX, hqu, hRu, hGu⟩
            have HRu := Lib.hid hRu
            have HGu := Lib.hid (HGt.out.step hGu)
            clear hRu hGu CO
            have HOu := Lib.hid (strs_gro HO.out HGu.out hblo)
            have HKu := Lib.hid (HGu.out.keeps HK.out hb1)
            have hszu := HLO.out wu HKu.out HGu.out
            go_wp2_with (first | (at_builtin; refine wp_app_str rfl _ _ rfl lo (some ⟨g, 0, none⟩) j cc L _ rfl HOu.out _ rfl (by omega) hszu ?_; intro g6 c6 w6 hO6 hg6))
            have HR6 := Lib.hid (HRu.out.grown hg6 (fun d hd => by have := (World.ownsRow.lt HOu.out g rfl).1; have e : g = d := (by simpa using hd); omega))
            have HK6 := Lib.hid (HOu.out.keepsAll HKu.out hwlo hg6)
            go_roundw
            case rel => exact ⟨j + 1, k - 1, _, g6, c6, _, rfl, by go_num, by omega, by omega, Lib.hid hO6, Lib.hid (strs_all HL.out (by omega)), HR6, HK6, Lib.hid (Nat.le_trans hszu hg6.size)⟩
            case measure => simp [intOf]; omega
          · have z1' : ((z : Int) == 1) = false := by simp; omega
            clear z1
            have HOu := Lib.hid (strs_gro HO.out HGt.out hblo)
            have HKu := Lib.hid (HGt.out.keeps HK.out hb1)
            have hszu := HLO.out wt HKu.out HGt.out
            go_wp2_with (first | (at_builtin; refine wp_app_str rfl _ _ rfl lo (some ⟨g, 0, none⟩) j cc L _ rfl HOu.out _ rfl (by omega) hszu ?_; intro g6 c6 w6 hO6 hg6))
            have HR6 := Lib.hid (HRt.out.grown hg6 (fun d hd => by have := (World.ownsRow.lt HOu.out g rfl).1; have e : g = d := (by simpa using hd); omega))
            have HK6 := Lib.hid (HOu.out.keepsAll HKu.out hwlo hg6)
            go_roundw
            case rel => exact ⟨j + 1, k - 1, _, g6, c6, _, rfl, by go_num, by omega, by omega, Lib.hid hO6, Lib.hid (strs_all HL.out (by omega)), HR6, HK6, Lib.hid (Nat.le_trans hszu hg6.size)⟩
            case measure => simp [intOf]; omega
      · have y0' : ((y : Int) == 0) = false := by simp; omega
        clear y0
        by_cases y1 : y = 1
        · subst y1
          have CT := Lib.hid (someCrowdD_any b (q3 + 1) w4 HR4.out (by omega))
          go_wp2_with fail
          refine (CT.out).mono ?_
          rintro e w5 ⟨S, A1, B1, nS, cS, nA, cA, nB, cB, gc, mc, ccr, sS, rA, rB, fA, fB, lc, rfl, hall, hm5, hG5, _, hbd, q5, hq5, hR5⟩
          have HOC5 := Lib.hid (hall w5 (fun _ _ _ => rfl)).2
          have HR5 := Lib.hid (hR5.gro (Keeps.alloc w5 (.cells #[.slice S nS cS, .slice A1 nA cA, .slice B1 nB cB] 54)))
          have HOC6 := Lib.hid (HOC5.out.keeps (Keeps.alloc w5 (.cells #[.slice S nS cS, .slice A1 nA cA, .slice B1 nB cB] 54)))
          have HG5 := Lib.hid ((HG4.out.step hG5).step (Gro.ofKeeps (Keeps.alloc w5 (.cells #[.slice S nS cS, .slice A1 nA cA, .slice B1 nB cB] 54))))
          have HBX := Lib.hid (Blk.new w5 #[.slice S nS cS, .slice A1 nA cA, .slice B1 nB cB] 54)
          have hbr : b < w5.heap.size := hR5.lt
          have HX5 : Hid (∀ i, i < mc → lc.getD i 0 ≤ 1000) := Lib.hid (fun i _ => by have := getD_le hbd (by decide) i; omega)
          have CO := Lib.hid (ofS_lit b q5 [⟨#[109, 111, 115, 116]⟩, ⟨#[111, 100, 100]⟩, ⟨#[116, 104, 114, 101, 101]⟩] _ (w5.heap.size + 1) _ (w5.alloc (.cells #[.slice S nS cS, .slice A1 nA cA, .slice B1 nB cB] 54)) HR5.out (by omega) (by decide) (by decide) (by decide) rfl (by simp) rfl)
          clear hall hR5 hG5 hbd CT HOC5
          go_wp2_with fail
          refine (CO.out).mono ?_
          rintro e w7 ⟨X7, rfl, hX7, hR7, hG7⟩
          have HOC7 := Lib.hid (own_groD HOC6.out hG7 HR5.out)
          have HBX7 := Lib.hid (HBX.out.grown hG7 (by simp; omega))
          have HR7 := Lib.hid hR7
          have HG7 := Lib.hid (HG5.out.step hG7)
          clear hR7 hG7 CO HOC6 HBX HG5 HR5
          go_wp2_with fail
          refine (posOf_any (some ⟨gc, 0, none⟩) mc ccr (fun i => lc.getD i 0) w7 (by omega) HX5.out HOC7.out.ints).mono ?_
          rintro e wp3 ⟨gp3, cp3, rfl, hI3, hk3⟩
          have CX3 := Lib.hid (listText_any (some ⟨gp3, 0, none⟩) mc cp3 (fun i => ((fun i => lc.getD i 0) i).toNat) wp3 (by omega) (fun i hi => by
            have h := HX5.out i hi
            try dsimp only at h ⊢
            omega) hI3)
          have hT3 := numsT_len (fun i => ((fun i => lc.getD i 0) i).toNat) mc (fun i hi => by
            have h := HX5.out i hi
            try dsimp only at h ⊢
            omega)
          obtain ⟨T3, hTT3⟩ : ∃ T : ByteArray, T = ⟨(numsT (fun i => ((fun i => lc.getD i 0) i).toNat) mc).toArray⟩ := ⟨_, rfl⟩
          rw [← hTT3] at CX3
          have hTs3 : T3.size ≤ 200 := by
            rw [hTT3]
            show (numsT (fun i => ((fun i => lc.getD i 0) i).toNat) mc).length ≤ 200
            omega
          have HR7p := Lib.hid (HR7.out.gro hk3)
          have HG7p := Lib.hid (HG7.out.step (Gro.ofKeeps hk3))
          have HKP3 := Lib.hid hk3
          clear hT3 hTT3 hI3 hk3
          go_wp2_with fail
          refine (CX3.out).mono ?_
          rintro e wq3 ⟨rfl, rfl⟩
          have eB : wp3.cell? ⟨w5.heap.size, 0, none⟩ = some (.slice S nS cS) := (HBX7.out.keeps HKP3.out).cell 0
          have HOC8 := Lib.hid (HOC7.out.keeps HKP3.out)
          have hs32 : (⟨#[32]⟩ : ByteArray).size = 1 := rfl
          have hs5 : (⟨#[115, 111, 109, 101, 32]⟩ : ByteArray).size = 5 := rfl
          by_cases hn2 : nS = 2
          · subst hn2
            go_wp2_with fail
            refine (posOf_any (some ⟨gc, 0, none⟩) mc ccr (fun i => lc.getD i 0) wp3 (by omega) HX5.out HOC8.out.ints).mono ?_
            rintro e wp4 ⟨gp4, cp4, rfl, hI4, hk4⟩
            have CX4 := Lib.hid (listText_any (some ⟨gp4, 0, none⟩) mc cp4 (fun i => ((fun i => lc.getD i 0) i).toNat) wp4 (by omega) (fun i hi => by
              have h := HX5.out i hi
              try dsimp only at h ⊢
              omega) hI4)
            have hT4 := numsT_len (fun i => ((fun i => lc.getD i 0) i).toNat) mc (fun i hi => by
              have h := HX5.out i hi
              try dsimp only at h ⊢
              omega)
            obtain ⟨T4, hTT4⟩ : ∃ T : ByteArray, T = ⟨(numsT (fun i => ((fun i => lc.getD i 0) i).toNat) mc).toArray⟩ := ⟨_, rfl⟩
            rw [← hTT4] at CX4
            have hTs4 : T4.size ≤ 200 := by
              rw [hTT4]
              show (numsT (fun i => ((fun i => lc.getD i 0) i).toNat) mc).length ≤ 200
              omega
            have HR7pp := Lib.hid (HR7p.out.gro hk4)
            have HG7pp := Lib.hid (HG7p.out.step (Gro.ofKeeps hk4))
            have HKP4 := Lib.hid hk4
            clear hT4 hTT4 hI4 hk4
            go_wp2_with fail
            refine (CX4.out).mono ?_
            rintro e wq4 ⟨rfl, rfl⟩
            go_wp2_with fail
            obtain ⟨Z, hZe⟩ : ∃ Z : ByteArray, Z = ⟨#[115, 111, 109, 101, 32]⟩ ++ T4 := ⟨_, rfl⟩
            have hZ : Z.size ≤ 1000 := by rw [hZe]; rw [ByteArray.size_append]; omega
            rw [← hZe]
            clear hZe
            refine (pick_any b (q5 + 1) 10 wp4 HR7pp.out (by omega)).mono ?_
            rintro e wt ⟨z, rfl, hz, hRt, hGt⟩
            have HRt := Lib.hid hRt
            have HGt := Lib.hid (HG7pp.out.step hGt)
            clear hRt hGt
            by_cases z0 : z = 0
            · subst z0
              have CO := Lib.hid (ofS_lit b (q5 + 1 + 1) [⟨#[]⟩, ⟨#[104, 101, 108, 112]⟩, ⟨#[101, 108, 101, 99, 116]⟩, ⟨#[101, 108, 101, 99, 116, 32, 120]⟩, ⟨#[119, 97, 108, 107, 32, 49]⟩, ⟨#[109, 117, 100, 100, 121, 32, 49]⟩, ⟨#[116, 111, 107, 101, 110, 115, 32, 53, 44, 53]⟩, ⟨#[109, 111, 115, 116, 32]⟩, ⟨#[111, 100, 100, 32, 49, 44, 49, 44, 49, 44, 49]⟩, ⟨#[101, 108, 101, 99, 116, 32, 51, 44, 32, 52]⟩] _ _ _ wt HRt.out (by omega) (by decide) (by decide) (by decide) rfl rfl rfl)
              go_wp2_with fail
              refine (CO.out).mono ?_
              rintro e wu ⟨X, rfl, hX, hRu, hGu⟩
              have HRu := Lib.hid hRu
              have HGu := Lib.hid (HGt.out.step hGu)
              clear hRu hGu CO
              have HOu := Lib.hid (strs_gro HO.out HGu.out hblo)
              have HKu := Lib.hid (HGu.out.keeps HK.out hb1)
              have hszu := HLO.out wu HKu.out HGu.out
              go_wp2_with (first | (at_builtin; refine wp_app_str rfl _ _ rfl lo (some ⟨g, 0, none⟩) j cc L _ rfl HOu.out _ rfl (by omega) hszu ?_; intro g6 c6 w6 hO6 hg6))
              have HR6 := Lib.hid (HRu.out.grown hg6 (fun d hd => by have := (World.ownsRow.lt HOu.out g rfl).1; have e : g = d := (by simpa using hd); omega))
              have HK6 := Lib.hid (HOu.out.keepsAll HKu.out hwlo hg6)
              go_roundw
              case rel => exact ⟨j + 1, k - 1, _, g6, c6, _, rfl, by go_num, by omega, by omega, Lib.hid hO6, Lib.hid (strs_all HL.out (by omega)), HR6, HK6, Lib.hid (Nat.le_trans hszu hg6.size)⟩
              case measure => simp [intOf]; omega
            · have z0' : ((z : Int) == 0) = false := by simp; omega
              clear z0
              by_cases z1 : z = 1
              · subst z1
                have CO := Lib.hid (mutate_any b (q5 + 1 + 1) Z wt HRt.out (by omega) (by omega))
                go_wp2_with fail
                refine (CO.out).mono ?_
                rintro e wu ⟨X, qu, rfl, hX, hqu, hRu, hGu⟩
                have HRu := Lib.hid hRu
                have HGu := Lib.hid (HGt.out.step hGu)
                clear hRu hGu CO
                have HOu := Lib.hid (strs_gro HO.out HGu.out hblo)
                have HKu := Lib.hid (HGu.out.keeps HK.out hb1)
                have hszu := HLO.out wu HKu.out HGu.out
                go_wp2_with (first | (at_builtin; refine wp_app_str rfl _ _ rfl lo (some ⟨g, 0, none⟩) j cc L _ rfl HOu.out _ rfl (by omega) hszu ?_; intro g6 c6 w6 hO6 hg6))
                have HR6 := Lib.hid (HRu.out.grown hg6 (fun d hd => by have := (World.ownsRow.lt HOu.out g rfl).1; have e : g = d := (by simpa using hd); omega))
                have HK6 := Lib.hid (HOu.out.keepsAll HKu.out hwlo hg6)
                go_roundw
                case rel => exact ⟨j + 1, k - 1, _, g6, c6, _, rfl, by go_num, by omega, by omega, Lib.hid hO6, Lib.hid (strs_all HL.out (by omega)), HR6, HK6, Lib.hid (Nat.le_trans hszu hg6.size)⟩
                case measure => simp [intOf]; omega
              · have z1' : ((z : Int) == 1) = false := by simp; omega
                clear z1
                have HOu := Lib.hid (strs_gro HO.out HGt.out hblo)
                have HKu := Lib.hid (HGt.out.keeps HK.out hb1)
                have hszu := HLO.out wt HKu.out HGt.out
                go_wp2_with (first | (at_builtin; refine wp_app_str rfl _ _ rfl lo (some ⟨g, 0, none⟩) j cc L _ rfl HOu.out _ rfl (by omega) hszu ?_; intro g6 c6 w6 hO6 hg6))
                have HR6 := Lib.hid (HRt.out.grown hg6 (fun d hd => by have := (World.ownsRow.lt HOu.out g rfl).1; have e : g = d := (by simpa using hd); omega))
                have HK6 := Lib.hid (HOu.out.keepsAll HKu.out hwlo hg6)
                go_roundw
                case rel => exact ⟨j + 1, k - 1, _, g6, c6, _, rfl, by go_num, by omega, by omega, Lib.hid hO6, Lib.hid (strs_all HL.out (by omega)), HR6, HK6, Lib.hid (Nat.le_trans hszu hg6.size)⟩
                case measure => simp [intOf]; omega
          · have hn2' : ((nS : Int) == 2) = false := by simp; omega
            go_wp2_with fail
            obtain ⟨Z, hZe⟩ : ∃ Z : ByteArray, Z = X7 ++ ⟨#[32]⟩ ++ T3 := ⟨_, rfl⟩
            have hZ : Z.size ≤ 1000 := by rw [hZe]; rw [ByteArray.size_append, ByteArray.size_append]; omega
            rw [← hZe]
            clear hZe
            refine (pick_any b (q5 + 1) 10 wp3 HR7p.out (by omega)).mono ?_
            rintro e wt ⟨z, rfl, hz, hRt, hGt⟩
            have HRt := Lib.hid hRt
            have HGt := Lib.hid (HG7p.out.step hGt)
            clear hRt hGt
            by_cases z0 : z = 0
            · subst z0
              have CO := Lib.hid (ofS_lit b (q5 + 1 + 1) [⟨#[]⟩, ⟨#[104, 101, 108, 112]⟩, ⟨#[101, 108, 101, 99, 116]⟩, ⟨#[101, 108, 101, 99, 116, 32, 120]⟩, ⟨#[119, 97, 108, 107, 32, 49]⟩, ⟨#[109, 117, 100, 100, 121, 32, 49]⟩, ⟨#[116, 111, 107, 101, 110, 115, 32, 53, 44, 53]⟩, ⟨#[109, 111, 115, 116, 32]⟩, ⟨#[111, 100, 100, 32, 49, 44, 49, 44, 49, 44, 49]⟩, ⟨#[101, 108, 101, 99, 116, 32, 51, 44, 32, 52]⟩] _ _ _ wt HRt.out (by omega) (by decide) (by decide) (by decide) rfl rfl rfl)
              go_wp2_with fail
              refine (CO.out).mono ?_
              rintro e wu ⟨X, rfl, hX, hRu, hGu⟩
              have HRu := Lib.hid hRu
              have HGu := Lib.hid (HGt.out.step hGu)
              clear hRu hGu CO
              have HOu := Lib.hid (strs_gro HO.out HGu.out hblo)
              have HKu := Lib.hid (HGu.out.keeps HK.out hb1)
              have hszu := HLO.out wu HKu.out HGu.out
              go_wp2_with (first | (at_builtin; refine wp_app_str rfl _ _ rfl lo (some ⟨g, 0, none⟩) j cc L _ rfl HOu.out _ rfl (by omega) hszu ?_; intro g6 c6 w6 hO6 hg6))
              have HR6 := Lib.hid (HRu.out.grown hg6 (fun d hd => by have := (World.ownsRow.lt HOu.out g rfl).1; have e : g = d := (by simpa using hd); omega))
              have HK6 := Lib.hid (HOu.out.keepsAll HKu.out hwlo hg6)
              go_roundw
              case rel => exact ⟨j + 1, k - 1, _, g6, c6, _, rfl, by go_num, by omega, by omega, Lib.hid hO6, Lib.hid (strs_all HL.out (by omega)), HR6, HK6, Lib.hid (Nat.le_trans hszu hg6.size)⟩
              case measure => simp [intOf]; omega
            · have z0' : ((z : Int) == 0) = false := by simp; omega
              clear z0
              by_cases z1 : z = 1
              · subst z1
                have CO := Lib.hid (mutate_any b (q5 + 1 + 1) Z wt HRt.out (by omega) (by omega))
                go_wp2_with fail
                refine (CO.out).mono ?_
                rintro e wu ⟨X, qu, rfl, hX, hqu, hRu, hGu⟩
                have HRu := Lib.hid hRu
                have HGu := Lib.hid (HGt.out.step hGu)
                clear hRu hGu CO
                have HOu := Lib.hid (strs_gro HO.out HGu.out hblo)
                have HKu := Lib.hid (HGu.out.keeps HK.out hb1)
                have hszu := HLO.out wu HKu.out HGu.out
                go_wp2_with (first | (at_builtin; refine wp_app_str rfl _ _ rfl lo (some ⟨g, 0, none⟩) j cc L _ rfl HOu.out _ rfl (by omega) hszu ?_; intro g6 c6 w6 hO6 hg6))
                have HR6 := Lib.hid (HRu.out.grown hg6 (fun d hd => by have := (World.ownsRow.lt HOu.out g rfl).1; have e : g = d := (by simpa using hd); omega))
                have HK6 := Lib.hid (HOu.out.keepsAll HKu.out hwlo hg6)
                go_roundw
                case rel => exact ⟨j + 1, k - 1, _, g6, c6, _, rfl, by go_num, by omega, by omega, Lib.hid hO6, Lib.hid (strs_all HL.out (by omega)), HR6, HK6, Lib.hid (Nat.le_trans hszu hg6.size)⟩
                case measure => simp [intOf]; omega
              · have z1' : ((z : Int) == 1) = false := by simp; omega
                clear z1
                have HOu := Lib.hid (strs_gro HO.out HGt.out hblo)
                have HKu := Lib.hid (HGt.out.keeps HK.out hb1)
                have hszu := HLO.out wt HKu.out HGt.out
                go_wp2_with (first | (at_builtin; refine wp_app_str rfl _ _ rfl lo (some ⟨g, 0, none⟩) j cc L _ rfl HOu.out _ rfl (by omega) hszu ?_; intro g6 c6 w6 hO6 hg6))
                have HR6 := Lib.hid (HRt.out.grown hg6 (fun d hd => by have := (World.ownsRow.lt HOu.out g rfl).1; have e : g = d := (by simpa using hd); omega))
                have HK6 := Lib.hid (HOu.out.keepsAll HKu.out hwlo hg6)
                go_roundw
                case rel => exact ⟨j + 1, k - 1, _, g6, c6, _, rfl, by go_num, by omega, by omega, Lib.hid hO6, Lib.hid (strs_all HL.out (by omega)), HR6, HK6, Lib.hid (Nat.le_trans hszu hg6.size)⟩
                case measure => simp [intOf]; omega
        · have y1' : ((y : Int) == 1) = false := by simp; omega
          clear y1
          by_cases y2 : y = 2
          · subst y2
            go_wp2_with fail
            refine (pick_any b (q3 + 1) 4 w4 HR4.out (by omega)).mono ?_
            rintro e w5 ⟨u, rfl, hu, hR5, hG5⟩
            have HR5 := Lib.hid hR5
            have HG5 := Lib.hid (HG4.out.step hG5)
            have CN1 := Lib.hid (num_one u w5 (by omega))
            clear hR5 hG5
            obtain ⟨D1, hD1⟩ : ∃ D : ByteArray, D = ⟨(decDigits (1 + u)).toArray⟩ := ⟨_, rfl⟩
            have hD1s : D1.size ≤ 20 := by rw [hD1]; show (decDigits (1 + u)).length ≤ 20; rw [decDigits_length]; exact nDigits_le20 _ (by omega)
            rw [← hD1] at CN1
            clear hD1
            go_wp2_with fail
            refine (CN1.out).mono ?_
            rintro e w5' ⟨rfl, rfl⟩
            go_wp2_with fail
            refine (pick_any b (q3 + 1 + 1) 8 w5 HR5.out (by omega)).mono ?_
            rintro e w6 ⟨u2, rfl, hu2, hR6, hG6⟩
            have HR6 := Lib.hid hR6
            have HG6 := Lib.hid (HG5.out.step hG6)
            have CN2 := Lib.hid (num_one u2 w6 (by omega))
            clear hR6 hG6
            obtain ⟨D2, hD2⟩ : ∃ D : ByteArray, D = ⟨(decDigits (1 + u2)).toArray⟩ := ⟨_, rfl⟩
            have hD2s : D2.size ≤ 20 := by rw [hD2]; show (decDigits (1 + u2)).length ≤ 20; rw [decDigits_length]; exact nDigits_le20 _ (by omega)
            rw [← hD2] at CN2
            clear hD2
            go_wp2_with fail
            refine (CN2.out).mono ?_
            rintro e w6' ⟨rfl, rfl⟩
            have hs6 : (⟨#[109, 117, 100, 100, 121, 32]⟩ : ByteArray).size = 6 := rfl
            have hs44 : (⟨#[44]⟩ : ByteArray).size = 1 := rfl
            go_wp2_with fail
            obtain ⟨Z, hZe⟩ : ∃ Z : ByteArray, Z = ⟨#[109, 117, 100, 100, 121, 32]⟩ ++ D1 ++ ⟨#[44]⟩ ++ D2 := ⟨_, rfl⟩
            have hZ : Z.size ≤ 1000 := by rw [hZe]; rw [ByteArray.size_append, ByteArray.size_append, ByteArray.size_append]; omega
            rw [← hZe]
            clear hZe
            refine (pick_any b (q3 + 1 + 1 + 1) 10 w6 HR6.out (by omega)).mono ?_
            rintro e wt ⟨z, rfl, hz, hRt, hGt⟩
            have HRt := Lib.hid hRt
            have HGt := Lib.hid (HG6.out.step hGt)
            clear hRt hGt
            by_cases z0 : z = 0
            · subst z0
              have CO := Lib.hid (ofS_lit b (q3 + 1 + 1 + 1 + 1) [⟨#[]⟩, ⟨#[104, 101, 108, 112]⟩, ⟨#[101, 108, 101, 99, 116]⟩, ⟨#[101, 108, 101, 99, 116, 32, 120]⟩, ⟨#[119, 97, 108, 107, 32, 49]⟩, ⟨#[109, 117, 100, 100, 121, 32, 49]⟩, ⟨#[116, 111, 107, 101, 110, 115, 32, 53, 44, 53]⟩, ⟨#[109, 111, 115, 116, 32]⟩, ⟨#[111, 100, 100, 32, 49, 44, 49, 44, 49, 44, 49]⟩, ⟨#[101, 108, 101, 99, 116, 32, 51, 44, 32, 52]⟩] _ _ _ wt HRt.out (by omega) (by decide) (by decide) (by decide) rfl rfl rfl)
              go_wp2_with fail
              refine (CO.out).mono ?_
              rintro e wu ⟨X, rfl, hX, hRu, hGu⟩
              have HRu := Lib.hid hRu
              have HGu := Lib.hid (HGt.out.step hGu)
              clear hRu hGu CO
              have HOu := Lib.hid (strs_gro HO.out HGu.out hblo)
              have HKu := Lib.hid (HGu.out.keeps HK.out hb1)
              have hszu := HLO.out wu HKu.out HGu.out
              go_wp2_with (first | (at_builtin; refine wp_app_str rfl _ _ rfl lo (some ⟨g, 0, none⟩) j cc L _ rfl HOu.out _ rfl (by omega) hszu ?_; intro g6 c6 w6 hO6 hg6))
              have HR6 := Lib.hid (HRu.out.grown hg6 (fun d hd => by have := (World.ownsRow.lt HOu.out g rfl).1; have e : g = d := (by simpa using hd); omega))
              have HK6 := Lib.hid (HOu.out.keepsAll HKu.out hwlo hg6)
              go_roundw
              case rel => exact ⟨j + 1, k - 1, _, g6, c6, _, rfl, by go_num, by omega, by omega, Lib.hid hO6, Lib.hid (strs_all HL.out (by omega)), HR6, HK6, Lib.hid (Nat.le_trans hszu hg6.size)⟩
              case measure => simp [intOf]; omega
            · have z0' : ((z : Int) == 0) = false := by simp; omega
              clear z0
              by_cases z1 : z = 1
              · subst z1
                have CO := Lib.hid (mutate_any b (q3 + 1 + 1 + 1 + 1) Z wt HRt.out (by omega) (by omega))
                go_wp2_with fail
                refine (CO.out).mono ?_
                rintro e wu ⟨X, qu, rfl, hX, hqu, hRu, hGu⟩
                have HRu := Lib.hid hRu
                have HGu := Lib.hid (HGt.out.step hGu)
                clear hRu hGu CO
                have HOu := Lib.hid (strs_gro HO.out HGu.out hblo)
                have HKu := Lib.hid (HGu.out.keeps HK.out hb1)
                have hszu := HLO.out wu HKu.out HGu.out
                go_wp2_with (first | (at_builtin; refine wp_app_str rfl _ _ rfl lo (some ⟨g, 0, none⟩) j cc L _ rfl HOu.out _ rfl (by omega) hszu ?_; intro g6 c6 w6 hO6 hg6))
                have HR6 := Lib.hid (HRu.out.grown hg6 (fun d hd => by have := (World.ownsRow.lt HOu.out g rfl).1; have e : g = d := (by simpa using hd); omega))
                have HK6 := Lib.hid (HOu.out.keepsAll HKu.out hwlo hg6)
                go_roundw
                case rel => exact ⟨j + 1, k - 1, _, g6, c6, _, rfl, by go_num, by omega, by omega, Lib.hid hO6, Lib.hid (strs_all HL.out (by omega)), HR6, HK6, Lib.hid (Nat.le_trans hszu hg6.size)⟩
                case measure => simp [intOf]; omega
              · have z1' : ((z : Int) == 1) = false := by simp; omega
                clear z1
                have HOu := Lib.hid (strs_gro HO.out HGt.out hblo)
                have HKu := Lib.hid (HGt.out.keeps HK.out hb1)
                have hszu := HLO.out wt HKu.out HGt.out
                go_wp2_with (first | (at_builtin; refine wp_app_str rfl _ _ rfl lo (some ⟨g, 0, none⟩) j cc L _ rfl HOu.out _ rfl (by omega) hszu ?_; intro g6 c6 w6 hO6 hg6))
                have HR6 := Lib.hid (HRt.out.grown hg6 (fun d hd => by have := (World.ownsRow.lt HOu.out g rfl).1; have e : g = d := (by simpa using hd); omega))
                have HK6 := Lib.hid (HOu.out.keepsAll HKu.out hwlo hg6)
                go_roundw
                case rel => exact ⟨j + 1, k - 1, _, g6, c6, _, rfl, by go_num, by omega, by omega, Lib.hid hO6, Lib.hid (strs_all HL.out (by omega)), HR6, HK6, Lib.hid (Nat.le_trans hszu hg6.size)⟩
                case measure => simp [intOf]; omega
          · have y2' : ((y : Int) == 2) = false := by simp; omega
            clear y2
            go_wp2_with fail
            obtain ⟨Z, hZe⟩ : ∃ Z : ByteArray, Z = ⟨#[101, 108, 101, 99, 116, 32]⟩ ++ T1 := ⟨_, rfl⟩
            have hZ : Z.size ≤ 1000 := by rw [hZe]; rw [ByteArray.size_append, show (⟨#[101, 108, 101, 99, 116, 32]⟩ : ByteArray).size = 6 from rfl]; omega
            rw [← hZe]
            clear hZe
            refine (pick_any b (q3 + 1) 10 w4 HR4.out (by omega)).mono ?_
            rintro e wt ⟨z, rfl, hz, hRt, hGt⟩
            have HRt := Lib.hid hRt
            have HGt := Lib.hid (HG4.out.step hGt)
            clear hRt hGt
            by_cases z0 : z = 0
            · subst z0
              have CO := Lib.hid (ofS_lit b (q3 + 1 + 1) [⟨#[]⟩, ⟨#[104, 101, 108, 112]⟩, ⟨#[101, 108, 101, 99, 116]⟩, ⟨#[101, 108, 101, 99, 116, 32, 120]⟩, ⟨#[119, 97, 108, 107, 32, 49]⟩, ⟨#[109, 117, 100, 100, 121, 32, 49]⟩, ⟨#[116, 111, 107, 101, 110, 115, 32, 53, 44, 53]⟩, ⟨#[109, 111, 115, 116, 32]⟩, ⟨#[111, 100, 100, 32, 49, 44, 49, 44, 49, 44, 49]⟩, ⟨#[101, 108, 101, 99, 116, 32, 51, 44, 32, 52]⟩] _ _ _ wt HRt.out (by omega) (by decide) (by decide) (by decide) rfl rfl rfl)
              go_wp2_with fail
              refine (CO.out).mono ?_
              rintro e wu ⟨X, rfl, hX, hRu, hGu⟩
              have HRu := Lib.hid hRu
              have HGu := Lib.hid (HGt.out.step hGu)
              clear hRu hGu CO
              have HOu := Lib.hid (strs_gro HO.out HGu.out hblo)
              have HKu := Lib.hid (HGu.out.keeps HK.out hb1)
              have hszu := HLO.out wu HKu.out HGu.out
              go_wp2_with (first | (at_builtin; refine wp_app_str rfl _ _ rfl lo (some ⟨g, 0, none⟩) j cc L _ rfl HOu.out _ rfl (by omega) hszu ?_; intro g6 c6 w6 hO6 hg6))
              have HR6 := Lib.hid (HRu.out.grown hg6 (fun d hd => by have := (World.ownsRow.lt HOu.out g rfl).1; have e : g = d := (by simpa using hd); omega))
              have HK6 := Lib.hid (HOu.out.keepsAll HKu.out hwlo hg6)
              go_roundw
              case rel => exact ⟨j + 1, k - 1, _, g6, c6, _, rfl, by go_num, by omega, by omega, Lib.hid hO6, Lib.hid (strs_all HL.out (by omega)), HR6, HK6, Lib.hid (Nat.le_trans hszu hg6.size)⟩
              case measure => simp [intOf]; omega
            · have z0' : ((z : Int) == 0) = false := by simp; omega
              clear z0
              by_cases z1 : z = 1
              · subst z1
                have CO := Lib.hid (mutate_any b (q3 + 1 + 1) Z wt HRt.out (by omega) (by omega))
                go_wp2_with fail
                refine (CO.out).mono ?_
                rintro e wu ⟨X, qu, rfl, hX, hqu, hRu, hGu⟩
                have HRu := Lib.hid hRu
                have HGu := Lib.hid (HGt.out.step hGu)
                clear hRu hGu CO
                have HOu := Lib.hid (strs_gro HO.out HGu.out hblo)
                have HKu := Lib.hid (HGu.out.keeps HK.out hb1)
                have hszu := HLO.out wu HKu.out HGu.out
                go_wp2_with (first | (at_builtin; refine wp_app_str rfl _ _ rfl lo (some ⟨g, 0, none⟩) j cc L _ rfl HOu.out _ rfl (by omega) hszu ?_; intro g6 c6 w6 hO6 hg6))
                have HR6 := Lib.hid (HRu.out.grown hg6 (fun d hd => by have := (World.ownsRow.lt HOu.out g rfl).1; have e : g = d := (by simpa using hd); omega))
                have HK6 := Lib.hid (HOu.out.keepsAll HKu.out hwlo hg6)
                go_roundw
                case rel => exact ⟨j + 1, k - 1, _, g6, c6, _, rfl, by go_num, by omega, by omega, Lib.hid hO6, Lib.hid (strs_all HL.out (by omega)), HR6, HK6, Lib.hid (Nat.le_trans hszu hg6.size)⟩
                case measure => simp [intOf]; omega
              · have z1' : ((z : Int) == 1) = false := by simp; omega
                clear z1
                have HOu := Lib.hid (strs_gro HO.out HGt.out hblo)
                have HKu := Lib.hid (HGt.out.keeps HK.out hb1)
                have hszu := HLO.out wt HKu.out HGt.out
                go_wp2_with (first | (at_builtin; refine wp_app_str rfl _ _ rfl lo (some ⟨g, 0, none⟩) j cc L _ rfl HOu.out _ rfl (by omega) hszu ?_; intro g6 c6 w6 hO6 hg6))
                have HR6 := Lib.hid (HRt.out.grown hg6 (fun d hd => by have := (World.ownsRow.lt HOu.out g rfl).1; have e : g = d := (by simpa using hd); omega))
                have HK6 := Lib.hid (HOu.out.keepsAll HKu.out hwlo hg6)
                go_roundw
                case rel => exact ⟨j + 1, k - 1, _, g6, c6, _, rfl, by go_num, by omega, by omega, Lib.hid hO6, Lib.hid (strs_all HL.out (by omega)), HR6, HK6, Lib.hid (Nat.le_trans hszu hg6.size)⟩
                case measure => simp [intOf]; omega
    · obtain rfl : k = 0 := by omega
      go_wp2_with fail
      go_ret
      exact ⟨g, j, cc, L, rfl, strs_mono HO.out hwlo, HL.out, by omega, HK.out⟩
end Go.Proofs.YtlniogfinofakaaGreatDoor
