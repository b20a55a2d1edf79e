/-
  The contract of MuddyOf of the reference. No condition.
-/
import Derived.Test.YtlniogfinofakaaGreatDoorRuAw
import Derived.Test.YtlniogfinofakaaGreatDoorRuAz
import Derived.Deep.RegionHeld3
namespace Go.Proofs.YtlniogfinofakaaGreatDoor
set_option maxRecDepth 100000
open Go.RowKit
set_option linter.unusedVariables false
set_option linter.unusedSimpArgs false

theorem mud_same : ∀ n : Fin 5, muddyLL n.val n.val = mud0 n.val := by decide +kernel
theorem mask_sum (p : Nat → Bool) (k : Nat) : ((maskB p k : Nat) : Int) + bitI (p k) * ((2 ^ k : Nat) : Int) = ((maskB p (k + 1) : Nat) : Int) := by
  have h := maskB_add p k
  show _ = (((if p k then maskB p k ||| 2 ^ k else maskB p k) : Nat) : Int)
  cases p k
  · simp [bitI]
  · simp only [bitI, if_true]
    rw [← h]
    omega
def tellsL (n t a : Nat) : List Int := (List.range a).map fun b => ((muK n t b : Nat) : Int)
theorem tellsL_next (n t a : Nat) : tellsL n t (a + 1) = tellsL n t a ++ [((muK n t a : Nat) : Int)] := by simp [tellsL, List.range_succ]
theorem tellsL_at (n t : Nat) {a m : Nat} (h : a < m) : (tellsL n t m).getD a 0 = ((muK n t a : Nat) : Int) := by simp [tellsL, h]
theorem mu_sknows {n t a lo c : Nat} {w : World} {A : Option Addr} (s : Nat) (hn : n ≤ 4) (ht : t < n) (ha : a < n) (hs : s < 131072) (h : OwnRows w lo A n c (muU n t 0)) :
    Calls Tryz.prog 59 #[.agg #[.int .i64 (2 ^ n : Nat), .slice A n c], .int .i64 a, .int .i64 s] w fun e w' => e = .returned (.int .i64 (knowsB (lsII (muU n t 0)) (2 ^ n) a s : Nat)) ∧ Keeps w w' := by
  obtain ⟨r, h1, h2⟩ := mu_rows hn ht (Nat.zero_le n) h
  exact sknows_any A n c (2 ^ n) r _ a s w (pow16 hn) h1 ha (h2 a ha) hs
theorem mu_announce {n t a lo c : Nat} {w : World} {A : Option Addr} (hn : n ≤ 4) (ht : t < n) (ha : a < n) (h : OwnRows w lo A n c (muU n t a)) :
    Calls Tryz.prog 56 #[.agg #[.int .i64 (2 ^ n : Nat), .slice A n c], .int .i64 (muK n t a : Nat)] w fun e w' => ∃ A' c', e = .returned (.agg #[.int .i64 (2 ^ n : Nat), .slice A' n c']) ∧ OwnRows w' w.heap.size A' n c' (muU n t (a + 1)) ∧ Keeps w w' := by
  obtain ⟨r, h1, h2⟩ := mu_rows hn ht (Nat.le_of_lt ha) h
  have hlt := (mu_lt ⟨n, by omega⟩ ⟨t, ht⟩ ⟨a, ha⟩).1
  have := announce_any A n c (2 ^ n) r _ (muK n t a) w (pow16 hn) hn h1 h2 (by simp only at hlt; omega)
  rw [show tellRR (lsII (muU n t a)) (muK n t a) (2 ^ n) n = muU n t (a + 1) from mu_tell ⟨n, by omega⟩ ⟨t, ht⟩ ⟨a, ha⟩] at this
  exact this
theorem mu_dc {n a : Nat} (hn : n ≤ 4) (ha : a < n) : (dirtB n a < 65536 ∧ dirtB n a < 2 ^ (2 ^ n)) ∧ cleanB n a < 65536 ∧ 2 ^ (2 ^ n) - 1 - dirtB n a = cleanB n a := by
  have h := (mu_lt ⟨n, by omega⟩ ⟨0, by simp only; omega⟩ ⟨a, ha⟩).2
  exact ⟨⟨h.1, maskB_lt _ _⟩, h.2⟩
theorem mu_p2 {n : Nat} (hn : n ≤ 4) : 2 ≤ 2 ^ (2 ^ n) ∧ 2 ^ (2 ^ n) ≤ 65536 := by
  have : ∀ n : Fin 5, 2 ≤ 2 ^ (2 ^ n.val) ∧ 2 ^ (2 ^ n.val) ≤ 65536 := by decide +kernel
  exact this ⟨n, by omega⟩
set_option maxHeartbeats 2000000 in
theorem sMuddyOf_no1 (n w0 : Int) (w : World) (hn : inB n 1 4 = false) :
    Calls Tryz.prog 39 #[.int .i64 n, .int .i64 w0] w fun e w' => e = .returned (.tuple #[.int .i64 0, .int .i64 0]) ∧ Keeps w w' := by
  have CM := Lib.hid (fun w => inRange_any n 1 4 w)
  rw [hn] at CM
  clear hn
  go_enter Tryz.func39, Tryz.ntmps39
  go_wp2_with fail
  refine (CM.out _).mono ?_
  rintro e w1 ⟨rfl, rfl⟩
  go_wp2_with fail
  go_ret2
  exact ⟨rfl, Keeps.refl _⟩
set_option maxHeartbeats 2000000 in
theorem sMuddyOf_no2 (n : Nat) (w0 : Int) (w : World) (hn1 : 1 ≤ n) (hn : n ≤ 4) (h : inB w0 1 ((2 ^ n : Nat) - 1) = false) :
    Calls Tryz.prog 39 #[.int .i64 n, .int .i64 w0] w fun e w' => e = .returned (.tuple #[.int .i64 0, .int .i64 0]) ∧ Keeps w w' := by
  have CM := Lib.hid (fun w => inRange_any n 1 4 w)
  rw [show inB (n : Int) 1 4 = true from inB_mk (by omega) (by omega)] at CM
  have CP := Lib.hid (fun w => spower_any n w (by omega))
  have hp := pow16 hn
  have hp1 : 1 ≤ 2 ^ n := Nat.one_le_two_pow
  generalize 2 ^ n = W at *
  have CW := Lib.hid (fun w => inRange_any w0 1 ((W : Int) - 1) w)
  rw [h] at CW
  have hwr : IntKind.i64.wrap ((W : Int) - 1) = (W : Int) - 1 := by rw [IntKind.wrap_i64]; omega
  clear h
  go_enter Tryz.func39, Tryz.ntmps39
  go_wp2_with fail
  refine (CM.out _).mono ?_
  rintro e w1 ⟨rfl, rfl⟩
  go_wp2_with fail
  refine (CP.out _).mono ?_
  rintro e w2 ⟨rfl, rfl⟩
  go_wp2_with fail
  refine (CW.out _).mono ?_
  rintro e w2 ⟨rfl, rfl⟩
  go_wp2_with fail
  go_ret2
  exact ⟨rfl, Keeps.refl _⟩
set_option maxHeartbeats 4000000 in
theorem sMuddyOf_yes (n w0 : Nat) (w : World) (hn1 : 1 ≤ n) (hn : n ≤ 4) (hw1 : 1 ≤ w0) (hw2 : w0 < 2 ^ n) :
    Calls Tryz.prog 39 #[.int .i64 n, .int .i64 w0] w fun e w' => ∃ v : Int, e = .returned (.tuple #[.int .i64 (muT n w0 : Nat), .int .i64 v]) ∧ Keeps w w' := by
  have CM := Lib.hid (fun w => inRange_any n 1 4 w)
  rw [show inB (n : Int) 1 4 = true from inB_mk (by omega) (by omega)] at CM
  have hp := pow16 hn
  have hpk := Lib.hid (pow16 hn)
  have HW1 := Lib.hid hw1
  have HW2 := Lib.hid hw2
  have CP := Lib.hid (fun k (hk : k ≤ 16) w => spower_any k w (by omega))
  have CMU := Lib.hid (fun w => muddy_any n w hn)
  rw [show muddyLL n n = mud0 n from mud_same ⟨n, by omega⟩] at CMU
  have HSTART : Hid (∀ (w : World) A c lo, OwnRows w lo A n c (mud0 n) → Calls Tryz.prog 56 #[.agg #[.int .i64 (2 ^ n : Nat), .slice A n c], .int .i64 (2 ^ (2 ^ n) - 2 : Nat)] w fun e w' => ∃ A' c', e = .returned (.agg #[.int .i64 (2 ^ n : Nat), .slice A' n c']) ∧ OwnRows w' w.heap.size A' n c' (muU n 0 0) ∧ Keeps w w') := Lib.hid (fun w A c lo h => by
    obtain ⟨r, h1, h2⟩ := mu_rows0 hn h
    have hlt : maskB (fun u => u != 0) (2 ^ n) < 131072 := maskB_lt16 _ _ (by have := pow16 hn; omega)
    have := announce_any A n c (2 ^ n) r _ _ w (pow16 hn) hn h1 h2 hlt
    rw [show tellRR (lsII (mud0 n)) (maskB (fun u => u != 0) (2 ^ n)) (2 ^ n) n = muU n 0 0 from mu_start ⟨n, by omega⟩ hn1, show maskB (fun u => u != 0) (2 ^ n) = 2 ^ (2 ^ n) - 2 from mu_start2 ⟨n, by omega⟩ hn1] at this
    exact this)
  have HKNOW : Hid (∀ (w : World) (A : Option Addr) (c lo t a s : Nat), t < n → a < n → s < 131072 → OwnRows w lo A n c (muU n t 0) → Calls Tryz.prog 59 #[.agg #[.int .i64 (2 ^ n : Nat), .slice A n c], .int .i64 a, .int .i64 s] w fun e w' => e = .returned (.int .i64 (knowsB (lsII (muU n t 0)) (2 ^ n) a s : Nat)) ∧ Keeps w w') := Lib.hid (fun w A c lo t a s ht ha hs h => mu_sknows s hn ht ha hs h)
  have HTELL : Hid (∀ (w : World) (A : Option Addr) (c lo t a : Nat), t < n → a < n → OwnRows w lo A n c (muU n t a) → Calls Tryz.prog 56 #[.agg #[.int .i64 (2 ^ n : Nat), .slice A n c], .int .i64 (muK n t a : Nat)] w fun e w' => ∃ A' c', e = .returned (.agg #[.int .i64 (2 ^ n : Nat), .slice A' n c']) ∧ OwnRows w' w.heap.size A' n c' (muU n t (a + 1)) ∧ Keeps w w') := Lib.hid (fun w A c lo t a ht ha h => mu_announce hn ht ha h)
  have HMORE := Lib.hid (fun t ht h => mu_more (t := t) hn1 hn hw1 hw2 ht h)
  have HWL : Hid (∀ t, whoB n w0 t < 131072) := Lib.hid (fun t => maskB_lt16 _ _ (by omega))
  have HKN : Hid (∀ t a, t < n → a < n → (knowsB (lsII (muU n t 0)) (2 ^ n) a (dirtB n a) ||| knowsB (lsII (muU n t 0)) (2 ^ n) a (cleanB n a)) = muK n t a) := Lib.hid (fun t a ht ha => mu_know ⟨n, by omega⟩ ⟨t, ht⟩ ⟨a, ha⟩)
  have HDC : Hid (∀ a, a < n → (dirtB n a < 65536 ∧ dirtB n a < 2 ^ (2 ^ n)) ∧ cleanB n a < 65536 ∧ 2 ^ (2 ^ n) - 1 - dirtB n a = cleanB n a) := Lib.hid (fun a ha => mu_dc hn ha)
  have HDM : Hid (∀ a, maskB (fun u => u.testBit a) (2 ^ n) = dirtB n a) := Lib.hid (fun a => rfl)
  have hP2 := mu_p2 hn
  obtain ⟨W, hW⟩ : ∃ W, W = 2 ^ n := ⟨_, rfl⟩
  rw [← hW] at hp HSTART HKNOW HTELL hw2 HKN HDC HDM hP2 CMU
  have CPN : Hid (∀ w, Calls Tryz.prog 38 #[.int .i64 n] w fun e w' => e = .returned (.int .i64 (W : Nat)) ∧ w = w') := Lib.hid (fun w => by rw [hW]; exact CP.out n (by omega) w)
  clear hW
  have CPW := Lib.hid (fun w => CP.out W hp w)
  obtain ⟨P, hP⟩ : ∃ P, P = 2 ^ W := ⟨_, rfl⟩
  rw [← hP] at CPW HSTART HDC hP2
  clear hP
  obtain ⟨hP2, hP3⟩ := hP2
  have CW := Lib.hid (fun w => inRange_any (w0 : Int) 1 ((W : Int) - 1) w)
  rw [show inB (w0 : Int) 1 ((W : Int) - 1) = true from inB_mk (by omega) (by omega)] at CW
  have hwr : IntKind.i64.wrap ((W : Int) - 1) = (W : Int) - 1 := by rw [IntKind.wrap_i64]; omega
  have hwp : IntKind.i64.wrap ((P : Int) - 2) = ((P - 2 : Nat) : Int) := by rw [IntKind.wrap_i64]; omega
  obtain ⟨P2, hP4⟩ : ∃ P2, P2 = P - 2 := ⟨_, rfl⟩
  rw [← hP4] at hwp HSTART
  clear hP4
  clear hw1 hw2
  go_enter Tryz.func39, Tryz.ntmps39
  go_wp2_with fail
  refine (CM.out _).mono ?_
  rintro e w1 ⟨rfl, rfl⟩
  go_wp2_with fail
  refine (CPN.out _).mono ?_
  rintro e w1 ⟨rfl, rfl⟩
  go_wp2_with fail
  refine (CW.out _).mono ?_
  rintro e w2 ⟨rfl, rfl⟩
  go_wp2_with fail
  refine (CMU.out _).mono ?_
  rintro e w1 ⟨A, c, rfl, hO, hk1⟩
  have HO := Lib.hid hO
  have HK1 := Lib.hid hk1
  clear hO hk1 CMU
  go_wp2_with fail
  refine (CPN.out _).mono ?_
  rintro e w2 ⟨rfl, rfl⟩
  go_wp2_with fail
  refine (CPW.out _).mono ?_
  rintro e w2 ⟨rfl, rfl⟩
  go_wp2_with fail
  refine (HSTART.out _ A c _ HO.out).mono ?_
  rintro e w3 ⟨A6, c6, rfl, hO6, hk6⟩
  have HB6 := Lib.hid (Blk.new w3 #[.int .i64 W, .slice A6 n c6] 93)
  have HO6 := Lib.hid ((hO6.mono HK1.out.size).keeps (Keeps.alloc w3 (.cells #[.int .i64 W, .slice A6 n c6] 93)))
  have HK6 := Lib.hid ((HK1.out.step hk6).step (Keeps.alloc w3 (.cells #[.int .i64 W, .slice A6 n c6] 93)))
  have hV := (HK1.out.step hk6).size
  clear hO6 hk6 HO HK1 HSTART
  go_wp2_with fail
  obtain ⟨V, hVV⟩ : ∃ V, V = w3.heap.size := ⟨_, rfl⟩
  rw [← hVV] at hV HB6 ⊢
  clear hVV
  generalize w3.alloc (.cells #[.int .i64 W, .slice A6 n c6] 93) = w4 at *
  go_loopw [7] (fun q wr => ∃ (t : Nat) (A : Option Addr) (c : Nat), t < n ∧ q = .int .i64 ((t : Int) + 1) ∧ Hid (Blk wr V 93 #[.int .i64 W, .slice A n c]) ∧ Hid (OwnRows wr w.heap.size A n c (muU n t 0)) ∧ Hid (∀ u, u < t → whoB n w0 u = 0) ∧ Hid (Keeps w wr)) (fun q _ => n + 2 - (intOf q).toNat)
  case atStart => exact ⟨0, A6, c6, by omega, rfl, HB6, HO6, Lib.hid (fun u hu => absurd hu (Nat.not_lt_zero _)), HK6⟩
  case round =>
    clear HB6 HO6 HK6
    obtain ⟨t, A, c, ht, rfl, HBV, HO, HNO, HK⟩ := hrel
    obtain ⟨wo, rfl⟩ : ∃ wo : World, wo = wr := ⟨_, rfl⟩
    have HT0 := Lib.hid (OwnInts.made wo wo.heap.size (Nat.le_refl _))
    have HK0 := Lib.hid (Keeps.alloc wo (.cells #[] 3))
    go_wp2_with fail
    go_loopw [8, 9, 10] (fun s l i wr => ∃ (a d : Nat) (g : Option Addr), a ≤ n ∧ i = .int .i64 a ∧ s = .int .i64 (maskB (fun a => (muK n t a).testBit w0) a : Nat) ∧ l = .slice g a d ∧ Hid (OwnInts wr wo.heap.size g a d (tellsL n t a)) ∧ Hid (Keeps wo wr)) (fun _ _ i _ => n - (intOf i).toNat)
    case atStart => exact ⟨0, 0, _, by omega, rfl, rfl, rfl, HT0, HK0⟩
    case round =>
      clear HT0 HK0
      obtain ⟨a, d, g, ha, rfl, rfl, rfl, HT, HKO⟩ := hrel
      have HBV := Lib.hid (HBV.out.keeps HKO.out)
      have HO := Lib.hid (HO.out.keeps HKO.out)
      by_cases hlt : a < n
      · have hai : (a : Int) < n := by omega
        have d0 : wr.cell? ⟨V, 0, none⟩ = some (.int .i64 W) := HBV.out.cell 0
        have d1 : wr.cell? ⟨V, 1, none⟩ = some (.slice A n c) := HBV.out.cell 1
        have HDI : Hid (∀ u, u ≤ W → maskB (fun w => w.testBit a) u < 131072) := Lib.hid (fun u hu => maskB_lt16 _ _ (by omega))
        have HSU := Lib.hid (fun u => mask_sum (fun w => w.testBit a) u)
        have CB := Lib.hid (fun (u : Nat) (hu : u < 16) w => sbit_any u a w (by omega) (by omega))
        have HD0 : Hid (((0 : Nat) : Int) = ((maskB (fun w => w.testBit a) 0 : Nat) : Int)) := Lib.hid rfl
        obtain ⟨D, hD⟩ : ∃ D, D = fun u => maskB (fun w => w.testBit a) u := ⟨_, rfl⟩
        have HDE : Hid (∀ u, maskB (fun w => w.testBit a) u = D u) := Lib.hid (fun u => by rw [hD])
        clear hD
        go_wp2_with fail
        go_loop [11, 12] (fun s i => ∃ u : Nat, u ≤ W ∧ i = .int .i64 u ∧ s = .int .i64 (D u : Nat)) (fun _ i => W - (intOf i).toNat)
        case atStart => exact ⟨0, by omega, rfl, by rw [← HDE.out]; rfl⟩
        case round =>
          obtain ⟨u, hu, rfl, rfl⟩ := hrel
          by_cases hut : u < W
          · have hui : (u : Int) < W := by omega
            have hDu := HDI.out u hu
            have hDn := HDI.out (u + 1) hut
            rw [HDE.out] at hDu hDn
            have hS := HSU.out u
            rw [HDE.out, HDE.out] at hS
            have CBU := Lib.hid (CB.out u (by omega))
            have CPU := Lib.hid (fun w => CP.out u (by omega) w)
            have hpu : 2 ^ u ≤ 2 ^ 16 := Nat.pow_le_pow_right (by omega) (by omega)
            have hb := bitI_01 (u.testBit a)
            generalize bitI (u.testBit a) = b at *
            generalize 2 ^ u = p at *
            generalize D u = x at *
            obtain ⟨y, hy⟩ : ∃ y, y = D (u + 1) := ⟨_, rfl⟩
            rw [← hy] at hDn hS
            have HY := Lib.hid hy
            clear hy
            have hbp : 0 ≤ b * (p : Int) ∧ b * (p : Int) ≤ 65536 := by
              obtain ⟨h0, h1⟩ := hb
              rcases (show b = 0 ∨ b = 1 by omega) with rfl | rfl
              · simp
              · simp only [Int.one_mul]; omega
            have hw1 : IntKind.i64.wrap (b * (p : Int)) = b * (p : Int) := by rw [IntKind.wrap_i64]; omega
            have hw2 : IntKind.i64.wrap ((x : Int) + b * (p : Int)) = (y : Int) := by rw [hS, IntKind.wrap_i64]; omega
            clear hS hbp hb hpu
            go_wp2_with fail
            refine (CBU.out _).mono ?_
            rintro e w5 ⟨rfl, rfl⟩
            go_wp2_with fail
            refine (CPU.out _).mono ?_
            rintro e w5 ⟨rfl, rfl⟩
            go_wp2_with fail
            go_round
            case rel => exact ⟨u + 1, by omega, by go_num, by rw [← HY.out]⟩
            case measure => simp [intOf]; omega
          · obtain rfl : u = W := by omega
            have hdw : D u = dirtB n a := (HDE.out u).symm.trans (HDM.out a)
            rw [hdw]
            obtain ⟨q1, q2, q3⟩ := HDC.out a hlt
            have CKD := Lib.hid (fun w' (k : Keeps wr w') => HKNOW.out w' A c _ t a (dirtB n a) ht hlt (by omega) (HO.out.keeps k))
            have CKC := Lib.hid (fun w' (k : Keeps wr w') => HKNOW.out w' A c _ t a (cleanB n a) ht hlt (by omega) (HO.out.keeps k))
            have HKQ := Lib.hid (HKN.out t a ht hlt)
            have hkl : muK n t a < 65536 := (mu_lt ⟨n, by omega⟩ ⟨t, ht⟩ ⟨a, hlt⟩).1
            have HOR := Lib.hid (bits_or (knowsB (lsII (muU n t 0)) u a (dirtB n a)) (knowsB (lsII (muU n t 0)) u a (cleanB n a)) (Nat.lt_of_lt_of_le (knowsB_lt _ _ _ _ hp) (by omega)) (Nat.lt_of_lt_of_le (knowsB_lt _ _ _ _ hp) (by omega)))
            rw [HKQ.out] at HOR
            generalize knowsB (lsII (muU n t 0)) u a (dirtB n a) = k1 at *
            generalize knowsB (lsII (muU n t 0)) u a (cleanB n a) = k2 at *
            generalize dirtB n a = Q at *
            generalize cleanB n a = C at *
            have hwr1 : IntKind.i64.wrap ((P : Int) - 1) = (P : Int) - 1 := by rw [IntKind.wrap_i64]; omega
            have hwr2 : IntKind.i64.wrap ((P : Int) - 1 - (Q : Int)) = (C : Int) := by rw [IntKind.wrap_i64]; omega
            clear q1 q2 q3 hdw HDI HSU HKQ CB
            have CS := Lib.hid (fun w => sbit_any (muK n t a) w0 w (by omega) (by have := HW2.out; have := hpk.out; omega))
            have CPA := Lib.hid (fun w => CP.out a (by omega) w)
            have HN := Lib.hid (mask_sum (fun b => (muK n t b).testBit w0) a)
            have HTN := Lib.hid (tellsL_next n t a)
            have hM1 : maskB (fun b => (muK n t b).testBit w0) a < 131072 := maskB_lt16 _ _ (by omega)
            have hM2 : maskB (fun b => (muK n t b).testBit w0) (a + 1) < 131072 := maskB_lt16 _ _ (by omega)
            have hS := HN.out
            clear HN
            generalize muK n t a = K at *
            generalize maskB (fun b => (muK n t b).testBit w0) a = M at *
            obtain ⟨M2, hM⟩ : ∃ M2, M2 = maskB (fun b => (muK n t b).testBit w0) (a + 1) := ⟨_, rfl⟩
            have HM2 := Lib.hid hM
            rw [← hM] at hS hM2
            clear hM
            have hpa : 2 ^ a ≤ 2 ^ 4 := Nat.pow_le_pow_right (by omega) (by omega)
            have hb := bitI_01 (K.testBit w0)
            generalize bitI (K.testBit w0) = b at *
            generalize 2 ^ a = p at *
            have hbp : 0 ≤ b * (p : Int) ∧ b * (p : Int) ≤ 65536 := by
              obtain ⟨h0, h1⟩ := hb
              rcases (show b = 0 ∨ b = 1 by omega) with rfl | rfl
              · simp
              · simp only [Int.one_mul]; omega
            have hw1 : IntKind.i64.wrap (b * (p : Int)) = b * (p : Int) := by rw [IntKind.wrap_i64]; omega
            have hw2 : IntKind.i64.wrap ((M : Int) + b * (p : Int)) = (M2 : Int) := by rw [hS, IntKind.wrap_i64]; omega
            clear hS hbp hb hpa hM1 hM2
            go_wp2_with fail
            go_region_held3 (fun w' => w'.cell? ⟨V, 0, none⟩ = some (.int .i64 u) ∧ w'.cell? ⟨V, 1, none⟩ = some (.slice A n c) ∧ Keeps wr w') (first | exact ⟨cell_keeps hk1 g0, cell_keeps hk1 g1, gk.step hk1⟩ | exact ⟨d0, d1, Keeps.drew1 _⟩ | exact ⟨g0, g1, gk⟩) (first | (go_at_call 59; obtain ⟨g0, g1, gk⟩ : _ ∧ _ ∧ Keeps wr _ := (by assumption); (first | (with_reducible refine (CKD.out _ gk).mono ?_) | (with_reducible refine (CKC.out _ gk).mono ?_)); rintro e w1 ⟨rfl, hk1⟩) | (go_at_call 38; obtain ⟨g0, g1, gk⟩ : _ ∧ _ ∧ Keeps wr _ := (by assumption); refine (CPW.out _).mono ?_; rintro e w1 ⟨rfl, rfl⟩))
            rw [HOR.out]
            have hk1' := gk.step hk1
            have HT1 := Lib.hid (HT.out.keeps hk1')
            have HK1 := Lib.hid (HKO.out.step hk1')
            have hsz1 := HK1.out.size
            clear g0 g1 gk hk1 hk1' d0 d1 HT HBV HO HKO CKD CKC
            go_wp2_with (first | (at_builtin; refine wp_app_int rfl _ _ rfl wo.heap.size g a d (tellsL n t a) _ rfl HT1.out _ rfl (by omega) hsz1 ?_; intro g6 d6 w6 hT6 hg6))
            have HT6 : Hid (OwnInts w6 wo.heap.size (some ⟨g6, 0, none⟩) (a + 1) d6 (tellsL n t (a + 1))) := Lib.hid (by rw [HTN.out]; exact hT6)
            have HK6 : Hid (Keeps wo w6) := Lib.hid (HK1.out.grown HT1.out (Nat.le_refl _) hg6)
            clear hT6 hg6 HT1 HK1
            refine (CS.out _).mono ?_
            rintro e w7 ⟨rfl, rfl⟩
            go_wp2_with fail
            refine (CPA.out _).mono ?_
            rintro e w7 ⟨rfl, rfl⟩
            go_wp2_with fail
            go_roundw
            case rel => exact ⟨a + 1, d6, _, by omega, by go_num, by rw [← HM2.out], rfl, HT6, HK6⟩
            case measure => simp [intOf]; omega
      · obtain rfl : a = n := by omega
        have HWB : Hid (maskB (fun b => (muK a t b).testBit w0) a = whoB a w0 t) := Lib.hid rfl
        rw [HWB.out]
        have HF := Lib.hid (fun h => mu_first hn1 hn ht HNO.out h)
        have HM := Lib.hid (fun h => HMORE.out (t + 1) (by omega) h)
        have HX := Lib.hid (mu_next ⟨a, by omega⟩ ⟨t, ht⟩)
        have HZ := Lib.hid HNO.out
        have HK2 := Lib.hid (HK.out.step HKO.out)
        by_cases hz : whoB a w0 t = 0
        · have HN2 : Hid (∀ u, u < t + 1 → whoB a w0 u = 0) := Lib.hid (fun u hu => by
            by_cases e : u = t
            · rw [e]; exact hz
            · exact HZ.out u (by omega))
          rw [hz]
          clear hz
          have HT2 := Lib.hid (HT.out.mono HK.out.size)
          go_wp2_with fail
          go_loopw [14] (fun i wr => ∃ (b : Nat) (A2 : Option Addr) (c2 : Nat), b ≤ a ∧ i = .int .i64 b ∧ Hid (Blk wr V 93 #[.int .i64 W, .slice A2 a c2]) ∧ Hid (OwnRows wr w.heap.size A2 a c2 (muU a t b)) ∧ Hid (OwnInts wr w.heap.size g a d (tellsL a t a)) ∧ Hid (Keeps w wr)) (fun i _ => a - (intOf i).toNat)
          case atStart => exact ⟨0, A, c, by omega, rfl, HBV, HO, HT2, HK2⟩
          case round =>
            clear HBV HO HT2 HK2 HT HKO HK
            obtain ⟨b, A2, c2, hb, rfl, HBV, HO, HT, HK⟩ := hrel
            by_cases hlt : b < a
            · have hbi : (b : Int) < a := by omega
              have e0 : wr.cell? ⟨V, 0, none⟩ = some (.int .i64 W) := HBV.out.cell 0
              have e1 : wr.cell? ⟨V, 1, none⟩ = some (.slice A2 a c2) := HBV.out.cell 1
              have f0 := HBV.out.frozen 0
              have f1 := HBV.out.frozen 1
              obtain ⟨bg, og, rfl, hct⟩ := HT.out.ints b hlt
              simp only [tellsL_at a t hlt] at hct
              have CT := Lib.hid (fun w' (k : Keeps wr w') => HTELL.out w' A2 c2 _ t b ht hlt (HO.out.keeps k))
              generalize muK a t b = K at *
              go_wp2_with fail
              go_region_law (refine step_go 56 #[.tmp 90, .tmp 94] #[93, 3] rfl rfl (fun _ _ => rfl) (by simp [Act.eval, Act.put]) (CT.out _ (Keeps.drew1 _)) ?_; rintro e w6 ⟨A6, c6, rfl, hO6, hk6⟩; refine ⟨_, rfl, ?_⟩; have hkk := (Keeps.drew1 wr).step hk6; have d06 := cell_keeps hkk e0; have d16 := cell_keeps hkk e1; have f06 := (HBV.out.keeps hkk).frozen 0; have f16 := (HBV.out.keeps hkk).frozen 1)
              all_goals
                  have hB := HBV.out.keeps hkk
                  have HB3 := Lib.hid ((hB.set 0 (.int .i64 W)).set 1 (.slice A6 a c6))
                  have HK3 := Lib.hid (((HK.out.step hkk).setCell (p := ⟨V, 0, none⟩) hV (.int .i64 W)).setCell (p := ⟨V, 1, none⟩) hV (.slice A6 a c6))
                  have hO := hO6.mono (Nat.le_trans HK.out.size (Keeps.drew1 wr).size)
                  have HO3 := Lib.hid ((hO.grown (grown_set _ _ 0 (.int .i64 W)) hB (by decide) (by decide)).grown (grown_set _ _ 1 (.slice A6 a c6)) (hB.set 0 _) (by decide) (by decide))
                  have HT3 := Lib.hid (((HT.out.keeps hkk).grown (grown_set _ _ 0 (.int .i64 W)) hB (by decide)).grown (grown_set _ _ 1 (.slice A6 a c6)) (hB.set 0 _) (by decide))
                  clear hB hO hO6 hk6 hkk d06 d16 f06 f16
                  go_wp2_with fail
                  go_roundw
                  case rel => exact ⟨b + 1, A6, c6, by omega, by go_num, HB3, HO3, HT3, HK3⟩
                  case measure => simp [intOf]; omega
            · obtain rfl : b = a := by omega
              go_wp2_with fail
              go_roundw
              case rel =>
                have hx : muU b t b = muU b (t + 1) 0 := HX.out
                exact ⟨t + 1, A2, c2, HM.out HN2.out, by go_num, HBV, by rw [← hx]; exact HO, HN2, HK⟩
              case measure => simp [intOf]; omega
        · have hzi : 0 < ((whoB a w0 t : Nat) : Int) := by omega
          have HF2 := Lib.hid (HF.out hz)
          clear hz
          generalize whoB a w0 t = X at *
          go_wp2_with fail
          go_ret2
          exact ⟨⟨X, by rw [HF2.out]; rfl⟩, HK2.out⟩
end Go.Proofs.YtlniogfinofakaaGreatDoor
