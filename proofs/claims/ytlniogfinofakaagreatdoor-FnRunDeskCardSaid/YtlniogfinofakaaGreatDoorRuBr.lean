/-
  The walk of FnRunDesk: whatever the code is, it returns true, and nothing that was there turns. Conditions: the code's length; the laid variables.
-/
import Derived.Test.YtlniogfinofakaaGreatDoorRuBn
import Derived.Test.YtlniogfinofakaaGreatDoorRuBq
import Derived.Test.YtlniogfinofakaaGreatDoorRuBm
namespace Go.Proofs.YtlniogfinofakaaGreatDoor
set_option maxRecDepth 100000
open Go.RowKit Go.Lib
set_option linter.unusedVariables false

theorem newlines_any (s : ByteArray) (w : World) (hs : s.size ≤ 1099511627776) :
    Calls Tryz.prog 11 #[.string s] w fun e w' => e = .returned (.int .i64 ((s.data.toList.count 10 : Nat) : Int)) ∧ w = w' := by
  go_enter Tryz.func11, Tryz.ntmps11
  go_wp2_with fail
  go_loop [3, 4] (fun n i => ∃ k : Nat, k ≤ s.size ∧ i = .int .i64 k ∧ n = .int .i64 (((s.data.toList.take k).count 10 : Nat) : Int)) (fun _ i => s.size - (intOf i).toNat)
  case atStart => exact ⟨0, by omega, rfl, rfl⟩
  case round =>
    obtain ⟨k, hk, rfl, rfl⟩ := hrel
    by_cases hlt : k < s.size
    · have hki : (k : Int) < s.size := by omega
      have hkl : k < s.data.toList.length := by simpa using hlt
      have hcl : (s.data.toList.take k).count 10 ≤ k := Nat.le_trans List.count_le_length (by rw [List.length_take]; omega)
      have HN : Hid ((s.data.toList.take (k + 1)).count 10 = (s.data.toList.take k).count 10 + (if s[k].toNat = 10 then 1 else 0)) := Lib.hid (by
        rw [List.take_add_one, List.getElem?_eq_getElem hkl, List.count_append]
        have e : s.data.toList[k] = s[k] := rfl
        rw [e]
        by_cases h : s[k].toNat = 10
        · have : s[k] = 10 := UInt8.toNat_inj.1 h
          simp [this]
        · have : s[k] ≠ 10 := fun e => h (by rw [e]; rfl)
          simp [h, this])
      generalize (s.data.toList.take k).count 10 = m at *
      by_cases h10 : s[k].toNat = 10
      · have HN2 := Lib.hid (HN.out.trans (by rw [if_pos h10]))
        have h10i : ((s[k].toNat : Nat) : Int) = 10 := by omega
        go_wp2_with fail
        go_round
        case rel => exact ⟨k + 1, by omega, by go_num, by rw [HN2.out]; rfl⟩
        case measure => simp [intOf]; omega
      · have HN2 := Lib.hid (HN.out.trans (by rw [if_neg h10]))
        have h10i : ¬ ((s[k].toNat : Nat) : Int) = 10 := by omega
        go_wp2_with fail
        go_round
        case rel => exact ⟨k + 1, by omega, by go_num, by rw [HN2.out]; rfl⟩
        case measure => simp [intOf]; omega
    · obtain rfl : k = s.size := by omega
      have ht : s.data.toList.take s.size = s.data.toList := List.take_of_length_le (by simp)
      rw [ht]
      go_wp2_with fail
      go_ret
      exact ⟨rfl, rfl⟩
set_option maxHeartbeats 4000000 in
theorem FnRunDesk_walk (a : Option Addr) (n c : Nat) (w : World) (hB : Bytes w w.heap.size a n) (hn : n ≤ 9223372036854775807) (hc : n ≤ c) (hc2 : c ≤ 9223372036854775807) (hv : Vars w) :
    Calls Tryz.prog 4 #[.slice a n c] w fun e w' => e = .returned (.bool true) ∧ Keeps w w' := by
  have HV := Lib.hid hv
  have HB := Lib.hid hB
  clear hv hB
  by_cases hbig : (n : Int) > 1048576
  · go_enter Tryz.func4, Tryz.ntmps4
    go_wp2_with fail
    go_ret
    exact ⟨rfl, Keeps.refl _⟩
  · have CD := Lib.hid (drawRunDesk_any a n c w HB.out (by omega) hc hc2)
    go_enter Tryz.func4, Tryz.ntmps4
    go_wp2_with fail
    refine (CD.out).mono ?_
    rintro e w1 ⟨g, m, d, L, rfl, hO, hL, hm, hk1⟩
    have hlen := hO.len
    have hmd : m ≤ d := by
      rcases hO.2 with ⟨e, h0⟩ | ⟨g', cap, cur, e, _, _, h4, _⟩
      · cases e
      · cases e; exact h4
    obtain ⟨f, hf⟩ : ∃ f : Nat → ByteArray, f = fun i => L.getD i ByteArray.empty := ⟨_, rfl⟩
    have hS : Strs w1 (some ⟨g, 0, none⟩) m f := by rw [hf]; exact hO.strs
    have hfs : ∀ i, i < m → (f i).size ≤ 100000 := fun i hi => by
      rw [hf]
      refine hL _ ?_
      show L.getD i ByteArray.empty ∈ L
      rw [List.getD_eq_getElem?_getD, List.getElem?_eq_getElem (by omega : i < L.length)]
      exact List.getElem_mem _
    have HS := Lib.hid hS
    have HF := Lib.hid hfs
    have HK1 := Lib.hid hk1
    have CIR := Lib.hid (fun k cc W (hk : k ≤ m) (kk : Keeps w1 W) => iRunDesk_any (some ⟨g, 0, none⟩) k cc f W (by omega) (fun i hi => hS.keeps kk i (by omega)) (fun i hi => by have := hfs i (by omega); omega) (HV.out.keeps (hk1.step kk)))
    have CSR := Lib.hid (fun cc W (kk : Keeps w1 W) => sRunDesk_any (some ⟨g, 0, none⟩) m cc f W (by omega) (hS.keeps kk) (fun i hi => by have := hfs i hi; omega))
    have HDT : Hid (∀ k, k ≤ m → deskT k f = deskK f k) := Lib.hid (fun k hk => by unfold deskT; rw [if_neg (by omega)])
    clear hS hfs hO hL hk1 hf CD hlen
    obtain ⟨Y, hY⟩ : ∃ Y : Nat → ByteArray, ∀ k, Y k = ⟨(deskK f k).toArray⟩ := ⟨_, fun _ => rfl⟩
    have CI := Lib.hid (fun k cc W (hk : k ≤ m) (kk : Keeps w1 W) => by
      have h := CIR.out k cc W hk kk
      rw [HDT.out k hk, ← hY k] at h
      exact h)
    have CS := Lib.hid (fun cc W (kk : Keeps w1 W) => by
      have h := CSR.out cc W kk
      rw [HDT.out m (Nat.le_refl _), ← hY m] at h
      exact h)
    have CI1 := Lib.hid (CI.out m d w1 (Nat.le_refl _) (Keeps.refl _))
    have hYs : (Y m).size ≤ 1000 := by rw [hY]; show (deskK f m).length ≤ 1000; have := deskK_len f m; omega
    have hq : ((Y m).toList == (Y m).toList) = true := by simp
    have HPRE : Hid (∀ k, k ≤ m → (Y k).size ≤ (Y m).size ∧ (Y m).extract 0 (Y k).size = Y k) := Lib.hid (fun k hk => by
      obtain ⟨r, hr⟩ := deskK_pre f k (m - k)
      rw [show k + (m - k) = m by omega] at hr
      rw [hY, hY, hr]
      refine ⟨by show (deskK f k).length ≤ (deskK f k ++ r).length; rw [List.length_append]; omega, ?_⟩
      apply ByteArray.ext
      apply Array.ext'
      show ((⟨(deskK f k ++ r).toArray⟩ : ByteArray).extract 0 (deskK f k).length).data.toList = deskK f k
      simp [ByteArray.data_extract])
    have HCNT : Hid ((Y m).data.toList.count 10 = m) := Lib.hid (by rw [hY]; exact deskK_nl f m)
    clear CIR CSR HDT HS HF hY
    go_wp2_with fail
    refine (CI1.out).mono ?_
    rintro e w2 ⟨rfl, hk2⟩
    have HK2 := Lib.hid hk2
    have CS2 := Lib.hid (CS.out d w2 hk2)
    clear hk2 CI1
    go_wp2_with fail
    refine (CS2.out).mono ?_
    rintro e w3 ⟨rfl, hk3⟩
    have HK3 := Lib.hid (HK2.out.step hk3)
    have CS3 := Lib.hid (CS.out d w3 HK3.out)
    clear hk3 CS2
    by_cases hemp : (Y m).toList.isEmpty = true
    · go_wp2_with fail
      refine (CS3.out).mono ?_
      rintro e w4 ⟨rfl, hk4⟩
      have HK4 := Lib.hid (HK3.out.step hk4)
      clear hk4
      go_wp2_with fail
      go_ret
      exact ⟨rfl, HK1.out.step HK4.out⟩
    · have hemp' : (Y m).toList.isEmpty = false := by simpa using hemp
      have CNL := Lib.hid (fun W => newlines_any (Y m) W (by omega))
      rw [HCNT.out] at CNL
      clear hemp CS3
      go_wp2_with fail
      go_loopw [5] (fun i wr => ∃ k : Nat, k ≤ m + 1 ∧ i = .int .i64 k ∧ Hid (Keeps w1 wr)) (fun i _ => m + 1 - (intOf i).toNat)
      case atStart => exact ⟨0, by omega, rfl, HK3⟩
      case round =>
        clear HK3 HK2
        obtain ⟨k, hk, rfl, HK⟩ := hrel
        by_cases hle : k ≤ m
        · have hki : (k : Int) ≤ m := by omega
          have hkd : (k : Int) ≤ d := by omega
          obtain ⟨hp1, hp2⟩ := HPRE.out k hle
          have hys : (Y k).size ≤ 1000 := by omega
          have hp1i : ¬ ((Y k).size : Int) > ((Y m).size : Int) := by omega
          have hqk : ((Y k).toList == (Y k).toList) = true := by simp
          have CIk := Lib.hid (CI.out k d wr hle HK.out)
          go_wp2_with fail
          refine (CIk.out).mono ?_
          rintro e w5 ⟨rfl, hk5⟩
          have HK5 := Lib.hid (HK.out.step hk5)
          clear hk5 CIk
          go_wp2_with fail
          go_roundw
          case rel => exact ⟨k + 1, by omega, by go_num, HK5⟩
          case measure => simp [intOf]; omega
        · obtain rfl : k = m + 1 := by omega
          have hki : ¬ ((m + 1 : Nat) : Int) ≤ m := by omega
          have hki2 : ¬ (m : Int) + 1 ≤ m := by omega
          go_wp2_with fail
          refine (CNL.out _).mono ?_
          rintro e w5 ⟨rfl, rfl⟩
          have hmm : ((m : Int) == (m : Int)) = true := by simp
          go_wp2_with fail
          go_ret
          exact ⟨rfl, HK1.out.step HK.out⟩
end Go.Proofs.YtlniogfinofakaaGreatDoor
