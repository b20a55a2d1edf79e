/-
  The contracts of stopsBy, hears and validRun (the reference). Conditions: lengths at most 2^40; for hears, words heard in 0..15.
-/
import Derived.Test.YtepgogaoppdllaaSeenEq
namespace Go.Proofs.Ytepgogaoppdllaa
open Go.RowKit

theorem eq_bool {b c : Bool} (h : (b = true ↔ c = true)) : b = c := by cases b <;> cases c <;> simp_all

set_option maxRecDepth 100000 in
set_option maxHeartbeats 1000000 in
theorem stopsBy_any (I S : Option Addr) (n ci m cs p : Nat) (r : Int) (st : Nat → Int × Int × Int) (w : World) (hm : m ≤ 1099511627776) (hS : Stops w S m st) :
    Calls Try.prog 76 #[.agg #[.slice I n ci, .slice S m cs], .int .i64 p, .int .i64 r] w fun e w' => e = .returned (.bool (stopsB st m p r)) ∧ Keeps w w' := by
  have HS := Lib.hid hS
  clear hS
  go_enter Try.func76, Try.ntmps76
  go_wp2
  go_loopw [7] (fun i wr => ∃ k : Nat, k ≤ m ∧ i = .int .i64 k ∧ anyB (stopAt st p r) k = false ∧ Blk wr w.heap.size 26 #[.slice I n ci, .slice S m cs] ∧ Keeps w wr) (fun i _ => m - (intOf i).toNat)
  case atStart => exact ⟨0, by omega, rfl, rfl, Blk.new _ _ _, Keeps.alloc _ _⟩
  case round =>
    obtain ⟨k, hk, rfl, hA, hB, hK⟩ := hrel
    have b1 : wr.cell? ⟨w.heap.size, 1, none⟩ = some (.slice S m cs) := hB.cell 1
    have HA := Lib.hid hA
    have HB := Lib.hid hB
    clear hB hA
    by_cases hlt : k < m
    · obtain ⟨d, off, rfl, h0, h1, h2⟩ := HS.out.keeps hK k hlt
      have HF : Hid (stopAt st p r k = true → true = stopsB st m p r) := Lib.hid (fun h => ((anyB_iff _ _).2 ⟨k, hlt, h⟩).symm)
      have HG : Hid (stopAt st p r k = false → anyB (stopAt st p r) (k + 1) = false) := Lib.hid (fun h => by rw [anyB, HA.out, h]; rfl)
      have HT := Lib.hid (show stopAt st p r k = ((st k).1 == (p : Int) && decide ((st k).2.1 ≤ r)) from rfl)
      cases e1 : ((st k).1 == (p : Int))
      · have HV := Lib.hid (HG.out (by rw [HT.out, e1]; rfl))
        go_wp2
        go_roundw
        case rel => exact ⟨k + 1, by omega, by go_num, HV.out, HB.out, hK⟩
        case measure => simp [intOf]; omega
      · by_cases e2 : (st k).2.1 ≤ r
        · have HV := Lib.hid (HF.out (by rw [HT.out, e1]; simpa using e2))
          go_wp2
          go_ret
          exact ⟨ret_bool HV.out, hK⟩
        · have HV := Lib.hid (HG.out (by rw [HT.out, e1]; simpa using e2))
          go_wp2
          go_roundw
          case rel => exact ⟨k + 1, by omega, by go_num, HV.out, HB.out, hK⟩
          case measure => simp [intOf]; omega
    · have : k = m := by omega
      subst this
      have HV : Hid (false = stopsB st k p r) := Lib.hid (by unfold stopsB; rw [HA.out])
      go_wp2
      go_ret
      exact ⟨ret_bool HV.out, hK⟩

set_option maxRecDepth 100000 in
set_option maxHeartbeats 2000000 in
theorem hears_any (I S : Option Addr) (n ci m cs q p r : Nat) (st : Nat → Int × Int × Int) (w : World) (hm : m ≤ 1099511627776) (hp : p ≤ 62) (hok : ∀ i, i < m → 0 ≤ (st i).2.2 ∧ (st i).2.2 ≤ 15) (hS : Stops w S m st) :
    Calls Try.prog 75 #[.agg #[.slice I n ci, .slice S m cs], .int .i64 q, .int .i64 p, .int .i64 r] w fun e w' => e = .returned (.bool (hearsB st m q p r)) ∧ Keeps w w' := by
  have HS := Lib.hid hS
  have HOK := Lib.hid hok
  clear hS hok
  go_enter Try.func75, Try.ntmps75
  go_wp2
  go_loopw [9] (fun i wr => ∃ k : Nat, k ≤ m ∧ i = .int .i64 k ∧ anyB (deafAt st q p r) k = false ∧ Blk wr w.heap.size 26 #[.slice I n ci, .slice S m cs] ∧ Keeps w wr) (fun i _ => m - (intOf i).toNat)
  case atStart => exact ⟨0, by omega, rfl, rfl, Blk.new _ _ _, Keeps.alloc _ _⟩
  case round =>
    obtain ⟨k, hk, rfl, hA, hB, hK⟩ := hrel
    have b1 : wr.cell? ⟨w.heap.size, 1, none⟩ = some (.slice S m cs) := hB.cell 1
    have HA := Lib.hid hA
    have HB := Lib.hid hB
    clear hB hA
    by_cases hlt : k < m
    · obtain ⟨d, off, rfl, h0, h1, h2⟩ := HS.out.keeps hK k hlt
      obtain ⟨ho1, ho2⟩ := HOK.out k hlt
      have HF : Hid (deafAt st q p r k = true → false = hearsB st m q p r) := Lib.hid (fun h => by unfold hearsB; rw [(anyB_iff _ _).2 ⟨k, hlt, h⟩]; rfl)
      have HG : Hid (deafAt st q p r k = false → anyB (deafAt st q p r) (k + 1) = false) := Lib.hid (fun h => by rw [anyB, HA.out, h]; rfl)
      have HT := Lib.hid (show deafAt st q p r k = ((st k).1 == (q : Int) && (decide ((st k).2.1 < (r : Int)) || ((st k).2.1 == (r : Int) && !(st k).2.2.toNat.testBit p))) from rfl)
      obtain ⟨hh, hhe⟩ : ∃ hh : Nat, (st k).2.2 = (hh : Int) := ⟨(st k).2.2.toNat, by omega⟩
      have HE : Hid ((st k).2.2.toNat = hh) := Lib.hid (by omega)
      have hh15 : hh < 9223372036854775808 := by omega
      rw [hhe] at h2
      clear ho1 ho2 hhe
      cases e1 : ((st k).1 == (q : Int))
      · have HV := Lib.hid (HG.out (by rw [HT.out, e1]; rfl))
        go_wp2
        go_roundw
        case rel => exact ⟨k + 1, by omega, by go_num, HV.out, (HB.out.keeps (Keeps.alloc _ _)), hK.step (Keeps.alloc _ _)⟩
        case measure => simp [intOf]; omega
      · by_cases e2 : (st k).2.1 < (r : Int)
        · have HV := Lib.hid (HF.out (by rw [HT.out, e1]; simp [e2]))
          go_wp2
          go_ret
          exact ⟨ret_bool HV.out, hK.step (Keeps.alloc _ _)⟩
        · cases e3 : ((st k).2.1 == (r : Int))
          · have HV := Lib.hid (HG.out (by rw [HT.out, e1, e3]; simp [e2]))
            go_wp2
            go_roundw
            case rel => exact ⟨k + 1, by omega, by go_num, HV.out, (HB.out.keeps (Keeps.alloc _ _)), hK.step (Keeps.alloc _ _)⟩
            case measure => simp [intOf]; omega
          · cases e4 : hh.testBit p
            · have HV := Lib.hid (HF.out (by rw [HT.out, e1, e3, HE.out, e4]; simp))
              have hb : bitI (hh.testBit p) = 0 := by rw [e4]; rfl
              go_wp2_with fail
              refine (sbit_any _ _ _ hh15 hp).mono ?_
              rintro e w1 ⟨rfl, rfl⟩
              rw [hb]
              go_wp2
              go_ret
              exact ⟨ret_bool HV.out, hK.step (Keeps.alloc _ _)⟩
            · have HV := Lib.hid (HG.out (by rw [HT.out, e1, e3, HE.out, e4]; simp [e2]))
              have hb : bitI (hh.testBit p) = 1 := by rw [e4]; rfl
              go_wp2_with fail
              refine (sbit_any _ _ _ hh15 hp).mono ?_
              rintro e w1 ⟨rfl, rfl⟩
              rw [hb]
              go_wp2
              go_roundw
              case rel => exact ⟨k + 1, by omega, by go_num, HV.out, (HB.out.keeps (Keeps.alloc _ _)), hK.step (Keeps.alloc _ _)⟩
              case measure => simp [intOf]; omega
    · have : k = m := by omega
      subst this
      have HV : Hid (true = hearsB st k q p r) := Lib.hid (by unfold hearsB; rw [HA.out]; rfl)
      go_wp2
      go_ret
      exact ⟨ret_bool HV.out, hK⟩
end Go.Proofs.Ytepgogaoppdllaa
