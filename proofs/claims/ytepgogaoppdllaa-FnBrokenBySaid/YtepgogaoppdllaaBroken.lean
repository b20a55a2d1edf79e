/-
  Do generals break an agreement? Plain functions, and the contracts of broken (the program) and keepsOrders (the reference). Condition: at least one word that is not -1.
-/
import Derived.Test.YtepgogaoppdllaaOrdersI
import Derived.Test.YtepgogaoppdllaaAgreed
namespace Go.Proofs.Ytepgogaoppdllaa
open Go.RowKit

/-- The least of the first k + 1 numbers, and the greatest. -/
def minF (x : Nat → Int) : Nat → Int
  | 0 => x 0
  | k + 1 => min (minF x k) (x (k + 1))
def maxF (x : Nat → Int) : Nat → Int
  | 0 => x 0
  | k + 1 => max (maxF x k) (x (k + 1))
/-- The words but -1. -/
def leftL (N : Nat) (d : Nat → Int) : List Int := (il N d).filter (fun z => !(z == -1))
/-- The program's test. -/
def brkD (N : Nat) (d : Nat → Int) (order : Int) (liar : Nat) : Bool :=
  (minF (fun i => (leftL N d).getD i 0) ((leftL N d).length - 1) != maxF (fun i => (leftL N d).getD i 0) ((leftL N d).length - 1)) || ((liar : Int) != 0 && ((leftL N d).getD 0 0 != order))
/-- The reference's test at i. -/
def keepBad (d : Nat → Int) (order : Int) (liar : Nat) (i : Nat) : Bool := decide (0 ≤ d i) && ((liar : Int) != 0) && (d i != order)
def keepD (N : Nat) (d : Nat → Int) (order : Int) (liar : Nat) : Bool := !anyB (keepBad d order liar) N && agrB N d

set_option maxHeartbeats 1000000 in
theorem min_any (A : Option Addr) (m c : Nat) (x : Nat → Int) (w : World) (hm : m + 1 ≤ 1099511627776) (hI : Ints w A (m + 1) x) :
    Calls Try.prog 80 #[.slice A (m + 1) c] w fun e w' => e = .returned (.int .i64 (minF x m)) ∧ w = w' := by
  have HI := Lib.hid hI
  obtain ⟨d, off, rfl, hc0⟩ := hI 0 (by omega)
  clear hI
  obtain ⟨n, hn⟩ : ∃ n, n = m + 1 := ⟨_, rfl⟩
  rw [← hn] at hm HI ⊢
  have HN := Lib.hid hn
  have hn1 : (1 : Int) ≤ n := by omega
  have hn2 : (0 : Int) < n := by omega
  have hn3 : 0 < n := by omega
  have hn4 : ¬ ((n : Int) < 1) := by omega
  rw [Nat.add_zero] at hc0
  clear hn
  go_enter Try.func80, Try.ntmps80
  go_wp2_with fail
  go_loopw [4, 3] (fun i v wr => ∃ k : Nat, k < n ∧ i = .int .i64 ((k : Int) + 1) ∧ v = .int .i64 (minF x k) ∧ w = wr) (fun i _ _ => n + 1 - (intOf i).toNat)
  case atStart => exact ⟨0, by omega, by simp, rfl, rfl⟩
  case round =>
    obtain ⟨k, hk, rfl, rfl, rfl⟩ := hrel
    by_cases hlt : k + 1 < n
    · have hki : (k : Int) + 1 < n := by omega
      obtain ⟨_, _, e, hc⟩ := HI.out (k + 1) hlt
      cases e
      have HS := Lib.hid (show minF x (k + 1) = min (minF x k) (x (k + 1)) from rfl)
      generalize minF x k = v at *
      generalize x (k + 1) = z at *
      by_cases h : v ≤ z
      · have HV := Lib.hid (show minF x (k + 1) = v by rw [HS.out]; omega)
        have h' : ¬ z < v := by omega
        go_wp2
        go_roundw
        case rel => exact ⟨k + 1, by omega, by go_num, by rw [HV.out], trivial⟩
        case measure => simp [intOf]; omega
      · have HV := Lib.hid (show minF x (k + 1) = z by rw [HS.out]; omega)
        have h' : z < v := by omega
        go_wp2
        go_roundw
        case rel => exact ⟨k + 1, by omega, by go_num, by rw [HV.out], trivial⟩
        case measure => simp [intOf]; omega
    · have hki : ¬ ((k : Int) + 1 < n) := by omega
      have HV : Hid (minF x k = minF x m) := Lib.hid (by rw [show k = m by have := HN.out; omega])
      go_wp2
      go_ret
      exact ⟨ret_int HV.out, rfl⟩
set_option maxHeartbeats 1000000 in
theorem max_any (A : Option Addr) (m c : Nat) (x : Nat → Int) (w : World) (hm : m + 1 ≤ 1099511627776) (hI : Ints w A (m + 1) x) :
    Calls Try.prog 81 #[.slice A (m + 1) c] w fun e w' => e = .returned (.int .i64 (maxF x m)) ∧ w = w' := by
  have HI := Lib.hid hI
  obtain ⟨d, off, rfl, hc0⟩ := hI 0 (by omega)
  clear hI
  obtain ⟨n, hn⟩ : ∃ n, n = m + 1 := ⟨_, rfl⟩
  rw [← hn] at hm HI ⊢
  have HN := Lib.hid hn
  have hn1 : (1 : Int) ≤ n := by omega
  have hn2 : (0 : Int) < n := by omega
  have hn3 : 0 < n := by omega
  have hn4 : ¬ ((n : Int) < 1) := by omega
  rw [Nat.add_zero] at hc0
  clear hn
  go_enter Try.func81, Try.ntmps81
  go_wp2_with fail
  go_loopw [4, 3] (fun i v wr => ∃ k : Nat, k < n ∧ i = .int .i64 ((k : Int) + 1) ∧ v = .int .i64 (maxF x k) ∧ w = wr) (fun i _ _ => n + 1 - (intOf i).toNat)
  case atStart => exact ⟨0, by omega, by simp, rfl, rfl⟩
  case round =>
    obtain ⟨k, hk, rfl, rfl, rfl⟩ := hrel
    by_cases hlt : k + 1 < n
    · have hki : (k : Int) + 1 < n := by omega
      obtain ⟨_, _, e, hc⟩ := HI.out (k + 1) hlt
      cases e
      have HS := Lib.hid (show maxF x (k + 1) = max (maxF x k) (x (k + 1)) from rfl)
      generalize maxF x k = v at *
      generalize x (k + 1) = z at *
      by_cases h : z ≤ v
      · have HV := Lib.hid (show maxF x (k + 1) = v by rw [HS.out]; omega)
        have h' : ¬ v < z := by omega
        go_wp2
        go_roundw
        case rel => exact ⟨k + 1, by omega, by go_num, by rw [HV.out], trivial⟩
        case measure => simp [intOf]; omega
      · have HV := Lib.hid (show maxF x (k + 1) = z by rw [HS.out]; omega)
        have h' : v < z := by omega
        go_wp2
        go_roundw
        case rel => exact ⟨k + 1, by omega, by go_num, by rw [HV.out], trivial⟩
        case measure => simp [intOf]; omega
    · have hki : ¬ ((k : Int) + 1 < n) := by omega
      have HV : Hid (maxF x k = maxF x m) := Lib.hid (by rw [show k = m by have := HN.out; omega])
      go_wp2
      go_ret
      exact ⟨ret_int HV.out, rfl⟩
set_option maxHeartbeats 400000 in
theorem br1_any (k : Int) (w : World) : Calls Try.prog 79 #[.int .i64 k] w fun e w' => e = .returned (.bool (k == -1)) ∧ Keeps w w' := by
  go_enter Try.func79, Try.ntmps79
  go_wp2
  go_ret
  exact ⟨rfl, Keeps.refl _⟩
set_option maxRecDepth 100000 in
set_option maxHeartbeats 2000000 in
theorem broken_any (A : Option Addr) (N c liar : Nat) (d : Nat → Int) (order : Int) (w : World) (hN : N ≤ 1048576) (h1 : 1 ≤ N) (hF : 1 ≤ (leftL N d).length) (hI : Ints w A N d) :
    Calls Try.prog 56 #[.slice A N c, .int .i64 order, .int .i64 liar] w fun e w' => e = .returned (.bool (brkD N d order liar)) ∧ Keeps w w' := by
  have HI := Lib.hid hI
  obtain ⟨b, off, rfl, _⟩ := hI 0 (by omega)
  clear hI
  have HB := Lib.hid (show brkD N d order liar = ((minF (fun i => (leftL N d).getD i 0) ((leftL N d).length - 1) != maxF (fun i => (leftL N d).getD i 0) ((leftL N d).length - 1)) || ((liar : Int) != 0 && ((leftL N d).getD 0 0 != order))) from rfl)
  have hz : ∀ i, i < N → w.cell? ⟨b, off + i, none⟩ = some (.int .i64 (d i)) := fun i hi => by
    obtain ⟨_, _, e, hc⟩ := HI.out i hi
    cases e
    exact hc
  have HZ := Lib.hid hz
  clear hz
  go_enter Try.func56, Try.ntmps56
  go_wp2_with fail
  refine (clone_any b off N c d _ h1 (by omega) HZ.out).mono ?_
  intro e w1 hA
  obtain ⟨B, cb, rfl, hO, hk1⟩ := hA
  rw [show (List.range N).map d = il N d from rfl, il_len] at hO ⊢
  have HO := Lib.hid hO
  clear hO
  go_wp2_with fail
  refine (delete_any 79 (fun _ _ => rfl) br1_any w.heap.size B N cb _ _ hN HO.out w hk1 (Nat.le_refl _)).mono ?_
  rintro e w2 ⟨k, hkn, rfl, hO2, hk2⟩
  rw [show (il N d).filter (fun z => !(z == -1)) = leftL N d from rfl] at hO2
  have hl2 := hO2.len
  generalize leftL N d = F at *
  obtain ⟨m, rfl⟩ : ∃ m, k = m + 1 := ⟨k - 1, by omega⟩
  have hI2 := hO2.ints
  have hc0 := hO2.at (by omega)
  obtain ⟨g, rfl⟩ := hc0
  have hcell := hO2.cell 0 (by omega)
  have hm1 : F.length - 1 = m := by omega
  rw [hm1] at HB
  have HI2 := Lib.hid hI2
  generalize hv0 : F.getD 0 0 = v0 at *
  have HV0 := Lib.hid hv0
  have hmb : m + 1 ≤ 1099511627776 := by omega
  have CMin := Lib.hid (min_any (some ⟨g, 0, none⟩) m cb (fun i => F.getD i 0) w2 hmb HI2.out)
  have CMax := Lib.hid (max_any (some ⟨g, 0, none⟩) m cb (fun i => F.getD i 0) w2 hmb HI2.out)
  generalize minF (fun i => F.getD i 0) m = mi at *
  generalize maxF (fun i => F.getD i 0) m = ma at *
  clear hO2 hI2 hv0 hl2 hm1 hF hkn
  go_wp2_with fail
  refine CMin.out.mono ?_
  rintro e w3 ⟨rfl, rfl⟩
  go_wp2_with fail
  refine CMax.out.mono ?_
  rintro e w3 ⟨rfl, rfl⟩
  cases e1 : (mi != ma)
  · cases e2 : ((liar : Int) != 0)
    · have HV : Hid (false = brkD N d order liar) := Lib.hid (by rw [HB.out, e1, e2]; rfl)
      go_wp2
      go_ret
      exact ⟨ret_bool HV.out, hk2⟩
    · have HV : Hid ((v0 != order) = brkD N d order liar) := Lib.hid (by rw [HB.out, e1, e2]; rfl)
      go_wp2
      go_ret
      exact ⟨ret_bool HV.out, hk2⟩
  · have HV : Hid (true = brkD N d order liar) := Lib.hid (by rw [HB.out, e1]; rfl)
    go_wp2
    go_ret
    exact ⟨ret_bool HV.out, hk2⟩
set_option maxRecDepth 100000 in
set_option maxHeartbeats 2000000 in
theorem keeps_any (n N liar c : Nat) (order : Int) (L : Option Addr) (ly : Nat → Int) (w : World) (hn : n ≤ 5) (hN : n = N + 1) (ho : 0 ≤ order ∧ order ≤ 1) (hI : Ints w L (n * n) ly) (hb : ∀ i, i < n * n → 0 ≤ ly i ∧ ly i ≤ 1) :
    Calls Try.prog 52 #[.int .i64 n, .int .i64 order, .int .i64 liar, .slice L (n * n) c] w fun e w' => e = .returned (.bool (keepD N (fun i => ordF n liar ly order (i + 1)) order liar)) ∧ Keeps w w' := by
  have CO := Lib.hid (sorders_any n N liar c order L ly w hn hN ho hI hb)
  have hN5 : N ≤ 5 := by omega
  clear hI hb hN
  generalize n * n = nn at *
  generalize (fun i => ordF n liar ly order (i + 1)) = d at *
  go_enter Try.func52, Try.ntmps52
  go_wp2_with fail
  refine CO.out.mono ?_
  intro e w1 hA
  obtain ⟨A, ca, rfl, hO, hk1⟩ := hA
  rw [il_len] at hO ⊢
  have hI1 : Ints w1 A N d := fun i hi => by
    obtain ⟨b, off, e, hc⟩ := hO.ints i hi
    exact ⟨b, off, e, by dsimp only at hc; rw [il_getD _ _ _ hi] at hc; exact hc⟩
  have HI := Lib.hid hI1
  clear hO hI1
  go_wp2_with fail
  go_loopw [10] (fun i wr => ∃ k : Nat, k ≤ N ∧ i = .int .i64 k ∧ Hid (anyB (keepBad d order liar) k = false) ∧ w1 = wr) (fun i _ => N - (intOf i).toNat)
  case atStart => exact ⟨0, by omega, rfl, Lib.hid rfl, rfl⟩
  case round =>
    obtain ⟨k, hk, rfl, HA, rfl⟩ := hrel
    by_cases hlt : k < N
    · have hki : (k : Int) < N := by omega
      obtain ⟨b, off, rfl, hc⟩ := HI.out k hlt
      have HT := Lib.hid (show keepBad d order liar k = (decide (0 ≤ d k) && ((liar : Int) != 0) && (d k != order)) from rfl)
      have HBAD : Hid (keepBad d order liar k = true → false = keepD N d order liar) := Lib.hid (fun h => by unfold keepD; rw [(anyB_iff _ _).2 ⟨k, hlt, h⟩]; rfl)
      have HGO : Hid (keepBad d order liar k = false → anyB (keepBad d order liar) (k + 1) = false) := Lib.hid (fun h => by rw [anyB, HA.out, h]; rfl)
      generalize d k = z at *
      by_cases e1 : 0 ≤ z
      · cases e2 : ((liar : Int) != 0)
        · have HV := Lib.hid (HGO.out (by rw [HT.out, e2]; simp))
          go_wp2
          go_roundw
          case rel => exact ⟨k + 1, by omega, by go_num, HV, trivial⟩
          case measure => simp [intOf]; omega
        · cases e3 : (z != order)
          · have HV := Lib.hid (HGO.out (by rw [HT.out, e3]; simp))
            go_wp2
            go_roundw
            case rel => exact ⟨k + 1, by omega, by go_num, HV, trivial⟩
            case measure => simp [intOf]; omega
          · have HV := Lib.hid (HBAD.out (by rw [HT.out, e2, e3]; simp [e1]))
            go_wp2
            go_ret
            exact ⟨ret_bool HV.out, hk1⟩
      · have HV := Lib.hid (HGO.out (by rw [HT.out]; simp [e1]))
        go_wp2
        go_roundw
        case rel => exact ⟨k + 1, by omega, by go_num, HV, trivial⟩
        case measure => simp [intOf]; omega
    · obtain rfl : k = N := by omega
      have HV : Hid (agrB k d = keepD k d order liar) := Lib.hid (by unfold keepD; rw [HA.out]; rfl)
      go_wp2_with fail
      refine (sagreed_any A k ca d _ (by omega) HI.out).mono ?_
      rintro e w2 ⟨rfl, hk2⟩
      rw [HV.out]
      go_wp2
      go_ret
      exact ⟨rfl, hk1.step hk2⟩
end Go.Proofs.Ytepgogaoppdllaa
