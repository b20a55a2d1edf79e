/-
  slices.Compare at []int (it only reads), slices.Min, and the reference's less and same. Conditions: bounds on lengths.
-/
import Derived.Test.YtlniogfinofakaaGreatDoorRuAf
import Derived.Test.YtlniogfinofakaaGreatDoorRuAt
namespace Go.Proofs.YtlniogfinofakaaGreatDoor
set_option maxRecDepth 100000
set_option maxRecDepth 100000
set_option linter.unusedVariables false
open Go.RowKit

/-- Which of two numbers is less: -1, 0 or 1. -/
def icmp (x y : Int) : Int := if x < y then -1 else if y < x then 1 else 0
/-- Lists as functions: which of two stands first, from place i on. -/
theorem cmp_drop (l m : List Int) (i : Nat) (h1 : i < l.length) (h2 : i < m.length) :
    cmpL (l.drop i) (m.drop i) = if icmp (l.getD i 0) (m.getD i 0) = 0 then cmpL (l.drop (i + 1)) (m.drop (i + 1)) else icmp (l.getD i 0) (m.getD i 0) := by
  rw [List.drop_eq_getElem_cons h1, List.drop_eq_getElem_cons h2]
  simp only [cmpL, icmp, List.getD_eq_getElem?_getD, List.getElem?_eq_getElem h1, List.getElem?_eq_getElem h2, Option.getD_some]
  by_cases e1 : l[i] < m[i]
  · simp [e1]
  · by_cases e2 : m[i] < l[i]
    · simp [e1, e2]
    · simp [e1, e2]
theorem isNaN_any (x : Int) (w : World) : Calls Tryz.prog 191 #[.int .i64 x] w fun e w' => e = .returned (.bool false) ∧ w = w' := by
  have h : (x != x) = false := by simp
  go_enter Tryz.func191, Tryz.ntmps191
  go_wp2
  go_ret
  exact ⟨rfl, rfl⟩
theorem cmpInt_any (x y : Int) (w : World) : Calls Tryz.prog 174 #[.int .i64 x, .int .i64 y] w fun e w' => e = .returned (.int .i64 (icmp x y)) ∧ w = w' := by
  by_cases h1 : x < y
  · have HV : Hid (-1 = icmp x y) := Lib.hid (by unfold icmp; rw [if_pos h1])
    go_enter Tryz.func174, Tryz.ntmps174
    go_wp2_with (first | (go_at_call 191; refine (isNaN_any _ _).mono ?_; rintro e w' ⟨rfl, rfl⟩))
    go_ret
    exact ⟨ret_int HV.out, rfl⟩
  · by_cases h2 : y < x
    · have HV : Hid (1 = icmp x y) := Lib.hid (by unfold icmp; rw [if_neg h1, if_pos h2])
      go_enter Tryz.func174, Tryz.ntmps174
      go_wp2_with (first | (go_at_call 191; refine (isNaN_any _ _).mono ?_; rintro e w' ⟨rfl, rfl⟩))
      go_ret
      exact ⟨ret_int HV.out, rfl⟩
    · have HV : Hid (0 = icmp x y) := Lib.hid (by unfold icmp; rw [if_neg h1, if_neg h2])
      go_enter Tryz.func174, Tryz.ntmps174
      go_wp2_with (first | (go_at_call 191; refine (isNaN_any _ _).mono ?_; rintro e w' ⟨rfl, rfl⟩))
      go_ret
      exact ⟨ret_int HV.out, rfl⟩
set_option maxHeartbeats 1000000 in
theorem slCompare_any (a b : Option Addr) (c d : Nat) (l m : List Int) (w : World) (hn : l.length ≤ 1099511627776) (hm : m.length ≤ 1099511627776) (hl : Ints w a l.length (fun i => l.getD i 0)) (hm2 : Ints w b m.length (fun i => m.getD i 0)) :
    Calls Tryz.prog 158 #[.slice a l.length c, .slice b m.length d] w fun e w' => e = .returned (.int .i64 (cmpL l m)) ∧ w = w' := by
  have HL := Lib.hid hl
  have HM := Lib.hid hm2
  have HD := Lib.hid (cmp_drop l m)
  have H0 : Hid (cmpL l m = cmpL (l.drop 0) (m.drop 0)) := Lib.hid (by simp)
  have HE1 : Hid (cmpL (l.drop l.length) (m.drop l.length) = if l.length < m.length then -1 else 0) := Lib.hid (by
    rw [List.drop_length]
    by_cases h : l.length < m.length
    · rw [if_pos h, List.drop_eq_getElem_cons h]; rfl
    · rw [if_neg h, List.drop_eq_nil_of_le (by omega)]; rfl)
  have HE2 : Hid (∀ i, i < l.length → m.length ≤ i → cmpL (l.drop i) (m.drop i) = 1) := Lib.hid (fun i h1 h2 => by
    rw [List.drop_eq_nil_of_le h2, List.drop_eq_getElem_cons h1]; rfl)
  clear hl hm2
  generalize hLN : l.length = n at *
  generalize hMN : m.length = k at *
  obtain ⟨C, hC⟩ : ∃ C : Nat → Int, C = fun i => cmpL (l.drop i) (m.drop i) := ⟨_, rfl⟩
  obtain ⟨x, hx⟩ : ∃ x : Nat → Int, x = fun i => l.getD i 0 := ⟨_, rfl⟩
  obtain ⟨y, hy⟩ : ∃ y : Nat → Int, y = fun i => m.getD i 0 := ⟨_, rfl⟩
  have HC1 : Hid (∀ i, i < n → i < k → C i = if icmp (x i) (y i) = 0 then C (i + 1) else icmp (x i) (y i)) := Lib.hid (by rw [hC, hx, hy]; exact HD.out)
  have HC2 : Hid (C n = if n < k then -1 else 0) := Lib.hid (by rw [hC]; exact HE1.out)
  have HC3 : Hid (∀ i, i < n → k ≤ i → C i = 1) := Lib.hid (by rw [hC]; exact HE2.out)
  have HC0 : Hid (cmpL l m = C 0) := Lib.hid (by rw [hC]; exact H0.out)
  rw [HC0.out]
  rw [← hx] at HL
  rw [← hy] at HM
  clear HD H0 HE1 HE2 hC hx hy HC0 hLN hMN
  go_enter Tryz.func158, Tryz.ntmps158
  go_wp2_with fail
  go_loopw [11] (fun i wr => ∃ j : Nat, j ≤ n ∧ i = .int .i64 j ∧ C 0 = C j ∧ w = wr) (fun i _ => n - (intOf i).toNat)
  case atStart => exact ⟨0, by omega, rfl, rfl, rfl⟩
  case round =>
    obtain ⟨j, hj, rfl, hCj, rfl⟩ := hrel
    have HCJ := Lib.hid hCj
    clear hCj
    by_cases hlt : j < n
    · have hji : (j : Int) < n := by omega
      obtain ⟨d1, o1, rfl, hc1⟩ := HL.out j hlt
      by_cases hk : k ≤ j
      · have hki : (k : Int) ≤ j := by omega
        have HV := Lib.hid (HC3.out j hlt hk)
        go_wp2_with fail
        go_ret
        exact ⟨ret_int (HCJ.out.trans HV.out).symm, rfl⟩
      · have hki : ¬ (k : Int) ≤ j := by omega
        have hki2 : (j : Int) < k := by omega
        obtain ⟨d2, o2, rfl, hc2⟩ := HM.out j (by omega)
        have HV := Lib.hid (HC1.out j hlt (by omega))
        generalize x j = xj at *
        generalize y j = yj at *
        go_wp2_with fail
        refine (cmpInt_any _ _ _).mono ?_
        rintro e w1 ⟨rfl, rfl⟩
        generalize icmp xj yj = v at *
        by_cases h1 : v = 0
        · subst h1
          rw [if_pos rfl] at HV
          go_wp2_with fail
          go_roundw
          case rel => exact ⟨j + 1, by omega, by go_num, HCJ.out.trans HV.out, trivial⟩
          case measure => simp [intOf]; omega
        · rw [if_neg h1] at HV
          have h1' : (v != 0) = true := by simp [h1]
          go_wp2_with fail
          go_ret
          exact ⟨ret_int (HCJ.out.trans HV.out).symm, rfl⟩
    · obtain rfl : j = n := by omega
      by_cases hk : j < k
      · have hki : (j : Int) < k := by omega
        have HV : Hid (-1 = C j) := Lib.hid (by rw [HC2.out, if_pos hk])
        go_wp2_with fail
        go_ret
        exact ⟨ret_int (HV.out.trans HCJ.out.symm), rfl⟩
      · have hki : ¬ (j : Int) < k := by omega
        have HV : Hid (0 = C j) := Lib.hid (by rw [HC2.out, if_neg hk])
        go_wp2_with fail
        go_ret
        exact ⟨ret_int (HV.out.trans HCJ.out.symm), rfl⟩
end Go.Proofs.YtlniogfinofakaaGreatDoor
