/-
  The contracts of the election: validMarks and ElectOf of the reference, ringMarks and ElectOf of the program. Conditions: lengths at most 2^40.
-/
import Derived.Test.YtlniogfinofakaaGreatDoorRuAp
import Derived.Test.YtlniogfinofakaaGreatDoorRuAf
import Derived.Test.YtlniogfinofakaaGreatDoorRuAb
import Derived.Deep.QuietTactic
import Derived.BigQuiet
namespace Go.Proofs.YtlniogfinofakaaGreatDoor
set_option maxRecDepth 100000
set_option linter.unusedVariables false
set_option maxRecDepth 100000
open Go.RowKit

def marksX (n : Nat) (x : Nat → Int) : Bool := (inB n 1 6 && !anyB (fun i => !inB (x i) 0 20) n) && !anyB (fun i => anyB (fun k => x k == x i) i) n
theorem marks_range {n j : Nat} {x : Nat → Int} (hj : j < n) (h : inB (x j) 0 20 = false) : marksX n x = false := by
  unfold marksX
  rw [(anyB_iff _ _).2 ⟨j, hj, by rw [h]; rfl⟩]
  simp
theorem marks_same {n j k : Nat} {x : Nat → Int} (hj : j < n) (hk : k < j) (h : (x k == x j) = true) : marksX n x = false := by
  unfold marksX
  rw [(anyB_iff (fun i => anyB (fun k => x k == x i) i) n).2 ⟨j, hj, (anyB_iff _ _).2 ⟨k, hk, h⟩⟩]
  simp
theorem marks_end {n : Nat} {x : Nat → Int} (h1 : anyB (fun i => !inB (x i) 0 20) n = false) (h2 : anyB (fun i => anyB (fun k => x k == x i) i) n = false) : marksX n x = inB n 1 6 := by
  unfold marksX
  rw [h1, h2]
  simp
theorem anyB_step {p : Nat → Bool} {k : Nat} (h : anyB p k = false) (h2 : p k = false) : anyB p (k + 1) = false := by
  show (anyB p k || p k) = false
  rw [h, h2]; rfl
theorem marks_n {n : Nat} {x : Nat → Int} (h : marksX n x = true) : 1 ≤ n ∧ n ≤ 6 := by
  unfold marksX at h
  simp only [Bool.and_eq_true] at h
  have := inB_true h.1.1
  omega
def atN (x : Nat → Int) (v : Nat) : Nat := atE x (v - 1)
theorem atN_next (x : Nat → Int) (v : Nat) : atN x (v + 1) = if x v > x (atN x v) then v else atN x v := by
  unfold atN
  cases v with
  | zero => simp [atE]
  | succ v => simp only [Nat.add_sub_cancel]; rw [atE]
theorem atN_le (x : Nat → Int) {v n : Nat} (hn : 1 ≤ n) (h : v ≤ n) : atN x v < n := by
  have := atE_le x (v - 1)
  unfold atN
  omega
theorem sumE_bd {x : Nat → Int} {n v : Nat} (hn : n ≤ 6) (hv : v ≤ n) : sumE x n v ≤ 42 := by
  have h1 := sumE_le x n v
  have h2 : (n + 1) * v ≤ 7 * 6 := Nat.mul_le_mul (by omega) (by omega)
  omega
theorem top_at {x : Nat → Int} {n : Nat} (hn : 1 ≤ n) : idxB (fun q => topF x (n - 1) == x q) n = ((atE x (n - 1) : Nat) : Int) := by
  have h1 := atE_le x (n - 1)
  obtain ⟨i, hi, e⟩ := topF_at x (n - 1)
  have h2 := topF_ge x (n - 1) (atE x (n - 1)) h1
  have h3 := atE_max x (n - 1) i hi
  symm
  refine idxB_at _ n _ (by omega) ?_ (fun j hj => ?_)
  · simp only [beq_iff_eq]; omega
  · have := atE_first x (n - 1) j hj
    simp only [beq_eq_false_iff_ne]; omega
theorem mod_facts {n a : Nat} (hn1 : 1 ≤ n) : ((a : Int)) % (n : Int) = ((a % n : Nat) : Int) ∧ Int.tmod (a : Int) (n : Int) = ((a % n : Nat) : Int) ∧ a % n < n := by
  refine ⟨(Int.natCast_emod a n).symm, ?_, Nat.mod_lt _ (by omega)⟩
  rw [Int.tmod_eq_emod_of_nonneg (by omega)]
  exact (Int.natCast_emod a n).symm
set_option maxHeartbeats 2000000 in
theorem svalidMarks_any (a : Option Addr) (n c : Nat) (x : Nat → Int) (w : World) (hn : n ≤ 1099511627776) (hI : Ints w a n x) :
    Calls Tryz.prog 30 #[.slice a n c] w fun e w' => e = .returned (.bool (marksX n x)) ∧ Keeps w w' := by
  have HI := Lib.hid hI
  clear hI
  go_enter Tryz.func30, Tryz.ntmps30
  go_wp2_with fail
  go_loopw [3] (fun i wr => ∃ j : Nat, j ≤ n ∧ i = .int .i64 j ∧ Hid (anyB (fun i => !inB (x i) 0 20) j = false) ∧ Hid (anyB (fun i => anyB (fun k => x k == x i) i) j = false) ∧ Keeps w wr) (fun i _ => n - (intOf i).toNat)
  case atStart => exact ⟨0, by omega, rfl, Lib.hid rfl, Lib.hid rfl, Keeps.refl _⟩
  case round =>
    obtain ⟨j, hj, rfl, HR, HS, hK⟩ := hrel
    by_cases hlt : j < n
    · have hji : (j : Int) < n := by omega
      obtain ⟨d, off, rfl, hc0⟩ := HI.out j hlt
      have hc := cell_keeps hK hc0
      have CR := Lib.hid (fun w => inRange_any (x j) 0 20 w)
      cases hz : inB (x j) 0 20
      · have HB := Lib.hid (marks_range hlt hz)
        rw [hz] at CR
        clear hz hc0
        go_wp2_with fail
        refine (CR.out _).mono ?_
        rintro e w1 ⟨rfl, rfl⟩
        go_wp2_with fail
        go_ret
        exact ⟨ret_bool HB.out.symm, hK⟩
      · have HR2 := Lib.hid (anyB_step HR.out (show (!inB (x j) 0 20) = false by rw [hz]; rfl))
        rw [hz] at CR
        clear hz hc0
        go_wp2_with fail
        refine (CR.out _).mono ?_
        rintro e w1 ⟨rfl, rfl⟩
        go_wp2_with fail
        obtain ⟨wo, rfl⟩ : ∃ wo : World, wo = wr := ⟨_, rfl⟩
        go_loopw [4] (fun i wr => ∃ k : Nat, k ≤ j ∧ i = .int .i64 k ∧ Hid (anyB (fun k => x k == x j) k = false) ∧ Keeps wo wr) (fun i _ => j - (intOf i).toNat)
        case atStart => exact ⟨0, by omega, rfl, Lib.hid rfl, Keeps.refl _⟩
        case round =>
          obtain ⟨k, hk, rfl, HA, hK2⟩ := hrel
          by_cases hkt : k < j
          · have hki : (k : Int) < j := by omega
            have hkn : (k : Int) < n := by omega
            obtain ⟨_, _, e, hk0⟩ := HI.out k (by omega)
            cases e
            have hck := cell_keeps (hK.step hK2) hk0
            have hcj := cell_keeps hK2 hc
            have HS1 : Hid ((x k == x j) = true → marksX n x = false) := Lib.hid (marks_same hlt hkt)
            have HA1 : Hid ((x k == x j) = false → anyB (fun k => x k == x j) (k + 1) = false) := Lib.hid (anyB_step HA.out)
            obtain ⟨y, hy⟩ : ∃ y, y = x k := ⟨_, rfl⟩
            obtain ⟨z, hz⟩ : ∃ z, z = x j := ⟨_, rfl⟩
            rw [← hy] at hck HS1
            rw [← hz] at hcj HS1
            have HYZ : Hid ((x k == x j) = (y == z)) := Lib.hid (by rw [hy, hz])
            clear hy hz hk0 hc
            cases hyz : (y == z)
            · have HA2 := Lib.hid (HA1.out (HYZ.out.trans hyz))
              go_wp2_with fail
              go_quiet (fail)
              go_wp2_with fail
              go_roundw
              case rel => exact ⟨k + 1, by omega, by go_num, HA2, hK2.step (Keeps.drewN _ _)⟩
              case measure => simp [intOf]; omega
            · have HS2 := Lib.hid (HS1.out hyz)
              go_wp2_with fail
              go_quiet (fail)
              go_wp2_with fail
              go_ret
              exact ⟨ret_bool HS2.out.symm, hK.step (hK2.step (Keeps.drewN _ _))⟩
          · obtain rfl : k = j := by omega
            have HS2 := Lib.hid (anyB_step HS.out HA.out)
            clear hc
            go_wp2_with fail
            go_roundw
            case rel => exact ⟨k + 1, by omega, by go_num, HR2, HS2, hK.step hK2⟩
            case measure => simp [intOf]; omega
    · obtain rfl : j = n := by omega
      have HE := Lib.hid (marks_end HR.out HS.out)
      have CN := Lib.hid (fun w => inRange_any j 1 6 w)
      go_wp2_with fail
      refine (CN.out _).mono ?_
      rintro e w1 ⟨rfl, rfl⟩
      go_wp2_with fail
      go_ret
      exact ⟨ret_bool HE.out.symm, hK⟩
set_option maxHeartbeats 4000000 in
theorem sElectOf_no (a : Option Addr) (n c : Nat) (x : Nat → Int) (w : World) (hn : n ≤ 1099511627776) (hI : Ints w a n x) (hv : marksX n x = false) :
    Calls Tryz.prog 31 #[.slice a n c] w fun e w' => e = .returned (.tuple #[.int .i64 (-1), .int .i64 (-1)]) ∧ Keeps w w' := by
  have CV := Lib.hid (svalidMarks_any a n c x w hn hI)
  rw [hv] at CV
  clear hv
  go_enter Tryz.func31, Tryz.ntmps31
  go_wp2_with fail
  refine CV.out.mono ?_
  rintro e w1 ⟨rfl, hk⟩
  go_wp2_with fail
  go_ret2
  exact ⟨rfl, hk⟩
set_option maxHeartbeats 4000000 in
theorem sElectOf_yes (a : Option Addr) (n c : Nat) (x : Nat → Int) (w : World) (hI : Ints w a n x) (hv : marksX n x = true) :
    Calls Tryz.prog 31 #[.slice a n c] w fun e w' => e = .returned (.tuple #[.int .i64 (atE x (n - 1) : Nat), .int .i64 (sumE x n n : Nat)]) ∧ Keeps w w' := by
  obtain ⟨hn1, hn6⟩ := marks_n hv
  have CV := Lib.hid (svalidMarks_any a n c x w (by omega) hI)
  rw [hv] at CV
  have HI := Lib.hid hI
  clear hv hI
  have hz : ((n : Int) == 0) = false := by simp; omega
  go_enter Tryz.func31, Tryz.ntmps31
  go_wp2_with fail
  refine CV.out.mono ?_
  rintro e w1 ⟨rfl, hk1⟩
  have HK1 := Lib.hid hk1
  clear hk1
  go_wp2_with fail
  go_loopw [5, 6, 7] (fun p q i wr => ∃ v A S : Nat, v ≤ n ∧ i = .int .i64 v ∧ p = .int .i64 A ∧ q = .int .i64 S ∧ Hid (A = atN x v) ∧ Hid (S = sumE x n v) ∧ Hid (Keeps w wr)) (fun _ _ i _ => n - (intOf i).toNat)
  case atStart => exact ⟨0, 0, 0, by omega, rfl, rfl, rfl, Lib.hid rfl, Lib.hid rfl, HK1⟩
  case round =>
    obtain ⟨v, A, S, hv, rfl, rfl, rfl, HA, HS, HK⟩ := hrel
    by_cases hlt : v < n
    · have hvi : (v : Int) < n := by omega
      have hA : A < n := by rw [HA.out]; exact atN_le x hn1 hv
      have hAi : (A : Int) < n := by omega
      have hS : S ≤ 42 := by rw [HS.out]; exact sumE_bd hn6 hv
      obtain ⟨d, off, rfl, hv0⟩ := HI.out v hlt
      obtain ⟨_, _, e, hA0⟩ := HI.out A hA
      cases e
      have hcv := cell_keeps HK.out hv0
      have hcA := cell_keeps HK.out hA0
      have HN : Hid (atN x (v + 1) = if x v > x A then v else A) := Lib.hid (by rw [atN_next, ← HA.out])
      have HSN : Hid (sumE x n (v + 1) = S + cntE x n v) := Lib.hid (by rw [sumE, ← HS.out])
      obtain ⟨y, hy⟩ : ∃ y, y = x v := ⟨_, rfl⟩
      obtain ⟨z, hz⟩ : ∃ z, z = x A := ⟨_, rfl⟩
      rw [← hy] at hcv HN
      rw [← hz] at hcA HN
      have HY := Lib.hid hy
      clear hy hz hv0 hA0
      by_cases hlz : y > z
      all_goals
        have HA2 := HN.out
        first | rw [if_pos hlz] at HA2 | rw [if_neg hlz] at HA2
        have HA2 := Lib.hid HA2.symm
        clear HN
        have hlz2 := hlz
        go_wp2_with fail
        go_quiet (fail)
        go_wp2_with fail
        have hK2 := HK.out.step (Keeps.drewN wr nq)
        generalize wr.drewN nq = wo at *
        have HK2 := Lib.hid hK2
        clear hK2 hcv hcA hlz hlz2
        go_loopw [8] (fun i wr => ∃ j : Nat, j < n ∧ i = .int .i64 ((j + 1 : Nat) : Int) ∧ Hid (∀ t, 1 ≤ t → t ≤ j → x ((v + t) % n) < x v) ∧ Hid (Keeps w wr)) (fun i _ => n - (intOf i).toNat)
        case atStart => exact ⟨0, by omega, rfl, Lib.hid (fun t h1 h2 => by omega), HK2⟩
        case round =>
          obtain ⟨j, hj, rfl, HJ, HK3⟩ := hrel
          obtain ⟨_, _, e, hv0⟩ := HI.out v hlt
          cases e
          have hcv := cell_keeps HK3.out hv0
          rw [← HY.out] at hcv
          obtain ⟨m1, m2, m3⟩ := mod_facts (n := n) (a := v + (j + 1)) hn1
          obtain ⟨_, _, e, hq0⟩ := HI.out _ m3
          cases e
          have hcq := cell_keeps HK3.out hq0
          have hwr : IntKind.i64.wrap ((v : Int) + ((j + 1 : Nat) : Int)) = ((v + (j + 1) : Nat) : Int) := by rw [IntKind.wrap_i64]; omega
          have HC : Hid (x ((v + (j + 1)) % n) < x v → j + 1 < n ∧ ∀ t, 1 ≤ t → t ≤ j + 1 → x ((v + t) % n) < x v) := Lib.hid (fun h => by
            have h2 : ∀ t, 1 ≤ t → t ≤ j + 1 → x ((v + t) % n) < x v := fun t h1 h2 => by
              by_cases e : t = j + 1
              · rw [e]; exact h
              · exact HJ.out t h1 (by omega)
            exact ⟨less_far hlt h2, h2⟩)
          have HE : Hid (¬ x ((v + (j + 1)) % n) < x v → cntE x n v = j + 1) := Lib.hid (fun h => cntE_end hlt hj HJ.out h)
          rw [← HY.out] at HC HE
          obtain ⟨q, hq⟩ : ∃ q, q = (v + (j + 1)) % n := ⟨_, rfl⟩
          rw [← hq] at m1 m2 m3 hcq HC HE
          obtain ⟨u, hu⟩ : ∃ u, u = x q := ⟨_, rfl⟩
          rw [← hu] at hcq HC HE
          have hqi : (q : Int) < n := by omega
          have hsum : ((v + (j + 1) : Nat) : Int) = (v : Int) + ((j : Int) + 1) := by omega
          rw [hsum] at m1 m2 hwr
          have hwr2 : IntKind.i64.wrap ((v : Int) + ((j : Int) + 1)) = (v : Int) + ((j : Int) + 1) := by rw [IntKind.wrap_i64]; omega
          clear hq hu hv0 hq0 hsum
          by_cases hlu : u < y
          · obtain ⟨HC1, HC2⟩ := HC.out hlu
            have HC2 : Hid (∀ t, 1 ≤ t → t ≤ j + 1 → x ((v + t) % n) < x v) := Lib.hid (by rw [HY.out] at HC2; exact HC2)
            go_wp2_with fail
            go_quiet (fail)
            go_wp2_with fail
            go_roundw
            case rel => exact ⟨j + 1, HC1, by go_num, HC2, Lib.hid (HK3.out.step (Keeps.drewN _ _))⟩
            case measure => simp [intOf]; omega
          · have HE2 := Lib.hid (HE.out hlu)
            go_wp2_with fail
            go_quiet (fail)
            go_wp2_with fail
            go_roundw
            case rel => exact ⟨v + 1, _, S + (j + 1), by omega, by go_num, rfl, by go_num, HA2, Lib.hid (by rw [HSN.out, HE2.out]), Lib.hid (HK3.out.step (Keeps.drewN _ _))⟩
            case measure => simp [intOf]; omega
    · obtain rfl : v = n := by omega
      go_wp2_with fail
      go_ret2
      exact ⟨by rw [HA.out, HS.out]; rfl, HK.out⟩
set_option maxHeartbeats 400000 in
theorem mo1_any (k : Int) (w : World) : Calls Tryz.prog 150 #[.int .i64 k] w fun e w' => e = .returned (.bool (!inB k 0 20)) ∧ Keeps w w' := by
  go_enter Tryz.func150, Tryz.ntmps150
  go_wp2_with fail
  refine (within_any _ _ _ _).mono ?_
  rintro e w1 ⟨rfl, rfl⟩
  go_wp2
  go_ret
  exact ⟨rfl, Keeps.refl _⟩
set_option maxRecDepth 100000 in
set_option maxHeartbeats 400000 in
theorem marksOk_any (B : Option Addr) (n c : Nat) (M : Nat → Int) (w : World) (hn : n ≤ 1099511627776) (hI : Ints w B n M) :
    Calls Tryz.prog 115 #[.slice B n c] w fun e w' => e = .returned (.bool (!anyB (fun v => !inB (M v) 0 20) n)) ∧ Keeps w w' := by
  have CC := Lib.hid (intcontains_any 150 #[] B n c M (fun j => !inB (M j) 0 20) w hn hI (fun _ _ => rfl) (fun k w' _ _ => by simpa using mo1_any (M k) w'))
  clear hI
  go_enter Tryz.func115, Tryz.ntmps115
  go_wp2_with fail
  refine CC.out.mono ?_
  rintro e w1 ⟨rfl, hk1⟩
  go_wp2
  go_ret
  exact ⟨rfl, hk1⟩
theorem anyB_turn (x : Nat → Int) (v : Int) : ∀ j, anyB (fun q => v == x q) j = anyB (fun k => x k == v) j
  | 0 => rfl
  | j + 1 => by
    show (anyB (fun q => v == x q) j || (v == x j)) = (anyB (fun k => x k == v) j || (x j == v))
    rw [anyB_turn x v j, BEq.comm]
set_option maxHeartbeats 2000000 in
theorem ringMarks_any (a : Option Addr) (n c : Nat) (x : Nat → Int) (w : World) (hn : n ≤ 1099511627776) (hnc : n ≤ c) (hc : c ≤ 9223372036854775807) (hI : Ints w a n x) :
    Calls Tryz.prog 82 #[.slice a n c] w fun e w' => e = .returned (.bool (marksX n x)) ∧ Keeps w w' := by
  have HI := Lib.hid hI
  clear hI
  go_enter Tryz.func82, Tryz.ntmps82
  go_wp2_with fail
  go_loop [7] (fun i => ∃ j : Nat, j ≤ n ∧ i = .int .i64 j ∧ Hid (anyB (fun i => anyB (fun k => x k == x i) i) j = false)) (fun i => n - (intOf i).toNat)
  case atStart => exact ⟨0, by omega, rfl, Lib.hid rfl⟩
  case round =>
    obtain ⟨j, hj, rfl, HS⟩ := hrel
    by_cases hlt : j < n
    · have hji : (j : Int) < n := by omega
      obtain ⟨d, off, rfl, hcj⟩ := HI.out j hlt
      have hjc : (j : Int) ≤ c := by omega
      have CC := Lib.hid (slContains_any (some ⟨d, off, none⟩) j c x (x j) w (by omega) (fun i hi => HI.out i (by omega)))
      have HB : Hid (anyB (fun q => x j == x q) j = true → marksX n x = false) := Lib.hid (fun h => by
        rw [anyB_turn] at h
        obtain ⟨k, hk, e⟩ := (anyB_iff _ _).1 h
        exact marks_same hlt hk e)
      have HN : Hid (anyB (fun q => x j == x q) j = false → anyB (fun i => anyB (fun k => x k == x i) i) (j + 1) = false) := Lib.hid (fun h => by
        rw [anyB_turn] at h
        exact anyB_step HS.out h)
      cases hb : anyB (fun q => x j == x q) j
      · rw [hb] at CC
        have HN2 := Lib.hid (HN.out hb)
        clear hb HB HN
        go_wp2_with fail
        refine CC.out.mono ?_
        rintro e w1 ⟨rfl, rfl⟩
        go_wp2_with fail
        go_round
        case rel => exact ⟨j + 1, by omega, by go_num, HN2⟩
        case measure => simp [intOf]; omega
      · rw [hb] at CC
        have HB2 := Lib.hid (HB.out hb)
        clear hb HB HN
        go_wp2_with fail
        refine CC.out.mono ?_
        rintro e w1 ⟨rfl, rfl⟩
        go_wp2_with fail
        go_ret
        exact ⟨ret_bool HB2.out.symm, Keeps.refl _⟩
    · obtain rfl : j = n := by omega
      have CN := Lib.hid (fun w => within_any j 1 6 w)
      have CM := Lib.hid (marksOk_any a j c x w hn HI.out)
      have HE : Hid (marksX j x = (inB j 1 6 && !anyB (fun i => !inB (x i) 0 20) j)) := Lib.hid (by unfold marksX; rw [HS.out]; simp)
      cases hb : inB j 1 6
      · rw [hb] at CN HE
        clear hb
        go_wp2_with fail
        refine (CN.out _).mono ?_
        rintro e w1 ⟨rfl, rfl⟩
        go_wp2_with fail
        go_ret
        exact ⟨ret_bool HE.out.symm, Keeps.refl _⟩
      · rw [hb] at CN HE
        clear hb
        go_wp2_with fail
        refine (CN.out _).mono ?_
        rintro e w1 ⟨rfl, rfl⟩
        go_wp2_with fail
        refine CM.out.mono ?_
        rintro e w2 ⟨rfl, hk2⟩
        go_wp2_with fail
        go_ret
        exact ⟨ret_bool (by rw [HE.out]; rfl), hk2⟩
set_option maxHeartbeats 2000000 in
theorem iElectOf_no (a : Option Addr) (n c : Nat) (x : Nat → Int) (w : World) (hn : n ≤ 1099511627776) (hnc : n ≤ c) (hc : c ≤ 9223372036854775807) (hI : Ints w a n x) (hv : marksX n x = false) :
    Calls Tryz.prog 61 #[.slice a n c] w fun e w' => e = .returned (.tuple #[.int .i64 (-1), .int .i64 (-1)]) ∧ Keeps w w' := by
  have CV := Lib.hid (ringMarks_any a n c x w hn hnc hc hI)
  rw [hv] at CV
  clear hv
  go_enter Tryz.func61, Tryz.ntmps61
  go_wp2_with fail
  refine CV.out.mono ?_
  rintro e w1 ⟨rfl, hk⟩
  go_wp2_with fail
  go_ret2
  exact ⟨rfl, hk⟩
set_option maxHeartbeats 4000000 in
theorem iElectOf_yes (a : Option Addr) (n c : Nat) (x : Nat → Int) (w : World) (hnc : n ≤ c) (hc : c ≤ 9223372036854775807) (hI : Ints w a n x) (hv : marksX n x = true) :
    Calls Tryz.prog 61 #[.slice a n c] w fun e w' => e = .returned (.tuple #[.int .i64 (atE x (n - 1) : Nat), .int .i64 (sumE x n n : Nat)]) ∧ Keeps w w' := by
  obtain ⟨hn1, hn6⟩ := marks_n hv
  have CV := Lib.hid (ringMarks_any a n c x w (by omega) hnc hc hI)
  rw [hv] at CV
  clear hv
  have hz : ((n : Int) == 0) = false := by simp; omega
  go_enter Tryz.func61, Tryz.ntmps61
  go_wp2_with fail
  refine CV.out.mono ?_
  rintro e w1 ⟨rfl, hk1⟩
  have HI := Lib.hid (hI.keeps hk1)
  have HK1 := Lib.hid hk1
  clear hk1 hI CV
  go_wp2_with fail
  go_loop [4, 13] (fun q i => ∃ v S : Nat, v ≤ n ∧ i = .int .i64 v ∧ q = .int .i64 S ∧ Hid (S = sumE x n v)) (fun _ i => n - (intOf i).toNat)
  case atStart => exact ⟨0, 0, by omega, rfl, rfl, Lib.hid rfl⟩
  case round =>
    obtain ⟨v, S, hv, rfl, rfl, HS⟩ := hrel
    by_cases hlt : v < n
    · have hvi : (v : Int) < n := by omega
      have hS : S ≤ 42 := by rw [HS.out]; exact sumE_bd hn6 hv
      obtain ⟨d, off, rfl, hcv⟩ := HI.out v hlt
      have HSN : Hid (sumE x n (v + 1) = S + cntE x n v) := Lib.hid (by rw [sumE, ← HS.out])
      obtain ⟨y, hy⟩ : ∃ y, y = x v := ⟨_, rfl⟩
      rw [← hy] at hcv
      have HY := Lib.hid hy
      clear hy
      obtain ⟨m1, m2, m3⟩ := mod_facts (n := n) (a := v + 1) hn1
      have hsum : ((v + 1 : Nat) : Int) = (v : Int) + 1 := by omega
      rw [hsum] at m1 m2
      clear hsum
      obtain ⟨q0, hq0⟩ : ∃ q, q = (v + 1) % n := ⟨_, rfl⟩
      rw [← hq0] at m1 m2 m3
      have HQ0 := Lib.hid hq0
      have hqi0 : (q0 : Int) < n := by omega
      clear hq0
      go_wp2_with fail
      go_loop [4, 7] (fun s i => ∃ j q : Nat, j < n ∧ q < n ∧ i = .int .i64 q ∧ s = .int .i64 ((S + 1 + j : Nat) : Int) ∧ Hid (q = (v + (j + 1)) % n) ∧ Hid (∀ t, 1 ≤ t → t ≤ j → x ((v + t) % n) < x v)) (fun s i => n + S + 1 - (intOf s).toNat)
      case atStart => exact ⟨0, q0, by omega, m3, rfl, rfl, HQ0, Lib.hid (fun t h1 h2 => by omega)⟩
      case round =>
        clear m1 m2 m3 hqi0 HQ0
        obtain ⟨j, q, hj, hq, rfl, rfl, HQ, HJ⟩ := hrel
        have hqi : (q : Int) < n := by omega
        obtain ⟨_, _, e, hcq⟩ := HI.out q hq
        cases e
        have HC : Hid (x q < x v → j + 1 < n ∧ ∀ t, 1 ≤ t → t ≤ j + 1 → x ((v + t) % n) < x v) := Lib.hid (fun h => by
          have h2 : ∀ t, 1 ≤ t → t ≤ j + 1 → x ((v + t) % n) < x v := fun t h1 h2 => by
            by_cases e : t = j + 1
            · rw [e, ← HQ.out]; exact h
            · exact HJ.out t h1 (by omega)
          exact ⟨less_far hlt h2, h2⟩)
        have HE : Hid (¬ x q < x v → cntE x n v = j + 1) := Lib.hid (fun h => cntE_end hlt hj HJ.out (by rw [← HQ.out]; exact h))
        obtain ⟨u, hu⟩ : ∃ u, u = x q := ⟨_, rfl⟩
        rw [← hu] at hcq
        have HU := Lib.hid hu
        clear hu
        have hsm : ((S + 1 + j : Nat) : Int) = (S : Int) + 1 + j := by omega
        rw [hsm]
        have hw1 : IntKind.i64.wrap ((S : Int) + 1 + j + 1) = (S : Int) + 1 + j + 1 := by rw [IntKind.wrap_i64]; omega
        have hw2 : IntKind.i64.wrap ((q : Int) + 1) = (q : Int) + 1 := by rw [IntKind.wrap_i64]; omega
        obtain ⟨m1, m2, m3⟩ := mod_facts (n := n) (a := q + 1) hn1
        have hsum : ((q + 1 : Nat) : Int) = (q : Int) + 1 := by omega
        rw [hsum] at m1 m2
        clear hsum hsm
        have HQN : Hid ((q + 1) % n = (v + (j + 1 + 1)) % n) := Lib.hid (by rw [HQ.out, Nat.mod_add_mod]; congr 1)
        obtain ⟨q2, hq2⟩ : ∃ z, z = (q + 1) % n := ⟨_, rfl⟩
        rw [← hq2] at m1 m2 m3 HQN
        clear hq2
        by_cases hlu : u < y
        · obtain ⟨HC1, HC2⟩ := HC.out (by rw [← HU.out, ← HY.out]; exact hlu)
          have HC2 := Lib.hid HC2
          go_wp2_with fail
          go_round
          case rel => exact ⟨j + 1, q2, HC1, m3, rfl, by go_num, HQN, HC2⟩
          case measure => simp [intOf]; omega
        · have HE2 := Lib.hid (HE.out (by rw [← HU.out, ← HY.out]; exact hlu))
          go_wp2_with fail
          go_round
          case rel => exact ⟨v + 1, S + 1 + j, by omega, by go_num, by go_num, Lib.hid (by rw [HSN.out, HE2.out]; omega)⟩
          case measure => simp [intOf]; omega
    · obtain rfl : v = n := by omega
      obtain ⟨m, rfl⟩ : ∃ m, v = m + 1 := ⟨v - 1, by omega⟩
      have CM := Lib.hid (slMax_any a m c x w1 (by omega) HI.out)
      have CI := Lib.hid (slIndex_any a (m + 1) c x (topF x m) w1 (by omega) HI.out)
      have HT := Lib.hid (top_at (x := x) (n := m + 1) (by omega))
      go_wp2_with fail
      refine CM.out.mono ?_
      rintro e w2 ⟨rfl, rfl⟩
      go_wp2_with fail
      refine CI.out.mono ?_
      rintro e w2 ⟨rfl, rfl⟩
      go_wp2_with fail
      go_ret2
      exact ⟨by rw [HS.out]; have := HT.out; simp only [Nat.add_sub_cancel] at this ⊢; rw [this]; rfl, HK1.out⟩
end Go.Proofs.YtlniogfinofakaaGreatDoor
