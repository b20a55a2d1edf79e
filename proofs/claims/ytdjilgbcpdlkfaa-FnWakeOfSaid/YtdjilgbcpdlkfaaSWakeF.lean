/-
  The contract of wakeFrom of the reference. Condition: a valid net.
-/
import Derived.Test.YtdjilgbcpdlkfaaSWake
namespace Go.Proofs.Ytdjilgbcpdlkfaa
open Go.RowKit

section
variable {A B C : Option Addr} {m c mm d cc : Nat} {r : Nat → Option Addr × Nat × Nat} {L : Nat → Nat} {X : Nat → Nat → Int} {M : Nat → Int}
set_option maxRecDepth 100000 in
set_option maxHeartbeats 8000000 in
theorem wakeFrom_any : ∀ (l : Nat), l ≤ 7 → ∀ (a : Nat) (w : World), a < 2 ^ m → NetAt w A m r B mm L X M → NetOk m L X mm M →
    Calls Try.prog 65 #[.agg #[.slice A m c, .slice B mm d], .int .i64 a, .int .i64 l] w fun e w' => e = .returned (.bool (wakeB L (portT X) m l a)) ∧ Keeps w w' := by
  intro l
  induction l with
  | zero =>
    intro _ a w ha hN ok
    have hm6 := ok.hi
    have hmb := hN.mb
    have ha64 := lt_63 hm6 ha
    have hpm : 2 ^ m ≤ 64 := Nat.le_trans (Nat.pow_le_pow_right (by omega) hm6) (by decide)
    have hp1 := Nat.two_pow_pos m
    have kA := Keeps.alloc w (.cells #[.slice A m c, .slice B mm d] 27)
    have hB := Blk.new w #[.slice A m c, .slice B mm d] 27
    have d0 : (w.alloc (.cells #[.slice A m c, .slice B mm d] 27)).cell? ⟨w.heap.size, 0, none⟩ = some (.slice A m c) := hB.cell 0
    have CPM : Hid (∀ w, Calls Try.prog 66 #[.int .i64 m] w fun e w' => e = .returned (.int .i64 ((2 ^ m : Nat) : Int)) ∧ w = w') := Lib.hid (fun w => spower_any m w (by omega))
    have HV : Hid ((a == 2 ^ m - 1) = wakeB L (portT X) m 0 a) := Lib.hid rfl
    clear hN ok ha hB
    generalize 2 ^ m = P at *
    by_cases e : a = P - 1
    · have hq : ((a : Int) == (P : Int) - 1) = true := by simp; omega
      have HV2 : Hid (true = wakeB L (portT X) m 0 a) := Lib.hid (by rw [← HV.out, e]; simp)
      clear e
      go_enter Try.func65, Try.ntmps65
      go_wp2_with fail
      refine (CPM.out _).mono ?_
      rintro e w1 ⟨rfl, rfl⟩
      go_wp2_with fail
      go_ret
      exact ⟨ret_bool HV2.out, kA⟩
    · have hq : ((a : Int) == (P : Int) - 1) = false := by simp; omega
      have HV2 : Hid (false = wakeB L (portT X) m 0 a) := Lib.hid (by rw [← HV.out]; simp [e])
      clear e
      go_enter Try.func65, Try.ntmps65
      go_wp2_with fail
      refine (CPM.out _).mono ?_
      rintro e w1 ⟨rfl, rfl⟩
      go_wp2_with fail
      go_ret
      exact ⟨ret_bool HV2.out, kA⟩
  | succ l ih =>
    intro hl a w ha hN ok
    have hm6 := ok.hi
    have hmb := hN.mb
    have ha64 := lt_63 hm6 ha
    have hpm : 2 ^ m ≤ 64 := Nat.le_trans (Nat.pow_le_pow_right (by omega) hm6) (by decide)
    have hp1 := Nat.two_pow_pos m
    have hpl : 2 ^ (l + 1) ≤ 128 := Nat.le_trans (Nat.pow_le_pow_right (by omega) hl) (by decide)
    have kA := Keeps.alloc w (.cells #[.slice A m c, .slice B mm d] 27)
    have hB := Blk.new w #[.slice A m c, .slice B mm d] 27
    have d0 : (w.alloc (.cells #[.slice A m c, .slice B mm d] 27)).cell? ⟨w.heap.size, 0, none⟩ = some (.slice A m c) := hB.cell 0
    have d1 : (w.alloc (.cells #[.slice A m c, .slice B mm d] 27)).cell? ⟨w.heap.size, 1, none⟩ = some (.slice B mm d) := hB.cell 1
    have CPM : Hid (∀ w, Calls Try.prog 66 #[.int .i64 m] w fun e w' => e = .returned (.int .i64 ((2 ^ m : Nat) : Int)) ∧ w = w') := Lib.hid (fun w => spower_any m w (by omega))
    have CPL : Hid (∀ w, Calls Try.prog 66 #[.int .i64 ((l + 1 : Nat) : Int)] w fun e w' => e = .returned (.int .i64 ((2 ^ (l + 1) : Nat) : Int)) ∧ w = w') := Lib.hid (fun w => spower_any (l + 1) w (by omega))
    have CWG : Hid (∀ w, Calls Try.prog 82 #[.int .i64 a] w fun e w' => e = .returned (.int .i64 (wgt m a : Nat)) ∧ w = w') := Lib.hid (fun w => weight_any m a w hm6 ha)
    have CSP : Hid (∀ w', Keeps (w.alloc (.cells #[.slice A m c, .slice B mm d] 27)) w' → Calls Try.prog 83 #[.agg #[.slice A m c, .slice B mm d], .int .i64 a, .int .i64 a, .int .i64 0, .int .i64 ((l + 1 : Nat) : Int)] w' fun e w'' => e = .returned (.bool ((tellL L (portT X) m a m a).any (fun y => y != a && wakeB L (portT X) m l y))) ∧ Keeps w' w'') := Lib.hid (fun w' hk => by
      have h := spread_any (c := c) (d := d) l a (by omega) hm6 ha (fun y w hy hN => ih (by omega) y w hy hN ok) m 0 a w' (by omega) ha ((hN.keeps kA).keeps hk) ok
      exact h)
    have HV : Hid ((a == 2 ^ m - 1 || (decide (m ≤ wgt m a * 2 ^ (l + 1)) && (tellL L (portT X) m a m a).any (fun x => x != a && wakeB L (portT X) m l x))) = wakeB L (portT X) m (l + 1) a) := Lib.hid rfl
    have hwg : wgt m a ≤ m := cntB_le _ _
    have hl0 : (((l + 1 : Nat) : Int) == 0) = false := by simp; omega
    have hmul : wgt m a * 2 ^ (l + 1) ≤ 6 * 128 := Nat.mul_le_mul (by omega) hpl
    have hmI : ((wgt m a : Nat) : Int) * ((2 ^ (l + 1) : Nat) : Int) = ((wgt m a * 2 ^ (l + 1) : Nat) : Int) := by rw [Int.natCast_mul]
    clear hN ok ha hB ih
    generalize (tellL L (portT X) m a m a).any (fun y => y != a && wakeB L (portT X) m l y) = tl at *
    generalize wgt m a * 2 ^ (l + 1) = WP at *
    generalize wgt m a = wg at *
    generalize 2 ^ (l + 1) = Q at *
    generalize 2 ^ m = P at *
    have HM := Lib.hid hmI
    have hm0 : 0 ≤ (wg : Int) * (Q : Int) := by rw [hmI]; omega
    have hm1 : (wg : Int) * (Q : Int) ≤ 1000 := by rw [hmI]; omega
    clear hmI
    by_cases e : a = P - 1
    · have hq : ((a : Int) == (P : Int) - 1) = true := by simp; omega
      have HV2 : Hid (true = wakeB L (portT X) m (l + 1) a) := Lib.hid (by rw [← HV.out, e]; simp)
      clear e
      go_enter Try.func65, Try.ntmps65
      go_wp2_with fail
      refine (CPM.out _).mono ?_
      rintro e w1 ⟨rfl, rfl⟩
      go_wp2_with fail
      go_ret
      exact ⟨ret_bool HV2.out, kA⟩
    · have hq : ((a : Int) == (P : Int) - 1) = false := by simp; omega
      have HE : Hid ((a == P - 1) = false) := Lib.hid (by simp [e])
      clear e
      by_cases e2 : m ≤ WP
      · have hlt : decide ((wg : Int) * (Q : Int) < (m : Int)) = false := by rw [HM.out]; simp; omega
        have HV2 : Hid (tl = wakeB L (portT X) m (l + 1) a) := Lib.hid (by rw [← HV.out, HE.out]; simp [e2])
        have hnlt : ¬ (wg : Int) * (Q : Int) < (m : Int) := by rw [HM.out]; omega
        clear e2
        go_enter Try.func65, Try.ntmps65
        go_wp2_with fail
        refine (CPM.out _).mono ?_
        rintro e w1 ⟨rfl, rfl⟩
        go_wp2_with fail
        refine (CWG.out _).mono ?_
        rintro e w1 ⟨rfl, rfl⟩
        go_wp2_with fail
        refine (CPL.out _).mono ?_
        rintro e w1 ⟨rfl, rfl⟩
        go_wp2_with fail
        refine (CSP.out _ (Keeps.refl _)).mono ?_
        rintro e w1 ⟨rfl, hk1⟩
        go_wp2_with fail
        go_ret
        exact ⟨ret_bool HV2.out, kA.step hk1⟩
      · have hlt : decide ((wg : Int) * (Q : Int) < (m : Int)) = true := by rw [HM.out]; simp; omega
        have HV2 : Hid (false = wakeB L (portT X) m (l + 1) a) := Lib.hid (by rw [← HV.out, HE.out]; simp [e2])
        have hnlt : (wg : Int) * (Q : Int) < (m : Int) := by rw [HM.out]; omega
        clear e2
        go_enter Try.func65, Try.ntmps65
        go_wp2_with fail
        refine (CPM.out _).mono ?_
        rintro e w1 ⟨rfl, rfl⟩
        go_wp2_with fail
        refine (CWG.out _).mono ?_
        rintro e w1 ⟨rfl, rfl⟩
        go_wp2_with fail
        refine (CPL.out _).mono ?_
        rintro e w1 ⟨rfl, rfl⟩
        go_wp2_with fail
        go_ret
        exact ⟨ret_bool HV2.out, kA⟩
end
end Go.Proofs.Ytdjilgbcpdlkfaa
