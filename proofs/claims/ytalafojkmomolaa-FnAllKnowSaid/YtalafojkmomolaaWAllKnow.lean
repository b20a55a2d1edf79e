/-
  The walk of FnAllKnow: whatever the code is, it returns true, and nothing that was there turns. No condition.
-/
import Derived.Test.YtalafojkmomolaaSAll
import Derived.Test.YtalafojkmomolaaDrawn
namespace Go.Proofs.Ytalafojkmomolaa
open Go.RowKit

set_option maxRecDepth 100000 in
set_option maxHeartbeats 2000000 in
theorem FnAllKnow_walk (a : Option Addr) (n c : Nat) (w : World) (hB : Bytes w w.heap.size a n) (hc : n ≤ c) (hc2 : c ≤ 9223372036854775807) :
    Calls Try.prog 3 #[.slice a n c] w fun e w' => e = .returned (.bool true) ∧ Keeps w w' := by
  have HB := Lib.hid hB
  clear hB
  by_cases hn : 1048576 < n
  · go_enter Try.func3, Try.ntmps3
    go_wp2
    go_ret
    exact ⟨rfl, Keeps.refl _⟩
  · go_enter Try.func3, Try.ntmps3
    go_wp2_with fail
    refine (drawAllKnow_any a n c _ HB.out (by omega) hc hc2).mono ?_
    rintro e w1 ⟨W, m, A, d, L, s, rfl, hO, hm, hL, hK1⟩
    obtain ⟨r, hr, hrl, _, _⟩ := hO.rows
    have hlen : ∀ i, i < m → (r i).2.1 ≤ 1099511627776 := fun i hi => by rw [hrl i hi]; have := hL i hi; omega
    have HR := Lib.hid hr
    have HLEN := Lib.hid hlen
    clear hO hL hr hrl hlen
    generalize (fun i j => (L.getD i []).getD j 0) = x at *
    go_wp2_with fail
    refine (iAllKnow_any A m d r x W s _ (by omega) (HR.out.keeps (Keeps.alloc _ _)) HLEN.out).mono ?_
    rintro e w2 ⟨rfl, hK2⟩
    have c0 := cell_keeps hK2 (box0 w1 (.int .i64 W) (.slice A m d) 25)
    have c1 := cell_keeps hK2 (box1 w1 (.int .i64 W) (.slice A m d) 25)
    have HR2 := Lib.hid ((HR.out.keeps (Keeps.alloc w1 (.cells #[.int .i64 W, .slice A m d] 25))).keeps hK2)
    have hKK2 := (hK1.step (Keeps.alloc w1 (.cells #[.int .i64 W, .slice A m d] 25))).step hK2
    have hV1 : w1.heap.size < w2.heap.size := by have := hK2.size; simp at this; omega
    clear hK1 hK2
    generalize w1.heap.size = V at *
    go_wp2_with fail
    refine (sAllKnow_any A m d r x W s _ (by omega) HR2.out).mono ?_
    rintro e w3 ⟨rfl, hK3⟩
    have c30 := cell_keeps hK3 c0
    have c31 := cell_keeps hK3 c1
    have hne : (allAns W m r x s != allAns W m r x s) = false := by simp
    cases hset : setB W m r x s
    · have hA : allAns W m r x s = -1 := by unfold allAns; rw [hset]; rfl
      rw [hA] at hne ⊢
      clear hA
      have hneg : decide ((-1 : Int) < 0) = true := by decide
      go_wp2_with fail
      refine (sAllKnow_any A m d r x W s _ (by omega) (HR2.out.keeps hK3)).mono ?_
      rintro e w4 ⟨rfl, hK4⟩
      have hA : allAns W m r x s = -1 := by unfold allAns; rw [hset]; rfl
      rw [hA]
      clear hA
      go_wp2
      go_ret
      exact ⟨rfl, (hKK2.step hK3).step hK4⟩
    · obtain ⟨Z, S, rfl, rfl, hZ1, hZ2, hm4, hS, hS2, hrow⟩ := setB_iff W m r x s hset
      have hA : allAns Z m r x S = ((allB x Z S m : Nat) : Int) := by unfold allAns; rw [hset]; simp
      have HK : Hid (∀ k, k < m → knowsAns Z m r x k S = ((knowsB x Z k S : Nat) : Int)) := Lib.hid (fun k hk => by
        unfold knowsAns; rw [hset, inB_mk (show (0 : Int) ≤ k by omega) (by omega)]; simp)
      have HMT := Lib.hid (mask_true Z)
      rw [hA] at hne ⊢
      have hneg : decide (((allB x Z S m : Nat) : Int) < 0) = false := by simp
      have hp16 : 2 ^ Z ≤ 65536 := Nat.le_trans (Nat.pow_le_pow_right (by omega) hZ2) (by omega)
      clear hA hset hrow
      have HAB : Hid (∀ k, allB x Z S (k + 1) = allB x Z S k &&& knowsB x Z k S) := Lib.hid (fun _ => rfl)
      go_wp2_with fail
      refine (lpower_any Z _ (by omega)).mono ?_
      rintro e w4 ⟨rfl, rfl⟩
      have HP0 : Hid (((2 ^ Z : Nat) : Int) - 1 = ((allB x Z S 0 : Nat) : Int)) := Lib.hid HMT.out
      generalize hq : 2 ^ Z = q at *
      clear hq
      go_wp2_with fail
      go_loopw [6, 7] (fun o i wr => ∃ k : Nat, k ≤ m ∧ o = .int .i64 (allB x Z S k : Nat) ∧ i = .int .i64 k ∧ Keeps w3 wr) (fun _ i _ => m - (intOf i).toNat)
      case atStart => exact ⟨0, by omega, congrArg (Value.int .i64) HP0.out, rfl, Keeps.refl _⟩
      case round =>
        obtain ⟨k, hk, rfl, rfl, hKr⟩ := hrel
        have d0 := cell_keeps hKr c30
        have d1 := cell_keeps hKr c31
        by_cases hlt : k < m
        · have ha := allB_lt x Z S k hZ2
          have hkl := knowsB_lt x Z k S hZ2
          have HB := Lib.hid (bits_and (allB x Z S k) (knowsB x Z k S) (by omega) (by omega))
          go_wp2_with fail
          refine (iKnowsOf_any A m d r x Z k S _ (by omega) ((HR2.out.keeps hK3).keeps hKr) HLEN.out).mono ?_
          rintro e w5 ⟨rfl, hK5⟩
          rw [HK.out k hlt]
          go_wp2
          go_roundw
          case rel => exact ⟨k + 1, by omega, by rw [HAB.out, HB.out], by go_num, hKr.step hK5⟩
          case measure => simp [intOf]; omega
        · have : k = m := by omega
          subst this
          go_wp2
          go_ret
          exact ⟨ret_bool (by simp), (hKK2.step hK3).step hKr⟩
end Go.Proofs.Ytalafojkmomolaa
