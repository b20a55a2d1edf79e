/-
  The walk of FnCommonOf: whatever the code is, it returns true, and nothing that was there turns. No condition.
-/
import Derived.Test.YtalafojkmomolaaKLaw
import Derived.Test.YtalafojkmomolaaDrawn
namespace Go.Proofs.Ytalafojkmomolaa
open Go.RowKit

set_option maxRecDepth 100000 in
set_option maxHeartbeats 2000000 in
theorem FnCommonOf_walk (a : Option Addr) (n c : Nat) (w : World) (hB : Bytes w w.heap.size a n) (hc : n ≤ c) (hc2 : c ≤ 9223372036854775807) :
    Calls Try.prog 4 #[.slice a n c] w fun e w' => e = .returned (.bool true) ∧ Keeps w w' := by
  have HB := Lib.hid hB
  clear hB
  by_cases hn : 1048576 < n
  · go_enter Try.func4, Try.ntmps4
    go_wp2
    go_ret
    exact ⟨rfl, Keeps.refl _⟩
  · go_enter Try.func4, Try.ntmps4
    go_wp2_with fail
    refine (drawCommonOf_any a n c _ HB.out (by omega) hc hc2).mono ?_
    rintro e w1 ⟨W, m, A, d, L, s, rfl, hO, hm, hL, hK1⟩
    obtain ⟨r, hr, hrl, _, _⟩ := hO.rows
    have hlen : ∀ i, i < m → (r i).2.1 ≤ 1099511627776 := fun i hi => by rw [hrl i hi]; have := hL i hi; omega
    have HR := Lib.hid hr
    have HLEN := Lib.hid hlen
    clear hO hL hr hrl hlen
    generalize (fun i j => (L.getD i []).getD j 0) = x at *
    go_wp2_with fail
    refine (iCommonOf_any A m d r x W s _ (by omega) (HR.out.keeps (Keeps.alloc _ _)) HLEN.out).mono ?_
    rintro e w2 ⟨rfl, hK2⟩
    have c0 := cell_keeps hK2 (box0 w1 (.int .i64 W) (.slice A m d) 25)
    have c1 := cell_keeps hK2 (box1 w1 (.int .i64 W) (.slice A m d) 25)
    have HR2 := Lib.hid ((HR.out.keeps (Keeps.alloc w1 (.cells #[.int .i64 W, .slice A m d] 25))).keeps hK2)
    have hKK2 := (hK1.step (Keeps.alloc w1 (.cells #[.int .i64 W, .slice A m d] 25))).step hK2
    have hV1 : w1.heap.size < w2.heap.size := by have := hK2.size; simp at this; omega
    clear hK1 hK2
    generalize w1.heap.size = V at *
    go_wp2_with fail
    refine (sCommonOf_any A m d r x W s _ (by omega) HR2.out).mono ?_
    rintro e w3 ⟨rfl, hK3⟩
    have c30 := cell_keeps hK3 c0
    have c31 := cell_keeps hK3 c1
    have hne : (comAns W m r x s != comAns W m r x s) = false := by simp
    cases hset : setB W m r x s
    · have hA : comAns W m r x s = -1 := by unfold comAns; rw [hset]; rfl
      rw [hA] at hne ⊢
      clear hA
      have hneg : decide ((-1 : Int) < 0) = true := by decide
      go_wp2_with fail
      refine (sCommonOf_any A m d r x W s _ (by omega) (HR2.out.keeps hK3)).mono ?_
      rintro e w4 ⟨rfl, hK4⟩
      have hA : comAns W m r x s = -1 := by unfold comAns; rw [hset]; rfl
      rw [hA]
      clear hA
      go_wp2
      go_ret
      exact ⟨rfl, (hKK2.step hK3).step hK4⟩
    · obtain ⟨Z, S, rfl, rfl, hZ1, hZ2, hm4, hS, hS2, hrow⟩ := setB_iff W m r x s hset
      have hA : comAns Z m r x S = ((comB (fun s => allB x Z s m) S : Nat) : Int) := by unfold comAns; rw [hset]; simp
      rw [hA] at hne ⊢
      have hle := comB_le (fun s => allB x Z s m) S
      have hs1 := comB_sub (fun s => allB x Z s m) S
      have hs2 := comB_fix (fun s => allB x Z s m) S
      have hs3 := com_known x Z S m hZ2 hS2
      have hs4 := comB_self (fun s => allB x Z s m) S
      have HC : Hid (allAns Z m r x (comB (fun s => allB x Z s m) S : Nat) = ((allB x Z (comB (fun s => allB x Z s m) S) m : Nat) : Int)) := Lib.hid (by
        unfold allAns; rw [setB_sub hset hle]; simp)
      have HC2 : Hid (comAns Z m r x (comB (fun s => allB x Z s m) S : Nat) = ((comB (fun s => allB x Z s m) S : Nat) : Int)) := Lib.hid (by
        unfold comAns; rw [setB_sub hset hle]; simp [hs4])
      have HC3 : Hid (allAns Z m r x S = ((allB x Z S m : Nat) : Int)) := Lib.hid (by
        unfold allAns; rw [hset]; simp)
      clear hA hset hrow hs4
      generalize comB (fun s => allB x Z s m) S = k at *
      have l1 := allB_lt x Z k m hZ2
      have l2 := allB_lt x Z S m hZ2
      have t1 := beq_and (by omega) (by omega) hs1
      have t2 := beq_and (a := allB x Z k m) (b := k) (c := k) (by omega) (by omega) (by rw [Nat.and_comm]; exact hs2)
      have t3 := beq_and (by omega) (by omega) hs3
      have t4 : ((k : Int) == (k : Int)) = true := by simp
      have hneg : decide ((k : Int) < 0) = false := by simp
      clear hs1 hs2 hs3
      go_wp2_with fail
      refine (iAllKnow_any A m d r x Z k _ (by omega) (HR2.out.keeps hK3) HLEN.out).mono ?_
      rintro e w4 ⟨rfl, hK4⟩
      have c40 := cell_keeps hK4 c30
      have c41 := cell_keeps hK4 c31
      rw [HC.out]
      go_wp2_with fail
      refine (iCommonOf_any A m d r x Z k _ (by omega) ((HR2.out.keeps hK3).keeps hK4) HLEN.out).mono ?_
      rintro e w5 ⟨rfl, hK5⟩
      have c50 := cell_keeps hK5 c40
      have c51 := cell_keeps hK5 c41
      rw [HC2.out]
      go_wp2_with fail
      refine (iAllKnow_any A m d r x Z S _ (by omega) (((HR2.out.keeps hK3).keeps hK4).keeps hK5) HLEN.out).mono ?_
      rintro e w6 ⟨rfl, hK6⟩
      rw [HC3.out]
      go_wp2
      go_ret
      exact ⟨rfl, (((hKK2.step hK3).step hK4).step hK5).step hK6⟩
end Go.Proofs.Ytalafojkmomolaa
