/-
  The walk of FnDepthOf: whatever the code is, it returns true, and nothing that was there turns. No condition.
-/
import Derived.Test.YtalafojkmomolaaKLaw
import Derived.Test.YtalafojkmomolaaDrawnD
namespace Go.Proofs.Ytalafojkmomolaa
open Go.RowKit

theorem depF_no {f : Nat → Nat} {v k s : Nat} (h : (f s).testBit v = false) : depF f v (k + 1) s = 0 := by simp [depF, h]
theorem depF_yes {f : Nat → Nat} {v k s : Nat} (h : (f s).testBit v = true) : depF f v (k + 1) s = depF f v k (f s) + 1 := by simp [depF, h]
theorem depF_le (f : Nat → Nat) (v : Nat) : ∀ k s, depF f v k s ≤ k
  | 0, _ => Nat.le_refl _
  | k + 1, s => by
    cases h : (f s).testBit v
    · rw [depF_no h]; omega
    · rw [depF_yes h]; have := depF_le f v k (f s); omega
theorem depF_min (f : Nat → Nat) (v : Nat) : ∀ k s, depF f v k s = min (depF f v (k + 1) s) k
  | 0, s => by simp [depF]
  | k + 1, s => by
    cases h : (f s).testBit v
    · rw [depF_no h, depF_no h]; simp
    · rw [depF_yes h, depF_yes h, depF_min f v k (f s)]; omega
theorem depF_com (f : Nat → Nat) (v c : Nat) (hc : c.testBit v = true) (hf : ∀ s, c &&& s = c → s < 131072 → c &&& f s = c ∧ f s < 131072) : ∀ k s, c &&& s = c → s < 131072 → depF f v k s = k
  | 0, _, _, _ => rfl
  | k + 1, s, h1, h2 => by
    obtain ⟨h3, h4⟩ := hf s h1 h2
    rw [depF_yes ((sub_iff _ _).1 h3 v hc), depF_com f v c hc hf k _ h3 h4]
theorem dep_com (x : Nat → Nat → Int) (W m S v k : Nat) (hW : W ≤ 16) (hS : S < 131072) (hc : (comB (fun s => allB x W s m) S).testBit v = true) : depF (fun s => allB x W s m) v k S = k := by
  have h1 := comB_sub (fun s => allB x W s m) S
  have h2 := comB_fix (fun s => allB x W s m) S
  have hl := comB_le (fun s => allB x W s m) S
  generalize comB (fun s => allB x W s m) S = c at *
  refine depF_com _ v c hc (fun s hs hs2 => ⟨?_, allB_lt x W s m hW⟩) k S h1 hS
  have h3 := allB_mono x W c s m hW (by omega) hs2 hs
  rw [sub_iff]
  intro i hi
  exact (sub_iff _ _).1 h3 i ((sub_iff _ _).1 h2 i hi)
theorem allB_lt2 (x : Nat → Nat → Int) (W s k : Nat) : allB x W s k < 2 ^ W := by
  induction k with
  | zero => exact maskB_lt _ _
  | succ k ih => exact Nat.lt_of_le_of_lt Nat.and_le_left ih
theorem setB_lt {Z S c m : Nat} {r : Nat → Option Addr × Nat × Nat} {x : Nat → Nat → Int} (h : setB Z m r x S = true) (hc : c < 2 ^ Z) : setB Z m r x c = true := by
  unfold setB at *
  rw [Bool.and_eq_true] at *
  exact ⟨h.1, inB_mk (by omega) (by rw [Int.toNat_natCast]; omega)⟩

set_option maxRecDepth 100000 in
set_option maxHeartbeats 4000000 in
theorem FnDepthOf_walk (a : Option Addr) (n c : Nat) (w : World) (hB : Bytes w w.heap.size a n) (hc : n ≤ c) (hc2 : c ≤ 9223372036854775807) :
    Calls Try.prog 6 #[.slice a n c] w fun e w' => e = .returned (.bool true) ∧ Keeps w w' := by
  have HB := Lib.hid hB
  clear hB
  by_cases hn : 1048576 < n
  · go_enter Try.func6, Try.ntmps6
    go_wp2
    go_ret
    exact ⟨rfl, Keeps.refl _⟩
  · go_enter Try.func6, Try.ntmps6
    go_wp2_with fail
    refine (drawDepthOf_any a n c _ HB.out (by omega) hc hc2).mono ?_
    rintro e w1 ⟨W, m, A, d, L, v, s, rfl, hO, hm, hL, hK1⟩
    obtain ⟨r, hr, hrl, _, _⟩ := hO.rows
    have hlen : ∀ i, i < m → (r i).2.1 ≤ 1099511627776 := fun i hi => by rw [hrl i hi]; have := hL i hi; omega
    have HR := Lib.hid hr
    have HLEN := Lib.hid hlen
    clear hO hL hr hrl hlen
    generalize (fun i j => (L.getD i []).getD j 0) = x at *
    go_wp2_with fail
    refine (iDepthOf_any A m d r x W v s _ (by omega) (HR.out.keeps (Keeps.alloc _ _)) HLEN.out).mono ?_
    rintro e w2 ⟨rfl, hK2⟩
    have c0 := cell_keeps hK2 (box0 w1 (.int .i64 W) (.slice A m d) 25)
    have c1 := cell_keeps hK2 (box1 w1 (.int .i64 W) (.slice A m d) 25)
    have HR2 := Lib.hid ((HR.out.keeps (Keeps.alloc w1 (.cells #[.int .i64 W, .slice A m d] 25))).keeps hK2)
    have hKK2 := (hK1.step (Keeps.alloc w1 (.cells #[.int .i64 W, .slice A m d] 25))).step hK2
    have hV1 : w1.heap.size < w2.heap.size := by have := hK2.size; simp at this; omega
    clear hK1 hK2
    generalize w1.heap.size = V at *
    go_wp2_with fail
    refine (sDepthOf_any A m d r x W v s _ (by omega) HR2.out).mono ?_
    rintro e w3 ⟨rfl, hK3⟩
    have c30 := cell_keeps hK3 c0
    have c31 := cell_keeps hK3 c1
    have hne : (depAns W m r x v s != depAns W m r x v s) = false := by simp
    cases hset : (setB W m r x s && inB v 0 (W - 1))
    · have hA : depAns W m r x v s = -1 := by unfold depAns; rw [hset]; rfl
      rw [hA] at hne ⊢
      clear hA
      have hneg : decide ((-1 : Int) < 0) = true := by decide
      go_wp2_with fail
      refine (sDepthOf_any A m d r x W v s _ (by omega) (HR2.out.keeps hK3)).mono ?_
      rintro e w4 ⟨rfl, hK4⟩
      have hA : depAns W m r x v s = -1 := by unfold depAns; rw [hset]; rfl
      rw [hA]
      clear hA
      go_wp2
      go_ret
      exact ⟨rfl, (hKK2.step hK3).step hK4⟩
    · have hset' := hset
      rw [Bool.and_eq_true] at hset'
      obtain ⟨hsb, hvb⟩ := hset'
      obtain ⟨Z, S, rfl, rfl, hZ1, hZ2, hm4, hS, hS2, hrow⟩ := setB_iff W m r x s hsb
      obtain ⟨hv0, hv1⟩ := inB_true hvb
      obtain ⟨v, rfl⟩ := Int.eq_ofNat_of_zero_le hv0
      have hvZ : v < Z := by omega
      have hA : depAns Z m r x v S = ((depF (fun s => allB x Z s m) v 20 S : Nat) : Int) := by unfold depAns; rw [hset]; simp
      have HA2 : Hid (allAns Z m r x S = ((allB x Z S m : Nat) : Int)) := Lib.hid (by unfold allAns; rw [hsb]; simp)
      have HA3 : Hid (depAns Z m r x v (allB x Z S m : Nat) = ((depF (fun s => allB x Z s m) v 20 (allB x Z S m) : Nat) : Int)) := Lib.hid (by
        unfold depAns; rw [setB_lt hsb (allB_lt2 x Z S m), hvb]; simp)
      have HA4 : Hid (comAns Z m r x S = ((comB (fun s => allB x Z s m) S : Nat) : Int)) := Lib.hid (by unfold comAns; rw [hsb]; simp)
      rw [hA] at hne ⊢
      have hl := allB_lt x Z S m hZ2
      have hcl := comB_le (fun s => allB x Z s m) S
      have HD := Lib.hid (dep_com x Z m S v 20 hZ2 hS2)
      have hno : (allB x Z S m).testBit v = false → depF (fun s => allB x Z s m) v 20 S = 0 := fun h => depF_no (f := fun s => allB x Z s m) (v := v) (k := 19) (s := S) h
      have hyes : (allB x Z S m).testBit v = true → depF (fun s => allB x Z s m) v 20 S = min (depF (fun s => allB x Z s m) v 20 (allB x Z S m)) 19 + 1 := fun h => by
        rw [← depF_min (fun s => allB x Z s m) v 19 (allB x Z S m)]
        exact depF_yes (f := fun s => allB x Z s m) (v := v) (k := 19) (s := S) h
      have hE := depF_le (fun s => allB x Z s m) v 20 (allB x Z S m)
      have hcn := (sub_iff _ _).1 ((Nat.and_comm _ _).trans (com_known x Z S m hZ2 hS2)) v
      have hneg : decide (((depF (fun s => allB x Z s m) v 20 S : Nat) : Int) < 0) = false := by simp
      clear hA hset hsb hvb hrow hv0 hv1
      have hd := HD.out
      clear HD
      generalize comB (fun s => allB x Z s m) S = C at *
      generalize hBeq : allB x Z S m = B at *
      generalize depF (fun s => allB x Z s m) v 20 S = K at *
      generalize depF (fun s => allB x Z s m) v 20 B = E at *
      clear hBeq
      have HNO := Lib.hid hno
      have HYES := Lib.hid hyes
      have HCN := Lib.hid hcn
      have HD := Lib.hid hd
      clear hno hyes hcn hd
      go_wp2_with fail
      refine (iAllKnow_any A m d r x Z S _ (by omega) (HR2.out.keeps hK3) HLEN.out).mono ?_
      rintro e w4 ⟨rfl, hK4⟩
      have c40 := cell_keeps hK4 c30
      have c41 := cell_keeps hK4 c31
      rw [HA2.out]
      go_wp2_with fail
      refine (iDepthOf_any A m d r x Z v B _ (by omega) ((HR2.out.keeps hK3).keeps hK4) HLEN.out).mono ?_
      rintro e w5 ⟨rfl, hK5⟩
      have c50 := cell_keeps hK5 c40
      have c51 := cell_keeps hK5 c41
      rw [HA3.out]
      go_wp2_with fail
      refine (lbit_any B v _ (by omega) (by omega)).mono ?_
      rintro e w6 ⟨rfl, rfl⟩
      cases hb : B.testBit v
      · obtain rfl : K = 0 := HNO.out hb
        have hcb : C.testBit v = false := by
          cases h : C.testBit v
          · rfl
          · rw [HCN.out h] at hb; exact absurd hb (by decide)
        rw [show bitI false = 0 from rfl]
        go_wp2_with fail
        refine (iCommonOf_any A m d r x Z S _ (by omega) (((HR2.out.keeps hK3).keeps hK4).keeps hK5) HLEN.out).mono ?_
        rintro e w6 ⟨rfl, hK6⟩
        rw [HA4.out]
        go_wp2_with fail
        refine (lbit_any C v _ (by omega) (by omega)).mono ?_
        rintro e w7 ⟨rfl, rfl⟩
        rw [hcb, show bitI false = 0 from rfl]
        go_wp2
        go_ret
        exact ⟨rfl, (((hKK2.step hK3).step hK4).step hK5).step hK6⟩
      · have hK := HYES.out hb
        have hk0 : ((K : Int) == 0) = false := by rw [hK]; simp; omega
        rcases Nat.lt_or_ge E 20 with hE2 | hE2
        · obtain rfl : K = E + 1 := by omega
          clear hK HYES HNO hneg hE
          have hk0 : (((E : Int) + 1) == 0) = false := by simp; omega
          have hkk : (((E : Int) + 1) == ((E : Int) + 1)) = true := by simp
          have hle : (E : Int) + 1 ≤ 20 := by omega
          have HK20 : Hid (C.testBit v = true → (((E : Int) + 1) == 20) = true) := Lib.hid (fun h => by have := HD.out h; simp; omega)
          clear HD
          rw [show bitI true = 1 from rfl]
          go_wp2_with fail
          refine (iCommonOf_any A m d r x Z S _ (by omega) (((HR2.out.keeps hK3).keeps hK4).keeps hK5) HLEN.out).mono ?_
          rintro e w6 ⟨rfl, hK6⟩
          rw [HA4.out]
          go_wp2_with fail
          refine (lbit_any C v _ (by omega) (by omega)).mono ?_
          rintro e w7 ⟨rfl, rfl⟩
          cases hcb : C.testBit v
          · rw [show bitI false = 0 from rfl]
            go_wp2
            go_ret
            exact ⟨rfl, (((hKK2.step hK3).step hK4).step hK5).step hK6⟩
          · rw [show bitI true = 1 from rfl]
            have hk20 := HK20.out hcb
            go_wp2
            go_ret
            exact ⟨rfl, (((hKK2.step hK3).step hK4).step hK5).step hK6⟩
        · obtain rfl : E = 20 := by omega
          obtain rfl : K = 20 := by omega
          clear hK HYES HNO hneg hE hE2 HD
          rw [show bitI true = 1 from rfl]
          go_wp2_with fail
          refine (iCommonOf_any A m d r x Z S _ (by omega) (((HR2.out.keeps hK3).keeps hK4).keeps hK5) HLEN.out).mono ?_
          rintro e w6 ⟨rfl, hK6⟩
          rw [HA4.out]
          go_wp2_with fail
          refine (lbit_any C v _ (by omega) (by omega)).mono ?_
          rintro e w7 ⟨rfl, rfl⟩
          cases hcb : C.testBit v
          · rw [show bitI false = 0 from rfl]
            go_wp2
            go_ret
            exact ⟨rfl, (((hKK2.step hK3).step hK4).step hK5).step hK6⟩
          · rw [show bitI true = 1 from rfl]
            go_wp2
            go_ret
            exact ⟨rfl, (((hKK2.step hK3).step hK4).step hK5).step hK6⟩
end Go.Proofs.Ytalafojkmomolaa
