/-
  The contracts of orders, the program's and the reference's. Condition: two to five generals, words 0 or 1.
-/
import Derived.Test.YtepgogaoppdllaaOrd
namespace Go.Proofs.Ytepgogaoppdllaa
open Go.RowKit

/-- 'make([]int, 0, n)' in whatever world. -/
theorem make_room (n : Nat) (hn : n ≤ 1099511627776) (w : World) : (Instr.makeSlice 23 (.int .i64 0) (.int .i64 n)).run Try.prog w = .ok (.slice (some ⟨w.heap.size, 0, none⟩) 0 n) (w.alloc (.cells (madeCells #[.int .i64 0] n) 3)) := by
  obtain ⟨i0, hi, hz0, hz1, hz2⟩ := info_parts info_int
  have := run_make (P := Try.prog) w 23 3 i0 _ Try.underlying23 hi hz0 .i64 .i64 0 n (by omega) (by omega) (by rw [hz2]; omega) (by omega)
  rw [hz1] at this
  simpa [Value.cells] using this
theorem own_room (w : World) (lo n : Nat) (hlo : lo ≤ w.heap.size) (hn : n ≤ 1099511627776) : OwnInts (w.alloc (.cells (madeCells #[.int .i64 0] n) 3)) lo (some ⟨w.heap.size, 0, none⟩) 0 n [] :=
  World.ownsRow_made w _ n hlo (by unfold maxLen; omega) (by simp [size_madeCells])
theorem ordF_liar {n liar : Nat} {ly : Nat → Int} {order : Int} {q : Nat} (h : q = liar) : ordF n liar ly order q = -1 := by unfold ordF; rw [if_pos h]
theorem ordF_one {n liar : Nat} {ly : Nat → Int} {order : Int} {q : Nat} (h : q ≠ liar) (h2 : 2 * onesF n liar ly order q (n - 1) > (n : Int) - 1) : ordF n liar ly order q = 1 := by unfold ordF; rw [if_neg h, if_pos h2]
theorem ordF_zero {n liar : Nat} {ly : Nat → Int} {order : Int} {q : Nat} (h : q ≠ liar) (h2 : ¬ 2 * onesF n liar ly order q (n - 1) > (n : Int) - 1) : ordF n liar ly order q = 0 := by unfold ordF; rw [if_neg h, if_neg h2]

set_option maxRecDepth 100000 in
set_option maxHeartbeats 4000000 in
theorem sorders_any (n N liar c : Nat) (order : Int) (L : Option Addr) (ly : Nat → Int) (w : World) (hn : n ≤ 5) (hN : n = N + 1) (ho : 0 ≤ order ∧ order ≤ 1) (hI : Ints w L (n * n) ly) (hb : ∀ i, i < n * n → 0 ≤ ly i ∧ ly i ≤ 1) :
    Calls Try.prog 77 #[.int .i64 n, .int .i64 order, .int .i64 liar, .slice L (n * n) c] w (Ans w (il N (fun i => ordF n liar ly order (i + 1)))) := by
  have HI := Lib.hid hI
  have HBIT := Lib.hid hb
  have HNN := Lib.hid hN
  have hn1 : 1 ≤ n := by omega
  have W0 : IntKind.i64.wrap ((n : Int) - 1) = (N : Int) := by rw [IntKind.wrap_i64]; omega
  clear hI hb
  clear hN
  go_enter Try.func77, Try.ntmps77
  go_wp2_with fail
  go_loopw [10, 9] (fun i s wr => ∃ (k d : Nat) (A : Option Addr), k ≤ n ∧ i = .int .i64 k ∧ s = .slice A k d ∧ OwnInts wr w.heap.size A k d (il k (firstF n liar ly order)) ∧ Keeps w wr) (fun i _ _ => n - (intOf i).toNat)
  case atStart => exact ⟨0, 0, _, by omega, rfl, rfl, OwnInts.made _ _ (Nat.le_refl _), Keeps.alloc _ _⟩
  case round =>
    obtain ⟨k, d, A, hk, rfl, rfl, hO, hK⟩ := hrel
    by_cases hlt : k < n
    · have hki : (k : Int) < n := by omega
      have HS := Lib.hid (il_succ k (firstF n liar ly order))
      have CT : Hid (∀ w', Keeps w w' → Calls Try.prog 89 #[.int .i64 n, .int .i64 liar, .slice L (n * n) c, .int .i64 0, .int .i64 k, .int .i64 order] w' fun e w'' => e = .returned (.int .i64 (firstF n liar ly order k)) ∧ w' = w'') := Lib.hid (fun w' hk' => stold_any n liar 0 k c order L ly w' hn hn1 hlt (HI.out.keeps hk'))
      have hsz := hK.size
      generalize firstF n liar ly order k = v at *
      generalize n * n = nn at *
      go_wp2_with fail
      refine (CT.out _ hK).mono ?_
      rintro e w1 ⟨rfl, rfl⟩
      go_wp2_with (first | (at_builtin; refine wp_app_int rfl _ _ rfl w.heap.size A k d (il k (firstF n liar ly order)) _ rfl hO _ rfl (by omega) hsz ?_; intro g d' w6 hO6 hg6))
      go_roundw
      case rel => exact ⟨k + 1, d', _, by omega, by go_num, rfl, by rw [HS.out]; exact hO6, hK.grown hO (Nat.le_refl _) hg6⟩
      case measure => simp [intOf]; omega
    · obtain rfl : k = n := by omega
      obtain ⟨g, rfl⟩ := hO.at hn1
      have HF := Lib.hid hO
      have hgl := hO.block
      have HKa := Lib.hid hK
      clear hO hK hk hlt
      obtain ⟨wa, rfl⟩ : ∃ wa : World, wa = wr := ⟨_, rfl⟩
      have HGL := Lib.hid hgl
      clear hgl
      have hN1 : (N : Int) + 1 = k := by have := HNN.out; omega
      have hN2 : N + 1 = k := by have := HNN.out; omega
      go_wp2_with fail
      go_loopw [12, 11] (fun i s wr => ∃ (j e : Nat) (A : Option Addr), j ≤ N ∧ i = .int .i64 ((j : Int) + 1) ∧ s = .slice A j e ∧ OwnInts wr wa.heap.size A j e (il j (fun i => ordF k liar ly order (i + 1))) ∧ OwnInts wr w.heap.size (some ⟨g, 0, none⟩) k d (il k (firstF k liar ly order)) ∧ Keeps w wr ∧ Keeps wa wr) (fun i _ _ => N + 1 - (intOf i).toNat)
      case atStart => exact ⟨0, 0, _, by omega, by simp, rfl, OwnInts.made _ _ (Nat.le_refl _), HF.out.keeps (Keeps.alloc _ _), HKa.out.step (Keeps.alloc _ _), Keeps.alloc _ _⟩
      case round =>
        clear HF HKa
        obtain ⟨j, e, A, hj, rfl, rfl, hO, hF, hK, hKa⟩ := hrel
        by_cases hlj : j < N
        · have hji : (j : Int) + 1 < k := by omega
          have hj1 : j + 1 < k := by omega
          have W1 : ((j : Int) + 1) = ((j + 1 : Nat) : Int) := by omega
          have hc1 := hF.cell (j + 1) hj1
          rw [il_getD _ _ _ hj1] at hc1
          have HO := Lib.hid hO
          have HF := Lib.hid hF
          have HK := Lib.hid hK
          have HKa := Lib.hid hKa
          clear hO hF hK hKa
          obtain ⟨wd, rfl⟩ : ∃ wd : World, wd = wr := ⟨_, rfl⟩
          rw [W1]
          obtain ⟨q, hq⟩ : ∃ q, q = j + 1 := ⟨_, rfl⟩
          rw [← hq] at hc1 hj1 ⊢
          have HQ := Lib.hid hq
          have hqi : (q : Int) < k := by omega
          clear hq W1 hji
          go_wp2_with fail
          go_loopw [14, 13] (fun i v wr => ∃ p : Nat, p ≤ N ∧ i = .int .i64 ((p : Int) + 1) ∧ v = .int .i64 (onesF k liar ly order q p) ∧ wd = wr) (fun i _ _ => N + 1 - (intOf i).toNat)
          case atStart => exact ⟨0, by omega, by simp, rfl, rfl⟩
          case round =>
            obtain ⟨p, hp, rfl, rfl, rfl⟩ := hrel
            by_cases hlp : p < N
            · have hpi : (p : Int) + 1 < k := by omega
              have hp1 : p + 1 < k := by omega
              have hb1 := ones_le k liar ly HBIT.out order ho q hj1 p (by omega)
              have HN := Lib.hid (show onesF k liar ly order q (p + 1) = if p + 1 = q then onesF k liar ly order q p else onesF k liar ly order q p + toldF k liar ly (p + 1) q (firstF k liar ly order (p + 1)) from rfl)
              have hf1 := told_bit k liar ly HBIT.out 0 (p + 1) order (by omega) hp1 ho
              have ht1 := told_bit k liar ly HBIT.out (p + 1) q (firstF k liar ly order (p + 1)) hp1 hj1 hf1
              by_cases hpq : p + 1 = q
              · have HN1 := Lib.hid (show onesF k liar ly order q (p + 1) = onesF k liar ly order q p by rw [HN.out, if_pos hpq])
                have hne : ((p : Int) + 1 != (q : Int)) = false := by rw [bne_eq_false_iff_eq]; omega
                generalize onesF k liar ly order q p = v at *
                clear hpq
                go_wp2
                go_roundw
                case rel => exact ⟨p + 1, by omega, by go_num, by rw [HN1.out], trivial⟩
                case measure => simp [intOf]; omega
              · have HN1 := Lib.hid (show onesF k liar ly order q (p + 1) = onesF k liar ly order q p + toldF k liar ly (p + 1) q (firstF k liar ly order (p + 1)) by rw [HN.out, if_neg hpq])
                have hne : ((p : Int) + 1 != (q : Int)) = true := by rw [bne_iff_ne]; omega
                have hc2 := HF.out.cell (p + 1) hp1
                rw [il_getD _ _ _ hp1] at hc2
                have CT : Hid (Calls Try.prog 89 #[.int .i64 k, .int .i64 liar, .slice L (k * k) c, .int .i64 ((p : Int) + 1), .int .i64 q, .int .i64 (firstF k liar ly order (p + 1))] wd fun e w'' => e = .returned (.int .i64 (toldF k liar ly (p + 1) q (firstF k liar ly order (p + 1)))) ∧ wd = w'') := Lib.hid (stold_any k liar (p + 1) q c _ L ly wd hn hp1 hj1 (HI.out.keeps HK.out))
                generalize toldF k liar ly (p + 1) q (firstF k liar ly order (p + 1)) = tv at *
                generalize firstF k liar ly order (p + 1) = fv at *
                generalize onesF k liar ly order q p = v at *
                generalize k * k = nn at *
                clear hpq
                go_wp2_with fail
                refine CT.out.mono ?_
                rintro e w2 ⟨rfl, rfl⟩
                go_wp2
                go_roundw
                case rel => exact ⟨p + 1, by omega, by go_num, by rw [HN1.out], trivial⟩
                case measure => simp [intOf]; omega
            · obtain rfl : p = N := by omega
              have hb1 := ones_le k liar ly HBIT.out order ho q hj1 p (by omega)
              have hsz : wa.heap.size ≤ wd.heap.size := HKa.out.size
              have HS := Lib.hid (il_succ j (fun i => ordF k liar ly order (i + 1)))
              have HKP : Hid (k - 1 = p) := Lib.hid (by omega)
              have hOw := HO.out
              have HFIN : Hid (∀ (g6 d' : Nat) (w6 : World), OwnInts w6 wa.heap.size (some ⟨g6, 0, none⟩) (j + 1) d' (il j (fun i => ordF k liar ly order (i + 1)) ++ [ordF k liar ly order q]) → wd.grownBy w6 (A.map (·.block)) → OwnInts w6 wa.heap.size (some ⟨g6, 0, none⟩) (j + 1) d' (il (j + 1) (fun i => ordF k liar ly order (i + 1))) ∧ OwnInts w6 w.heap.size (some ⟨g, 0, none⟩) k d (il k (firstF k liar ly order)) ∧ Keeps w w6 ∧ Keeps wa w6) := Lib.hid (fun g6 d' w6 hO6 hg6 => ⟨by have e := HQ.out; rw [e] at hO6; rw [HS.out]; exact hO6, own_kept HF.out hg6 (fun b hb e => by have h1 := (own_block HO.out b e).1; have h2 := HGL.out.2; simp at hb; omega), HK.out.grown HO.out (Nat.le_of_lt (Nat.lt_of_le_of_lt HGL.out.1 HGL.out.2)) hg6, HKa.out.grown HO.out (Nat.le_refl _) hg6⟩)
              by_cases hql : q = liar
              · have hqe : ((q : Int) == (liar : Int)) = true := by simp; omega
                have HV := Lib.hid (ordF_liar (n := k) (ly := ly) (order := order) hql)
                generalize onesF k liar ly order q p = v at *
                clear hql
                by_cases h2 : 2 * v > (k : Int) - 1
                · have h2' : (p : Int) < 2 * v := by omega
                  go_wp2_with (first | (at_builtin; refine wp_app_int rfl _ _ rfl wa.heap.size A j e (il j (fun i => ordF k liar ly order (i + 1))) _ rfl hOw _ rfl (by omega) hsz ?_; intro g6 d' w6 hO6 hg6))
                  go_roundw
                  case rel => obtain ⟨r1, r2, r3, r4⟩ := HFIN.out g6 d' w6 (by rw [HV.out]; exact hO6) hg6; exact ⟨j + 1, d', _, by omega, by have := HQ.out; go_num, rfl, r1, r2, r3, r4⟩
                  case measure => have := HQ.out; simp [intOf]; omega
                · have h2' : ¬ ((p : Int) < 2 * v) := by omega
                  go_wp2_with (first | (at_builtin; refine wp_app_int rfl _ _ rfl wa.heap.size A j e (il j (fun i => ordF k liar ly order (i + 1))) _ rfl hOw _ rfl (by omega) hsz ?_; intro g6 d' w6 hO6 hg6))
                  go_roundw
                  case rel => obtain ⟨r1, r2, r3, r4⟩ := HFIN.out g6 d' w6 (by rw [HV.out]; exact hO6) hg6; exact ⟨j + 1, d', _, by omega, by have := HQ.out; go_num, rfl, r1, r2, r3, r4⟩
                  case measure => have := HQ.out; simp [intOf]; omega
              · have hqe : ((q : Int) == (liar : Int)) = false := by simp; omega
                have HV1 := Lib.hid (fun h => ordF_one (n := k) (ly := ly) (order := order) hql (by rw [HKP.out]; exact h))
                have HV0 := Lib.hid (fun h => ordF_zero (n := k) (ly := ly) (order := order) hql (by rw [HKP.out]; exact h))
                generalize onesF k liar ly order q p = v at *
                clear hql
                by_cases h2 : 2 * v > (k : Int) - 1
                · have h2' : (p : Int) < 2 * v := by omega
                  have HV := Lib.hid (HV1.out h2)
                  go_wp2_with (first | (at_builtin; refine wp_app_int rfl _ _ rfl wa.heap.size A j e (il j (fun i => ordF k liar ly order (i + 1))) _ rfl hOw _ rfl (by omega) hsz ?_; intro g6 d' w6 hO6 hg6))
                  go_roundw
                  case rel => obtain ⟨r1, r2, r3, r4⟩ := HFIN.out g6 d' w6 (by rw [HV.out]; exact hO6) hg6; exact ⟨j + 1, d', _, by omega, by have := HQ.out; go_num, rfl, r1, r2, r3, r4⟩
                  case measure => have := HQ.out; simp [intOf]; omega
                · have h2' : ¬ ((p : Int) < 2 * v) := by omega
                  have HV := Lib.hid (HV0.out h2)
                  go_wp2_with (first | (at_builtin; refine wp_app_int rfl _ _ rfl wa.heap.size A j e (il j (fun i => ordF k liar ly order (i + 1))) _ rfl hOw _ rfl (by omega) hsz ?_; intro g6 d' w6 hO6 hg6))
                  go_roundw
                  case rel => obtain ⟨r1, r2, r3, r4⟩ := HFIN.out g6 d' w6 (by rw [HV.out]; exact hO6) hg6; exact ⟨j + 1, d', _, by omega, by have := HQ.out; go_num, rfl, r1, r2, r3, r4⟩
                  case measure => have := HQ.out; simp [intOf]; omega
        · obtain rfl : j = N := by omega
          have HO := Lib.hid (hO.mono (lo' := w.heap.size) (Nat.le_of_lt (Nat.lt_of_le_of_lt HGL.out.1 HGL.out.2)))
          clear hO hF hKa
          go_wp2
          go_ret
          exact Ans.mk HO.out hK
end Go.Proofs.Ytepgogaoppdllaa
