/-
  The contract of orders (the program). Condition: two to five generals, words 0 or 1.
-/
import Derived.Test.YtepgogaoppdllaaOrders
namespace Go.Proofs.Ytepgogaoppdllaa
open Go.RowKit

set_option maxRecDepth 100000 in
set_option maxHeartbeats 4000000 in
theorem iorders_any (n N liar c : Nat) (order : Int) (L : Option Addr) (ly : Nat → Int) (w : World) (hn : n ≤ 5) (hN : n = N + 1) (ho : 0 ≤ order ∧ order ≤ 1) (hI : Ints w L (n * n) ly) (hb : ∀ i, i < n * n → 0 ≤ ly i ∧ ly i ≤ 1) :
    Calls Try.prog 57 #[.int .i64 n, .int .i64 order, .int .i64 liar, .slice L (n * n) c] w (Ans w (il N (fun i => ordF n liar ly order (i + 1)))) := by
  have HBIT := Lib.hid hb
  have HNN := Lib.hid hN
  have hn1 : 1 ≤ n := by omega
  have W0 : IntKind.i64.wrap ((n : Int) - 1) = (N : Int) := by rw [IntKind.wrap_i64]; omega
  have k3 := ((Keeps.alloc w (.cells #[.int .i64 n] 3)).step (Keeps.alloc _ (.cells #[.int .i64 liar] 3))).step (Keeps.alloc _ (.cells #[.slice L (n * n) c] 23))
  have b4 : (((w.alloc (.cells #[.int .i64 n] 3)).alloc (.cells #[.int .i64 liar] 3)).alloc (.cells #[.slice L (n * n) c] 23)).cell? ⟨w.heap.size, 0, none⟩ = some (.int .i64 n) := (((Blk.new w #[.int .i64 n] 3).keeps (Keeps.alloc _ _)).keeps (Keeps.alloc _ _)).cell 0
  have b6 : (((w.alloc (.cells #[.int .i64 n] 3)).alloc (.cells #[.int .i64 liar] 3)).alloc (.cells #[.slice L (n * n) c] 23)).cell? ⟨w.heap.size + 1, 0, none⟩ = some (.int .i64 liar) := ((blk_at (by simp) (Blk.new (w.alloc (.cells #[.int .i64 n] 3)) #[.int .i64 liar] 3)).keeps (Keeps.alloc _ _)).cell 0
  have b7 : (((w.alloc (.cells #[.int .i64 n] 3)).alloc (.cells #[.int .i64 liar] 3)).alloc (.cells #[.slice L (n * n) c] 23)).cell? ⟨w.heap.size + 1 + 1, 0, none⟩ = some (.slice L (n * n) c) := (blk_at (by simp) (Blk.new ((w.alloc (.cells #[.int .i64 n] 3)).alloc (.cells #[.int .i64 liar] 3)) #[.slice L (n * n) c] 23)).cell 0
  have hsz3 : (((w.alloc (.cells #[.int .i64 n] 3)).alloc (.cells #[.int .i64 liar] 3)).alloc (.cells #[.slice L (n * n) c] 23)).heap.size = w.heap.size + 1 + 1 + 1 := by simp
  have HI := Lib.hid (hI.keeps k3)
  have B4 := Lib.hid b4
  have B6 := Lib.hid b6
  have B7 := Lib.hid b7
  have HSZ := Lib.hid hsz3
  have K3 := Lib.hid k3
  have hmk := make_ints n (by omega)
  have hmr := make_room N (by omega)
  clear hI hb hN b4 b6 b7 hsz3 k3
  have hf : ∀ (args : Array Value) (w : World), (callFunc 82 args).run Try.prog w = .ok (.enter 82 args) w := fun _ _ => rfl
  go_enter Try.func57, Try.ntmps57
  go_wp2_with fail
  generalize ((w.alloc (.cells #[.int .i64 n] 3)).alloc (.cells #[.int .i64 liar] 3)).alloc (.cells #[.slice L (n * n) c] 23) = W at *
  go_loopw [11] (fun i wr => ∃ k : Nat, 1 ≤ k ∧ k ≤ n ∧ i = .int .i64 k ∧ OwnInts wr W.heap.size (some ⟨w.heap.size + 1 + 1 + 1, 0, none⟩) n n (il n (fun i => if i = 0 then 0 else if i < k then firstF n liar ly order i else 0)) ∧ Keeps W wr) (fun i _ => n - (intOf i).toNat)
  case atStart =>
    refine ⟨1, Nat.le_refl _, hn1, rfl, ?_, Keeps.alloc _ _⟩
    rw [il_congr n _ (fun _ => 0) (fun i _ => by by_cases h : i = 0 <;> simp [h]), ← il_zero]
    exact own_at HSZ.out (OwnInts.make _ _ _ (Nat.le_refl _) (by omega))
  case round =>
    obtain ⟨k, hk1, hk, rfl, hO, hK⟩ := hrel
    have b4 := cell_keeps hK B4.out
    have b6 := cell_keeps hK B6.out
    have b7 := cell_keeps hK B7.out
    by_cases hlt : k < n
    · have hki : (k : Int) < n := by omega
      have hki2 : (k : Int) < n := by omega
      have CT : Hid (Calls Try.prog 82 #[.int .i64 0, .int .i64 k, .int .i64 order, .pointer (some ⟨w.heap.size + 1, 0, none⟩), .pointer (some ⟨w.heap.size + 1 + 1, 0, none⟩), .pointer (some ⟨w.heap.size, 0, none⟩)] wr fun e w'' => e = .returned (.int .i64 (firstF n liar ly order k)) ∧ wr = w'') := Lib.hid (itold_any (w.heap.size + 1) (w.heap.size + 1 + 1) w.heap.size n liar 0 k c order L ly wr hn hn1 hlt (HI.out.keeps hK) b6 b7 b4)
      have hc := hO.cell k hlt
      have hfz := hO.frozen k
      have hob := hO.block
      have HFIN : Hid (OwnInts (wr.setCell ⟨w.heap.size + 1 + 1 + 1, k, none⟩ (.int .i64 (firstF n liar ly order k))) W.heap.size (some ⟨w.heap.size + 1 + 1 + 1, 0, none⟩) n n (il n (fun i => if i = 0 then 0 else if i < k + 1 then firstF n liar ly order i else 0))) := Lib.hid (by
        have h := hO.set k (firstF n liar ly order k)
        rw [il_set] at h
        rw [il_congr n _ (fun i => if i = k then firstF n liar ly order k else if i = 0 then 0 else if i < k then firstF n liar ly order i else 0) (fun i _ => by
          by_cases h1 : i = k
          · subst h1; rw [if_neg (by omega), if_pos (by omega), if_pos rfl]
          · rw [if_neg h1]
            by_cases h0 : i = 0
            · rw [if_pos h0, if_pos h0]
            · rw [if_neg h0, if_neg h0]
              by_cases h2 : i < k
              · rw [if_pos (by omega), if_pos h2]
              · rw [if_neg (by omega), if_neg h2])]
        exact h)
      have HOB := Lib.hid hob.1
      generalize firstF n liar ly order k = v at *
      generalize (il n (fun i => if i = 0 then 0 else if i < k then firstF n liar ly order i else 0)).getD k 0 = old at *
      generalize n * n = nn at *
      clear hO hob
      go_wp2_with fail
      refine CT.out.mono ?_
      rintro e w1 ⟨rfl, rfl⟩
      go_wp2
      go_roundw
      case rel => exact ⟨k + 1, by omega, by omega, by go_num, HFIN.out, Below.setCell hK HOB.out _⟩
      case measure => simp [intOf]; omega
    · obtain rfl : k = n := by omega
      have hF : OwnInts wr W.heap.size (some ⟨w.heap.size + 1 + 1 + 1, 0, none⟩) k k (il k (fun i => if i = 0 then 0 else firstF k liar ly order i)) := by
        rw [il_congr k (fun i => if i = 0 then 0 else firstF k liar ly order i) (fun i => if i = 0 then 0 else if i < k then firstF k liar ly order i else 0) (fun i hi => by rw [if_pos hi])]
        exact hO
      have HF := Lib.hid hF
      have HGL := Lib.hid hF.block
      have HKa := Lib.hid hK
      have HKS := Lib.hid hK.size
      clear hO hK hk hlt hF
      obtain ⟨wa, rfl⟩ : ∃ wa : World, wa = wr := ⟨_, rfl⟩
      have hN1 : (N : Int) + 1 = k := by have := HNN.out; omega
      have hN2 : N + 1 = k := by have := HNN.out; omega
      go_wp2_with fail
      go_loopw [13, 12] (fun i s wr => ∃ (j e : Nat) (A : Option Addr), j ≤ N ∧ i = .int .i64 ((j : Int) + 1) ∧ s = .slice A j e ∧ OwnInts wr wa.heap.size A j e (il j (fun i => ordF k liar ly order (i + 1))) ∧ OwnInts wr W.heap.size (some ⟨w.heap.size + 1 + 1 + 1, 0, none⟩) k k (il k (fun i => if i = 0 then 0 else firstF k liar ly order i)) ∧ Keeps W wr ∧ Keeps wa wr) (fun i _ _ => N + 1 - (intOf i).toNat)
      case atStart => exact ⟨0, N, _, by omega, by simp, rfl, own_room _ _ _ (Nat.le_refl _) (by omega), HF.out.keeps (Keeps.alloc _ _), HKa.out.step (Keeps.alloc _ _), Keeps.alloc _ _⟩
      case round =>
        clear HF HKa b4 b6 b7
        obtain ⟨j, e, A, hj, rfl, rfl, hO, hF, hK, hKa⟩ := hrel
        have b4 := cell_keeps hK B4.out
        have b6 := cell_keeps hK B6.out
        have b7 := cell_keeps hK B7.out
        by_cases hlj : j < N
        · have hji : (j : Int) + 1 < k := by omega
          have hj1 : j + 1 < k := by omega
          have W1 : ((j : Int) + 1) = ((j + 1 : Nat) : Int) := by omega
          have hc1 := hF.cell (j + 1) hj1
          rw [il_getD _ _ _ hj1, if_neg (by omega)] at hc1
          have HO := Lib.hid hO
          have HF := Lib.hid hF
          have HK := Lib.hid hK
          have HKa := Lib.hid hKa
          clear hO hF hK hKa
          obtain ⟨wd, rfl⟩ : ∃ wd : World, wd = wr := ⟨_, rfl⟩
          rw [W1]
          obtain ⟨q, hq⟩ : ∃ q, q = j + 1 := ⟨_, rfl⟩
          rw [← hq] at hc1 hj1 ⊢
          have HQ := Lib.hid hq
          have hqi : (q : Int) < k := by omega
          clear hq W1 hji
          go_wp2_with fail
          go_loopw [15, 14] (fun i v wr => ∃ p : Nat, p ≤ N ∧ i = .int .i64 ((p : Int) + 1) ∧ v = .int .i64 (onesF k liar ly order q p) ∧ wd = wr) (fun i _ _ => N + 1 - (intOf i).toNat)
          case atStart => exact ⟨0, by omega, by simp, rfl, rfl⟩
          case round =>
            obtain ⟨p, hp, rfl, rfl, rfl⟩ := hrel
            by_cases hlp : p < N
            · have hpi : (p : Int) + 1 < k := by omega
              have hp1 : p + 1 < k := by omega
              have hb1 := ones_le k liar ly HBIT.out order ho q hj1 p (by omega)
              have HN := Lib.hid (show onesF k liar ly order q (p + 1) = if p + 1 = q then onesF k liar ly order q p else onesF k liar ly order q p + toldF k liar ly (p + 1) q (firstF k liar ly order (p + 1)) from rfl)
              have hf1 := told_bit k liar ly HBIT.out 0 (p + 1) order (by omega) hp1 ho
              have ht1 := told_bit k liar ly HBIT.out (p + 1) q (firstF k liar ly order (p + 1)) hp1 hj1 hf1
              by_cases hpq : p + 1 = q
              · have HN1 := Lib.hid (show onesF k liar ly order q (p + 1) = onesF k liar ly order q p by rw [HN.out, if_pos hpq])
                have hne : ((p : Int) + 1 != (q : Int)) = false := by rw [bne_eq_false_iff_eq]; omega
                generalize onesF k liar ly order q p = v at *
                clear hpq
                go_wp2
                go_roundw
                case rel => exact ⟨p + 1, by omega, by go_num, by rw [HN1.out], trivial⟩
                case measure => simp [intOf]; omega
              · have HN1 := Lib.hid (show onesF k liar ly order q (p + 1) = onesF k liar ly order q p + toldF k liar ly (p + 1) q (firstF k liar ly order (p + 1)) by rw [HN.out, if_neg hpq])
                have hne : ((p : Int) + 1 != (q : Int)) = true := by rw [bne_iff_ne]; omega
                have hc2 := HF.out.cell (p + 1) hp1
                rw [il_getD _ _ _ hp1, if_neg (by omega)] at hc2
                have CT : Hid (Calls Try.prog 82 #[.int .i64 ((p : Int) + 1), .int .i64 q, .int .i64 (firstF k liar ly order (p + 1)), .pointer (some ⟨w.heap.size + 1, 0, none⟩), .pointer (some ⟨w.heap.size + 1 + 1, 0, none⟩), .pointer (some ⟨w.heap.size, 0, none⟩)] wd fun e w'' => e = .returned (.int .i64 (toldF k liar ly (p + 1) q (firstF k liar ly order (p + 1)))) ∧ wd = w'') := Lib.hid (itold_any (w.heap.size + 1) (w.heap.size + 1 + 1) w.heap.size k liar (p + 1) q c _ L ly wd hn hp1 hj1 (HI.out.keeps HK.out) b6 b7 b4)
                generalize toldF k liar ly (p + 1) q (firstF k liar ly order (p + 1)) = tv at *
                generalize firstF k liar ly order (p + 1) = fv at *
                generalize onesF k liar ly order q p = v at *
                generalize k * k = nn at *
                clear hpq
                go_wp2_with fail
                refine CT.out.mono ?_
                rintro e w2 ⟨rfl, rfl⟩
                go_wp2
                go_roundw
                case rel => exact ⟨p + 1, by omega, by go_num, by rw [HN1.out], trivial⟩
                case measure => simp [intOf]; omega
            · obtain rfl : p = N := by omega
              have hb1 := ones_le k liar ly HBIT.out order ho q hj1 p (by omega)
              have hsz : wa.heap.size ≤ wd.heap.size := HKa.out.size
              have HS := Lib.hid (il_succ j (fun i => ordF k liar ly order (i + 1)))
              have HKP : Hid (k - 1 = p) := Lib.hid (by omega)
              have hOw := HO.out
              have HFIN : Hid (∀ (g6 d' : Nat) (w6 : World), OwnInts w6 wa.heap.size (some ⟨g6, 0, none⟩) (j + 1) d' (il j (fun i => ordF k liar ly order (i + 1)) ++ [ordF k liar ly order q]) → wd.grownBy w6 (A.map (·.block)) → OwnInts w6 wa.heap.size (some ⟨g6, 0, none⟩) (j + 1) d' (il (j + 1) (fun i => ordF k liar ly order (i + 1))) ∧ OwnInts w6 W.heap.size (some ⟨w.heap.size + 1 + 1 + 1, 0, none⟩) k k (il k (fun i => if i = 0 then 0 else firstF k liar ly order i)) ∧ Keeps W w6 ∧ Keeps wa w6) := Lib.hid (fun g6 d' w6 hO6 hg6 => ⟨by have e := HQ.out; rw [e] at hO6; rw [HS.out]; exact hO6, own_kept HF.out hg6 (fun b hb e => by have h1 := (own_block HO.out b e).1; have h2 := HGL.out.2; simp at hb; omega), HK.out.grown HO.out (Nat.le_of_lt (Nat.lt_of_le_of_lt HGL.out.1 HGL.out.2)) hg6, HKa.out.grown HO.out (Nat.le_refl _) hg6⟩)
              by_cases hql : q = liar
              · have hqe : ((q : Int) == (liar : Int)) = true := by simp; omega
                have HV := Lib.hid (ordF_liar (n := k) (ly := ly) (order := order) hql)
                generalize onesF k liar ly order q p = v at *
                clear hql
                go_wp2_with (first | (at_builtin; refine wp_app_int rfl _ _ rfl wa.heap.size A j e (il j (fun i => ordF k liar ly order (i + 1))) _ rfl hOw _ rfl (by omega) hsz ?_; intro g6 d' w6 hO6 hg6))
                go_roundw
                case rel => obtain ⟨r1, r2, r3, r4⟩ := HFIN.out g6 d' w6 (by rw [HV.out]; exact hO6) hg6; exact ⟨j + 1, d', _, by omega, by have := HQ.out; go_num, rfl, r1, r2, r3, r4⟩
                case measure => have := HQ.out; simp [intOf]; omega
              · have hqe : ((q : Int) == (liar : Int)) = false := by simp; omega
                have HV1 := Lib.hid (fun h => ordF_one (n := k) (ly := ly) (order := order) hql (by rw [HKP.out]; exact h))
                have HV0 := Lib.hid (fun h => ordF_zero (n := k) (ly := ly) (order := order) hql (by rw [HKP.out]; exact h))
                generalize onesF k liar ly order q p = v at *
                clear hql
                by_cases h2 : 2 * v > (k : Int) - 1
                · have h2' : (p : Int) < 2 * v := by omega
                  have HV := Lib.hid (HV1.out h2)
                  go_wp2_with (first | (at_builtin; refine wp_app_int rfl _ _ rfl wa.heap.size A j e (il j (fun i => ordF k liar ly order (i + 1))) _ rfl hOw _ rfl (by omega) hsz ?_; intro g6 d' w6 hO6 hg6))
                  go_roundw
                  case rel => obtain ⟨r1, r2, r3, r4⟩ := HFIN.out g6 d' w6 (by rw [HV.out]; exact hO6) hg6; exact ⟨j + 1, d', _, by omega, by have := HQ.out; go_num, rfl, r1, r2, r3, r4⟩
                  case measure => have := HQ.out; simp [intOf]; omega
                · have h2' : ¬ ((p : Int) < 2 * v) := by omega
                  have HV := Lib.hid (HV0.out h2)
                  go_wp2_with (first | (at_builtin; refine wp_app_int rfl _ _ rfl wa.heap.size A j e (il j (fun i => ordF k liar ly order (i + 1))) _ rfl hOw _ rfl (by omega) hsz ?_; intro g6 d' w6 hO6 hg6))
                  go_roundw
                  case rel => obtain ⟨r1, r2, r3, r4⟩ := HFIN.out g6 d' w6 (by rw [HV.out]; exact hO6) hg6; exact ⟨j + 1, d', _, by omega, by have := HQ.out; go_num, rfl, r1, r2, r3, r4⟩
                  case measure => have := HQ.out; simp [intOf]; omega
        · obtain rfl : j = N := by omega
          have hKW := K3.out.step hK
          have HO := Lib.hid (hO.mono (lo' := w.heap.size) (by have := K3.out.size; have := HKS.out; omega))
          clear hO hF hKa
          go_wp2
          go_ret
          exact Ans.mk HO.out hKW
end Go.Proofs.Ytepgogaoppdllaa
