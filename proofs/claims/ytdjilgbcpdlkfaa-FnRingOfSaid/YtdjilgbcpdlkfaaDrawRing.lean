/-
  The contract of DrawRingOf: whatever the code is, at most seven numbers in new memory; and equalNet of the laws on equal nets. Condition: a code of at most 2^40 bytes.
-/
import Derived.Test.YtdjilgbcpdlkfaaMarks
import Derived.Test.YtdjilgbcpdlkfaaEq
namespace Go.Proofs.Ytdjilgbcpdlkfaa
open Go.RowKit

def DrawnMarks (w : World) (e : Ending) (w' : World) : Prop :=
  ∃ (n g c : Nat) (l : List Int), e = .returned (.slice (some ⟨g, 0, none⟩) n c) ∧ n ≤ 7 ∧ OwnInts w' w.heap.size (some ⟨g, 0, none⟩) n c l ∧ Keeps w w'
set_option maxRecDepth 100000 in
set_option maxHeartbeats 4000000 in
theorem drawRingOf_any (a : Option Addr) (n c : Nat) (w : World) (hB : Bytes w w.heap.size a n) (hn : n ≤ 1099511627776) (hc : n ≤ c) (hc2 : c ≤ 9223372036854775807) :
    Calls Try.prog 12 #[.slice a n c] w (DrawnMarks w) := by
  have HB := Lib.hid hB
  clear hB
  go_enter Try.func12, Try.ntmps12
  go_wp2_with fail
  refine (newReader_any a n c _ HB.out hn hc hc2).mono ?_
  rintro e w1 ⟨b, rfl, hR1, hb, hK1⟩
  go_wp2_with fail
  refine (pick_any b 0 3 _ hR1 (by omega)).mono ?_
  rintro e w2 ⟨x, rfl, hx, hR2, hG2⟩
  have hK2 := hG2.keeps hK1 hb
  have HR2 := Lib.hid hR2
  have hbw := hR2.lt
  clear hR1 hK1 hG2 hR2 hx
  by_cases hx0 : x = 0
  · subst hx0
    have HM0 : Hid (MkB b 1 0 w2.heap.size 0 [] w2 (w2.alloc (.cells #[] 3))) := Lib.hid ⟨OwnInts.made w2 w2.heap.size (Nat.le_refl _), HR2.out.gro (Keeps.alloc _ _), Gro.ofKeeps (Keeps.alloc _ _)⟩
    go_wp2_with fail
    refine (one_lit b 1 [4, 6, 3, 5, 2, 7] 2 7 _ _ _ _ (by decide) (by decide) (by decide) (by omega) HM0.out.rd rfl (by simp) rfl).mono ?_
    rintro e w3 ⟨m, rfl, hm0, hm7, hR3, hG3⟩
    obtain ⟨m, rfl⟩ := Int.eq_ofNat_of_zero_le (show 0 ≤ m by omega)
    have HM3 := Lib.hid ((HM0.out.keeps (Keeps.alloc _ (.cells #[.int .i64 4, .int .i64 6, .int .i64 3, .int .i64 5, .int .i64 2, .int .i64 7] 3))).gro' hG3 hR3)
    clear HM0 hR3 hG3
    go_wp2_with fail
    go_loopw [4] (fun s wr => ∃ (k q g c : Nat) (l : List Int), k ≤ m ∧ s = .slice (some ⟨g, 0, none⟩) k c ∧ q = 2 + k ∧ Hid (MkB b q k g c l w2 wr)) (fun s _ => m - (match s with | .slice _ k _ => k | _ => 0))
    case atStart => exact ⟨0, 2, _, 0, [], by omega, rfl, by omega, HM3⟩
    case round =>
      clear HM3
      obtain ⟨k, q, g, c, l, hk, rfl, rfl, HM⟩ := hrel
      have hkc := own_cap HM.out.own
      have hkc1 := hkc.1
      have hc63 := hkc.2
      by_cases hlt : k < m
      · have hki : (k : Int) < m := by omega
        go_wp2_with fail
        refine (pick_any b (2 + k) 2 _ HM.out.rd (by omega)).mono ?_
        rintro e w4 ⟨y, rfl, hy, hR4, hG4⟩
        have HM4 := Lib.hid (HM.out.gro' hG4 hR4)
        clear HM hR4 hG4 hy
        go_wp2_with (first | (at_builtin; refine wp_app_int rfl _ _ rfl w2.heap.size (some ⟨g, 0, none⟩) k c l _ rfl HM4.out.own _ rfl (by omega) HM4.out.gro.size ?_; intro g6 c6 w6 hO6 hg6))
        have HM6 : Hid (MkB b (2 + (k + 1)) (k + 1) g6 c6 (l ++ [(y : Int)]) w2 w6) := Lib.hid ⟨hO6, HM4.out.rd.grown hg6 (fun d hd => by have := (own_block HM4.out.own d hd).1; omega), HM4.out.gro.above hg6 (fun d hd => (own_block HM4.out.own d hd).1)⟩
        clear hO6 hg6
        go_wp2_with fail
        go_roundw
        case rel => exact ⟨k + 1, 2 + (k + 1), g6, c6, _, by omega, rfl, by omega, HM6⟩
        case measure => show m - (k + 1) < m - k; omega
      · obtain rfl : k = m := by omega
        go_wp2
        go_ret
        exact ⟨k, g, c, l, rfl, by omega, HM.out.own.mono hK2.size, HM.out.gro.keeps hK2 hb⟩
  · have hx0' : ((x : Int) == 0) = false := by simp; omega
    clear hx0
    go_wp2_with fail
    refine (someMarks_any b 1 _ HR2.out (by omega)).mono ?_
    rintro e w3 ⟨m, q, g, c, l, rfl, hm, hq, hM⟩
    have HM := Lib.hid hM
    clear hM
    go_wp2
    go_ret
    exact ⟨m, g, c, l, rfl, by omega, HM.out.own.mono hK2.size, HM.out.gro.keeps hK2 hb⟩
set_option maxHeartbeats 1000000 in
theorem eNet_true (A B A' B' : Option Addr) (m c mm d c' d' : Nat) (r r' : Nat → Option Addr × Nat × Nat) (L : Nat → Nat) (X : Nat → Nat → Int) (M : Nat → Int) (w : World) (hm : m ≤ 1099511627776) (hmm : mm ≤ 1099511627776) (hL : ∀ i, i < m → L i ≤ 1099511627776) (hN : NetAt w A m r B mm L X M) (hN' : NetAt w A' m r' B' mm L X M) :
    Calls Try.prog 15 #[.agg #[.slice A m c, .slice B mm d], .agg #[.slice A' m c', .slice B' mm d']] w fun e w' => e = .returned (.bool true) ∧ Keeps w w' := by
  have k1 := Keeps.alloc w (.cells #[.slice A m c, .slice B mm d] 27)
  have k2 := k1.step (Keeps.alloc _ (.cells #[.slice A' m c', .slice B' mm d'] 27))
  have b0 : ((w.alloc (.cells #[.slice A m c, .slice B mm d] 27)).alloc (.cells #[.slice A' m c', .slice B' mm d'] 27)).cell? ⟨w.heap.size, 0, none⟩ = some (.slice A m c) := cell_keeps (Keeps.alloc _ _) (box0 w _ _ _)
  have b1 : ((w.alloc (.cells #[.slice A m c, .slice B mm d] 27)).alloc (.cells #[.slice A' m c', .slice B' mm d'] 27)).cell? ⟨w.heap.size, 1, none⟩ = some (.slice B mm d) := cell_keeps (Keeps.alloc _ _) (box1 w _ _ _)
  have d0 := box0 (w.alloc (.cells #[.slice A m c, .slice B mm d] 27)) (.slice A' m c') (.slice B' mm d') 27
  have d1 := box1 (w.alloc (.cells #[.slice A m c, .slice B mm d] 27)) (.slice A' m c') (.slice B' mm d') 27
  simp only [World.size_alloc] at d0 d1
  have CR := Lib.hid (fun w' (kk : Keeps w w') => eRows_true A A' m c c' r r' X X w' hm (hN.rows.keeps kk) (hN'.rows.keeps kk) (fun i hi => by rw [hN.len i hi]; exact hL i hi) (fun i hi => ⟨by rw [hN.len i hi, hN'.len i hi], fun _ _ => rfl⟩))
  have CI := Lib.hid (fun w' (kk : Keeps w w') => eInts_true B B' mm d d' M M w' hmm (hN.marks.keeps kk) (hN'.marks.keeps kk) (fun _ _ => rfl))
  clear hN hN' hL k1
  go_enter Try.func15, Try.ntmps15
  go_wp2_with fail
  refine (CR.out _ k2).mono ?_
  rintro e w1 ⟨rfl, hk1⟩
  have e0 := cell_keeps hk1 b0
  have e1 := cell_keeps hk1 b1
  have f0 := cell_keeps hk1 d0
  have f1 := cell_keeps hk1 d1
  go_wp2_with fail
  refine (CI.out _ (k2.step hk1)).mono ?_
  rintro e w2 ⟨rfl, hk2⟩
  go_wp2
  go_ret
  exact ⟨rfl, (k2.step hk1).step hk2⟩
end Go.Proofs.Ytdjilgbcpdlkfaa
