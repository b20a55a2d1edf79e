/-
  The contracts of muddy and lettersOf: the views that they make. Condition: at most 4 people, at most 15 letters.
-/
import Derived.Test.YtlniogfinofakaaGreatDoorRuAd
import Derived.Deep.DeepCutAuto
namespace Go.Proofs.YtlniogfinofakaaGreatDoor
set_option maxRecDepth 100000
open Go.RowKit

/-- What a sees among people with mud: the world without its own digit. -/
def muddyL (a k : Nat) : List Int := (List.range k).map fun (v : Nat) => (v : Int) - bitI (v.testBit a) * ((2 ^ a : Nat) : Int)
def muddyLL (n : Nat) (k : Nat) : List (List Int) := (List.range k).map fun a => muddyL a (2 ^ n)
theorem bitI_01 (b : Bool) : 0 ≤ bitI b ∧ bitI b ≤ 1 := by cases b <;> simp [bitI]
set_option maxHeartbeats 1000000 in
theorem muddy_any (n : Nat) (w : World) (hn : n ≤ 4) :
    Calls Tryz.prog 57 #[.int .i64 n] w fun e w' => ∃ A c, e = .returned (.agg #[.int .i64 (2 ^ n : Nat), .slice A n c]) ∧ OwnRows w' w.heap.size A n c (muddyLL n n) ∧ Keeps w w' := by
  have hp : 2 ^ n ≤ 16 := Nat.le_trans (Nat.pow_le_pow_right (by omega) hn) (by omega)
  go_enter Tryz.func57, Tryz.ntmps57
  go_wp2_with fail
  refine (spower_any n _ (by omega)).mono ?_
  rintro e w1 ⟨rfl, rfl⟩
  have HN : Hid (∀ k, muddyLL n (k + 1) = muddyLL n k ++ [muddyL k (2 ^ n)]) := Lib.hid (fun k => by simp [muddyLL, List.range_succ])
  have HL0 : Hid (muddyLL n 0 = []) := Lib.hid rfl
  generalize hLL : muddyLL n = LL at *
  have HLL := Lib.hid hLL
  clear hLL
  generalize hN : 2 ^ n = N at *
  have HNN := Lib.hid hN
  clear hN
  go_wp2_with fail
  go_loopw [4] (fun i wr => ∃ (k : Nat) (A : Option Addr) (c : Nat), k ≤ n ∧ i = .int .i64 k ∧ Blk wr w.heap.size 93 #[.int .i64 0, .slice none 0 0] ∧ Blk wr (w.heap.size + 1) 93 #[.int .i64 N, .slice A k c] ∧ OwnRows wr w.heap.size A k c (LL k) ∧ Keeps w wr) (fun i _ => n - (intOf i).toNat)
  case atStart =>
    refine ⟨0, none, 0, by omega, rfl, (Blk.new w _ _).keeps (Keeps.alloc _ _), ?_, by rw [HL0.out]; exact OwnRows.nil _ _, (Keeps.alloc _ _).step (Keeps.alloc _ _)⟩
    have := Blk.new (w.alloc (.cells #[.int .i64 0, .slice none 0 0] 93)) #[.int .i64 N, .slice none 0 0] 93
    rwa [World.size_alloc] at this
  case round =>
    obtain ⟨k, A, c, hk, rfl, hB0, hB1, hOwn, hKr⟩ := hrel
    have hlt0 := hB0.lt
    have hlt1 := hB1.lt
    by_cases hlt : k < n
    · go_wp2_with fail
      obtain ⟨wo, rfl⟩ : ∃ wo : World, wo = wr := ⟨_, rfl⟩
      go_loopw [5, 6] (fun s i wr => ∃ (j : Nat) (a : Option Addr) (d : Nat), j ≤ N ∧ s = .slice a j d ∧ i = .int .i64 j ∧ OwnInts wr wo.heap.size a j d (muddyL k j) ∧ Keeps wo wr) (fun _ i _ => N - (intOf i).toNat)
      case atStart => exact ⟨0, _, 0, by omega, rfl, rfl, OwnInts.made wo _ (Nat.le_refl _), Keeps.alloc _ _⟩
      case round =>
        obtain ⟨j, a, d, hj, rfl, rfl, hOwnJ, hKq⟩ := hrel
        have hC0 := cell_keeps hKq (show wo.cell? ⟨w.heap.size + 1, 0, none⟩ = some (.int .i64 N) by rw [hB1.cell]; rfl)
        by_cases hjt : j < N
        · have hpk : 2 ^ k ≤ 16 := Nat.le_trans (Nat.pow_le_pow_right (by omega) (show k ≤ 4 by omega)) (by omega)
          have HM : Hid (muddyL k (j + 1) = muddyL k j ++ [(j : Int) - bitI (j.testBit k) * ((2 ^ k : Nat) : Int)]) := Lib.hid (by simp [muddyL, List.range_succ])
          generalize hP : 2 ^ k = P at *
          have HP := Lib.hid hP
          clear hP
          have q0 : 0 ≤ bitI (j.testBit k) * (P : Int) := Int.mul_nonneg (bitI_01 _).1 (Int.natCast_nonneg _)
          have q1 : bitI (j.testBit k) * (P : Int) ≤ 16 := by cases j.testBit k <;> simp [bitI] <;> omega
          go_wp2_with fail
          refine (sbit_any j k _ (by omega) (by omega)).mono ?_
          rintro e w2 ⟨rfl, rfl⟩
          go_wp2_with fail
          refine (spower_any k _ (by omega)).mono ?_
          rintro e w2 ⟨rfl, rfl⟩
          rw [HP.out]
          go_wp2_with (first | (at_builtin; refine wp_app_int rfl _ _ rfl wo.heap.size a j d (muddyL k j) _ rfl hOwnJ _ rfl (by omega) hKq.size ?_; intro g d' w3 hOwn3 hg3))
          go_roundw
          case rel => exact ⟨j + 1, _, d', by omega, by go_num, by go_num, by rw [HM.out]; exact hOwn3, hKq.grown hOwnJ (Nat.le_refl _) hg3⟩
          case measure => simp [intOf]; omega
        · have : j = N := by omega
          subst this
          have hC1 := cell_keeps hKq (show wo.cell? ⟨w.heap.size + 1, 1, none⟩ = some (.slice A k c) by rw [hB1.cell]; rfl)
          have hOwn' := hOwn.keeps hKq
          have hw0 := hKr.size
          have hw1 := hKq.size
          go_wp2_with (first | (at_builtin; go_must (refine wp_app_row rfl _ _ rfl w.heap.size A k c (LL k) _ rfl hOwn' wo.heap.size a j d (muddyL k j) hOwnJ hw0 rfl (by omega) (Nat.le_trans hw0 hw1) ?_); intro g c' w3 hOwn3 hg3; have hB13 := hOwn'.blk hg3 (hB1.keeps hKq) (by decide); have d1 : w3.cell? ⟨w.heap.size + 1, 1, none⟩ = some (.slice A k c) := (by rw [hB13.cell]; rfl); have f1 := hB13.frozen 1))
          have hB03 := hOwn'.blk hg3 (hB0.keeps hKq) (by decide)
          have hK3 : Keeps w w3 := hOwn'.keepsAll (hKr.step hKq) (Nat.le_refl _) hg3
          go_roundw
          case rel =>
            refine ⟨k + 1, _, c', by omega, by go_num, hB03.set_other _ _ (by simp), hB13.set 1 _, ?_, hK3.setCell (by simp) _⟩
            rw [HN.out]
            exact hOwn3.grown (grown_set _ _ _ _) hB13 (by decide) (by decide)
          case measure => simp [intOf]; omega
    · have : k = n := by omega
      subst this
      have c10 : wr.cell? ⟨w.heap.size + 1, 0, none⟩ = some (.int .i64 N) := by rw [hB1.cell]; rfl
      have c11 : wr.cell? ⟨w.heap.size + 1, 1, none⟩ = some (.slice A k c) := by rw [hB1.cell]; rfl
      have c00 : wr.cell? ⟨w.heap.size, 0, none⟩ = some (.int .i64 0) := by rw [hB0.cell]; rfl
      have c01 : wr.cell? ⟨w.heap.size, 1, none⟩ = some (.slice none 0 0) := by rw [hB0.cell]; rfl
      have f00 := hB0.frozen 0
      have f01 := hB0.frozen 1
      go_wp2
      have hB2 := (hB0.set 0 (.int .i64 N)).set 1 (.slice A k c)
      refine bodyPost_ret (v := .agg #[.int .i64 N, .slice A k c]) (by simp [results, Tryz.results57, go_sem, c00, c01]) rfl ⟨A, c, by rw [HNN.out], ?_, ?_⟩
      · rw [HLL.out]
        exact (hOwn.grown (grown_set _ _ _ _) hB0 (by decide) (by decide)).grown (grown_set _ _ _ _) (hB0.set 0 _) (by decide) (by decide)
      · exact (hKr.setCell (Nat.le_refl _) _).setCell (Nat.le_refl _) _
end Go.Proofs.YtlniogfinofakaaGreatDoor
