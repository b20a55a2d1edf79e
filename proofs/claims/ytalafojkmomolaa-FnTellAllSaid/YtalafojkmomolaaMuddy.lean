/-
  The contracts of muddy and lettersOf: the views that they make. Condition: at most 4 people, at most 15 letters.
-/
import Derived.Test.YtalafojkmomolaaOwn
import Derived.Deep.DeepCutAuto
namespace Go.Proofs.Ytalafojkmomolaa
open Go.RowKit

/-- What a sees among people with mud: the world without its own digit. -/
def muddyL (a k : Nat) : List Int := (List.range k).map fun (v : Nat) => (v : Int) - bitI (v.testBit a) * ((2 ^ a : Nat) : Int)
def muddyLL (n : Nat) (k : Nat) : List (List Int) := (List.range k).map fun a => muddyL a (2 ^ n)
theorem bitI_01 (b : Bool) : 0 ≤ bitI b ∧ bitI b ≤ 1 := by cases b <;> simp [bitI]
set_option maxHeartbeats 1000000 in
theorem muddy_any (n : Nat) (w : World) (hn : n ≤ 4) :
    Calls Try.prog 58 #[.int .i64 n] w fun e w' => ∃ A c, e = .returned (.agg #[.int .i64 (2 ^ n : Nat), .slice A n c]) ∧ OwnRows w' w.heap.size A n c (muddyLL n n) ∧ Keeps w w' := by
  have hp : 2 ^ n ≤ 16 := Nat.le_trans (Nat.pow_le_pow_right (by omega) hn) (by omega)
  go_enter Try.func58, Try.ntmps58
  go_wp2_with fail
  refine (spower_any n _ (by omega)).mono ?_
  rintro e w1 ⟨rfl, rfl⟩
  have HN : Hid (∀ k, muddyLL n (k + 1) = muddyLL n k ++ [muddyL k (2 ^ n)]) := Lib.hid (fun k => by simp [muddyLL, List.range_succ])
  have HL0 : Hid (muddyLL n 0 = []) := Lib.hid rfl
  generalize hLL : muddyLL n = LL at *
  have HLL := Lib.hid hLL
  clear hLL
  generalize hN : 2 ^ n = N at *
  have HNN := Lib.hid hN
  clear hN
  go_wp2_with fail
  go_loopw [4] (fun i wr => ∃ (k : Nat) (A : Option Addr) (c : Nat), k ≤ n ∧ i = .int .i64 k ∧ Blk wr w.heap.size 25 #[.int .i64 0, .slice none 0 0] ∧ Blk wr (w.heap.size + 1) 25 #[.int .i64 N, .slice A k c] ∧ OwnRows wr w.heap.size A k c (LL k) ∧ Keeps w wr) (fun i _ => n - (intOf i).toNat)
  case atStart =>
    refine ⟨0, none, 0, by omega, rfl, (Blk.new w _ _).keeps (Keeps.alloc _ _), ?_, by rw [HL0.out]; exact OwnRows.nil _ _, (Keeps.alloc _ _).step (Keeps.alloc _ _)⟩
    have := Blk.new (w.alloc (.cells #[.int .i64 0, .slice none 0 0] 25)) #[.int .i64 N, .slice none 0 0] 25
    rwa [World.size_alloc] at this
  case round =>
    obtain ⟨k, A, c, hk, rfl, hB0, hB1, hOwn, hKr⟩ := hrel
    have hlt0 := hB0.lt
    have hlt1 := hB1.lt
    by_cases hlt : k < n
    · go_wp2_with fail
      obtain ⟨wo, rfl⟩ : ∃ wo : World, wo = wr := ⟨_, rfl⟩
      go_loopw [5, 6] (fun s i wr => ∃ (j : Nat) (a : Option Addr) (d : Nat), j ≤ N ∧ s = .slice a j d ∧ i = .int .i64 j ∧ OwnInts wr wo.heap.size a j d (muddyL k j) ∧ Keeps wo wr) (fun _ i _ => N - (intOf i).toNat)
      case atStart => exact ⟨0, _, 0, by omega, rfl, rfl, OwnInts.made wo _ (Nat.le_refl _), Keeps.alloc _ _⟩
      case round =>
        obtain ⟨j, a, d, hj, rfl, rfl, hOwnJ, hKq⟩ := hrel
        have hC0 := cell_keeps hKq (show wo.cell? ⟨w.heap.size + 1, 0, none⟩ = some (.int .i64 N) by rw [hB1.cell]; rfl)
        by_cases hjt : j < N
        · have hpk : 2 ^ k ≤ 16 := Nat.le_trans (Nat.pow_le_pow_right (by omega) (show k ≤ 4 by omega)) (by omega)
          have HM : Hid (muddyL k (j + 1) = muddyL k j ++ [(j : Int) - bitI (j.testBit k) * ((2 ^ k : Nat) : Int)]) := Lib.hid (by simp [muddyL, List.range_succ])
          generalize hP : 2 ^ k = P at *
          have HP := Lib.hid hP
          clear hP
          have q0 : 0 ≤ bitI (j.testBit k) * (P : Int) := Int.mul_nonneg (bitI_01 _).1 (Int.natCast_nonneg _)
          have q1 : bitI (j.testBit k) * (P : Int) ≤ 16 := by cases j.testBit k <;> simp [bitI] <;> omega
          go_wp2_with fail
          refine (sbit_any j k _ (by omega) (by omega)).mono ?_
          rintro e w2 ⟨rfl, rfl⟩
          go_wp2_with fail
          refine (spower_any k _ (by omega)).mono ?_
          rintro e w2 ⟨rfl, rfl⟩
          rw [HP.out]
          go_wp2_with (first | (at_builtin; refine wp_app_int rfl _ _ rfl wo.heap.size a j d (muddyL k j) _ rfl hOwnJ _ rfl (by omega) hKq.size ?_; intro g d' w3 hOwn3 hg3))
          go_roundw
          case rel => exact ⟨j + 1, _, d', by omega, by go_num, by go_num, by rw [HM.out]; exact hOwn3, hKq.grown hOwnJ (Nat.le_refl _) hg3⟩
          case measure => simp [intOf]; omega
        · have : j = N := by omega
          subst this
          have hC1 := cell_keeps hKq (show wo.cell? ⟨w.heap.size + 1, 1, none⟩ = some (.slice A k c) by rw [hB1.cell]; rfl)
          have hOwn' := hOwn.keeps hKq
          have hw0 := hKr.size
          have hw1 := hKq.size
          go_wp2_with (first | (at_builtin; go_must (refine wp_app_row rfl _ _ rfl w.heap.size A k c (LL k) _ rfl hOwn' wo.heap.size a j d (muddyL k j) hOwnJ hw0 rfl (by omega) (Nat.le_trans hw0 hw1) ?_); intro g c' w3 hOwn3 hg3; have hB13 := hOwn'.blk hg3 (hB1.keeps hKq) (by decide); have d1 : w3.cell? ⟨w.heap.size + 1, 1, none⟩ = some (.slice A k c) := (by rw [hB13.cell]; rfl); have f1 := hB13.frozen 1))
          have hB03 := hOwn'.blk hg3 (hB0.keeps hKq) (by decide)
          have hK3 : Keeps w w3 := hOwn'.keepsAll (hKr.step hKq) (Nat.le_refl _) hg3
          go_roundw
          case rel =>
            refine ⟨k + 1, _, c', by omega, by go_num, hB03.set_other _ _ (by simp), hB13.set 1 _, ?_, hK3.setCell (by simp) _⟩
            rw [HN.out]
            exact hOwn3.grown (grown_set _ _ _ _) hB13 (by decide) (by decide)
          case measure => simp [intOf]; omega
    · have : k = n := by omega
      subst this
      have c10 : wr.cell? ⟨w.heap.size + 1, 0, none⟩ = some (.int .i64 N) := by rw [hB1.cell]; rfl
      have c11 : wr.cell? ⟨w.heap.size + 1, 1, none⟩ = some (.slice A k c) := by rw [hB1.cell]; rfl
      have c00 : wr.cell? ⟨w.heap.size, 0, none⟩ = some (.int .i64 0) := by rw [hB0.cell]; rfl
      have c01 : wr.cell? ⟨w.heap.size, 1, none⟩ = some (.slice none 0 0) := by rw [hB0.cell]; rfl
      have f00 := hB0.frozen 0
      have f01 := hB0.frozen 1
      go_wp2
      have hB2 := (hB0.set 0 (.int .i64 N)).set 1 (.slice A k c)
      refine bodyPost_ret (v := .agg #[.int .i64 N, .slice A k c]) (by simp [results, Try.results58, go_sem, c00, c01]) rfl ⟨A, c, by rw [HNN.out], ?_, ?_⟩
      · rw [HLL.out]
        exact (hOwn.grown (grown_set _ _ _ _) hB0 (by decide) (by decide)).grown (grown_set _ _ _ _) (hB0.set 0 _) (by decide) (by decide)
      · exact (hKr.setCell (Nat.le_refl _) _).setCell (Nat.le_refl _) _
/-- How far the letters are: k0 numbers in the first row, k1 in the second one. -/
def LetSt (w : World) (n G : Nat) (k0 k1 : Nat) (wx : World) : Prop :=
  ∃ (a0 a1 : Option Addr) (c0 c1 : Nat) (l0 l1 : List Int), Blk wx w.heap.size 25 #[.int .i64 0, .slice none 0 0] ∧ Blk wx (G + 1) 25 #[.int .i64 ((n : Int) + 1), .slice (some ⟨G, 0, none⟩) 2 2] ∧ Blk wx G 56 #[.slice a0 k0 c0, .slice a1 k1 c1] ∧
    OwnInts wx w.heap.size a0 k0 c0 l0 ∧ OwnInts wx w.heap.size a1 k1 c1 l1 ∧ (∀ b, a0.map (·.block) = some b → a1.map (·.block) ≠ some b) ∧ Keeps w wx
theorem letSt0 {w wr w3 : World} {n G k : Nat} {a0 a1 : Option Addr} {c0 c1 k1 : Nat} {l0 l1 : List Int} (hG : w.heap.size ≤ G) (hB0 : Blk wr w.heap.size 25 #[.int .i64 0, .slice none 0 0]) (hB1 : Blk wr (G + 1) 25 #[.int .i64 ((n : Int) + 1), .slice (some ⟨G, 0, none⟩) 2 2]) (hBG : Blk wr G 56 #[.slice a0 k c0, .slice a1 k1 c1])
    (hO0 : OwnInts wr w.heap.size a0 k c0 l0) (hO1 : OwnInts wr w.heap.size a1 k1 c1 l1) (hne : ∀ b, a0.map (·.block) = some b → a1.map (·.block) ≠ some b) (hKr : Keeps w wr)
    {g0 d0 : Nat} {x : Int} (h3 : OwnInts w3 w.heap.size (some ⟨g0, 0, none⟩) (k + 1) d0 (l0 ++ [x])) (hg : wr.grownBy w3 (a0.map (·.block))) (hat : a0.map (·.block) = some g0 ∨ g0 = wr.heap.size + 1) :
    LetSt w n G (k + 1) k1 (w3.setCell ⟨G, 0, none⟩ (.slice (some ⟨g0, 0, none⟩) (k + 1) d0)) := by
  have e0 := hB0.grown hg (own_other' hO0 hB0 (by decide))
  have e1 := hB1.grown hg (own_other' hO0 hB1 (by decide))
  have eG := hBG.grown hg (own_other' hO0 hBG (by decide))
  have eO1 : OwnInts w3 w.heap.size a1 k1 c1 l1 := own_kept hO1 hg (fun b hb e => hne b e hb)
  have hz := hB0.lt
  refine ⟨_, a1, d0, c1, _, l1, e0.set_other _ _ (by intro e; have := blk_ne hB0 hBG (by decide); exact this e), e1.set_other _ _ (by simp), eG.set 0 _, h3.grown (grown_set _ _ _ _) eG (by decide), eO1.grown (grown_set _ _ _ _) eG (by decide), ?_, ?_⟩
  · intro b hb hb1
    simp at hb
    subst hb
    rcases hat with h | h
    · exact hne _ h hb1
    · have := (own_block hO1 _ hb1).2
      omega
  · exact (hKr.grown hO0 (Nat.le_refl _) hg).setCell hG _
theorem letSt1 {w wr w3 : World} {n G k : Nat} {a0 a1 : Option Addr} {c0 c1 k1 : Nat} {l0 l1 : List Int} (hG : w.heap.size ≤ G) (hB0 : Blk wr w.heap.size 25 #[.int .i64 0, .slice none 0 0]) (hB1 : Blk wr (G + 1) 25 #[.int .i64 ((n : Int) + 1), .slice (some ⟨G, 0, none⟩) 2 2]) (hBG : Blk wr G 56 #[.slice a0 k1 c0, .slice a1 k c1])
    (hO0 : OwnInts wr w.heap.size a0 k1 c0 l0) (hO1 : OwnInts wr w.heap.size a1 k c1 l1) (hne : ∀ b, a0.map (·.block) = some b → a1.map (·.block) ≠ some b) (hKr : Keeps w wr)
    {g0 d0 : Nat} {x : Int} (h3 : OwnInts w3 w.heap.size (some ⟨g0, 0, none⟩) (k + 1) d0 (l1 ++ [x])) (hg : wr.grownBy w3 (a1.map (·.block))) (hat : a1.map (·.block) = some g0 ∨ g0 = wr.heap.size + 1) :
    LetSt w n G k1 (k + 1) (w3.setCell ⟨G, 1, none⟩ (.slice (some ⟨g0, 0, none⟩) (k + 1) d0)) := by
  have e0 := hB0.grown hg (own_other' hO1 hB0 (by decide))
  have e1 := hB1.grown hg (own_other' hO1 hB1 (by decide))
  have eG := hBG.grown hg (own_other' hO1 hBG (by decide))
  have eO0 : OwnInts w3 w.heap.size a0 k1 c0 l0 := own_kept hO0 hg (fun b hb e => hne b hb e)
  refine ⟨a0, _, c0, d0, l0, _, e0.set_other _ _ (by intro e; have := blk_ne hB0 hBG (by decide); exact this e), e1.set_other _ _ (by simp), eG.set 1 _, eO0.grown (grown_set _ _ _ _) eG (by decide), h3.grown (grown_set _ _ _ _) eG (by decide), ?_, ?_⟩
  · intro b hb hb1
    simp at hb1
    subst hb1
    rcases hat with h | h
    · exact hne _ hb h
    · have := (own_block hO0 _ hb).2
      omega
  · exact (hKr.grown hO1 (Nat.le_refl _) hg).setCell hG _
theorem letSt_rows {w wx : World} {n G k : Nat} (h : LetSt w n G k k wx) (hG : w.heap.size ≤ G) : ∃ L, OwnRows wx w.heap.size (some ⟨G, 0, none⟩) 2 2 L ∧ (∀ i, i < 2 → (L.getD i []).length = k) := by
  obtain ⟨a0, a1, c0, c1, l0, l1, hB0, hB1, hBG, hO0, hO1, hne, hK⟩ := h
  refine ⟨[l0, l1], ⟨[.slice a0 k c0, .slice a1 k c1], ⟨rfl, .inr ⟨G, 2, _, rfl, hG, hBG, by omega, by unfold maxLen; omega, rfl, rfl⟩⟩, rfl, fun i hi => ?_⟩, fun i hi => ?_⟩
  · match i, hi with
    | 0, _ => exact ⟨a0, k, c0, rfl, hO0⟩
    | 1, _ => exact ⟨a1, k, c1, rfl, hO1⟩
  · match i, hi with
    | 0, _ => exact hO0.len
    | 1, _ => exact hO1.len
set_option maxHeartbeats 4000000 in
theorem lettersOf_any (n : Nat) (w : World) (hn : n ≤ 15) :
    Calls Try.prog 59 #[.int .i64 n] w fun e w' => ∃ A c L, e = .returned (.agg #[.int .i64 ((n : Int) + 1), .slice A 2 c]) ∧ OwnRows w' w.heap.size A 2 c L ∧ (∀ i, i < 2 → (L.getD i []).length = n + 1) ∧ Keeps w w' := by
  go_enter Try.func59, Try.ntmps59
  go_wp2_with fail
  generalize hG : w.heap.size + 1 + 1 + 1 = G
  have hGl : w.heap.size ≤ G := by omega
  have HGL : Hid (w.heap.size + 1 + 1 + 1 = G) := Lib.hid hG
  clear hG
  go_loopw [4] (fun i wr => ∃ (k : Nat), k ≤ n + 1 ∧ i = .int .i64 k ∧ LetSt w n G k k wr) (fun i _ => n + 1 - (intOf i).toNat)
  case atStart =>
    refine ⟨0, by omega, rfl, some ⟨w.heap.size + 1, 0, none⟩, some ⟨w.heap.size + 1 + 1, 0, none⟩, 0, 0, [], [], ?_, ?_, ?_, ?_, ?_, ?_, ?_⟩
    · exact ((((Blk.new w _ _).keeps (Keeps.alloc _ _)).keeps (Keeps.alloc _ _)).keeps (Keeps.alloc _ _)).keeps (Keeps.alloc _ _)
    · refine blk_at ?_ (Blk.new _ _ _)
      simp only [World.size_alloc]; rw [HGL.out]
    · refine Blk.keeps (blk_at ?_ (Blk.new _ _ _)) (Keeps.alloc _ _)
      simp only [World.size_alloc]; rw [HGL.out]
    · have h := (((OwnInts.made (w.alloc (.cells #[.int .i64 0, .slice none 0 0] 25)) w.heap.size (by simp)).keeps (Keeps.alloc _ (.cells #[] 3))).keeps (Keeps.alloc _ (.cells #[.slice (some ⟨w.heap.size + 1, 0, none⟩) 0 0, .slice (some ⟨w.heap.size + 1 + 1, 0, none⟩) 0 0] 56))).keeps (Keeps.alloc _ (.cells #[.int .i64 ((n : Int) + 1), .slice (some ⟨G, 0, none⟩) 2 2] 25))
      simpa only [World.size_alloc] using h
    · have h := ((OwnInts.made ((w.alloc (.cells #[.int .i64 0, .slice none 0 0] 25)).alloc (.cells #[] 3)) w.heap.size (by simp; omega)).keeps (Keeps.alloc _ (.cells #[.slice (some ⟨w.heap.size + 1, 0, none⟩) 0 0, .slice (some ⟨w.heap.size + 1 + 1, 0, none⟩) 0 0] 56))).keeps (Keeps.alloc _ (.cells #[.int .i64 ((n : Int) + 1), .slice (some ⟨G, 0, none⟩) 2 2] 25))
      simpa only [World.size_alloc] using h
    · simp
    · exact ((((Keeps.alloc w _).step (Keeps.alloc _ _)).step (Keeps.alloc _ _)).step (Keeps.alloc _ _)).step (Keeps.alloc _ _)
  case round =>
    obtain ⟨k, hk, rfl, hst⟩ := hrel
    by_cases hlt : k < n + 1
    · go_upto_region 5 with fail
      go_cut [] (fun wx => LetSt w n G (k + 1) k wx)
      case first =>
        obtain ⟨a0, a1, c0, c1, l0, l1, hB0, hB1, hBG, hO0, hO1, hne, hKr⟩ := hst
        have z1 := hB1.lt
        have z2 := hBG.lt
        have e1 : wr.cell? ⟨G + 1, 1, none⟩ = some (.slice (some ⟨G, 0, none⟩) 2 2) := by rw [hB1.cell]; rfl
        have e2 : wr.cell? ⟨G, 0, none⟩ = some (.slice a0 k c0) := by rw [hBG.cell]; rfl
        go_region_law (refine step_app_int rfl (.tmp 21) (.tmp 24) rfl w.heap.size a0 k c0 l0 _ (by simp [Act.eval]) hO0 _ (by simp [Act.eval]) (by omega) hKr.size ?_; intro g0 d0 w3 hO03 hg3 hat3; have hB13 := hB1.grown hg3 (own_other' hO0 hB1 (by decide)); have hBG3 := hBG.grown hg3 (own_other' hO0 hBG (by decide)); have e13 : w3.cell? ⟨G + 1, 1, none⟩ = some (.slice (some ⟨G, 0, none⟩) 2 2) := (by rw [hB13.cell]; rfl); have e23 : w3.cell? ⟨G, 0, none⟩ = some (.slice a0 k c0) := (by rw [hBG3.cell]; rfl); have f23 := hBG3.frozen 0)
        all_goals (go_wp2_with fail; go_meet; exact letSt0 hGl hB0 hB1 hBG hO0 hO1 hne hKr hO03 hg3 hat3)
      case rest =>
        obtain ⟨a0, a1, c0, c1, l0, l1, hB0, hB1, hBG, hO0, hO1, hne, hKr⟩ := hcut
        have z1 := hB1.lt
        have z2 := hBG.lt
        have e1 : wc.cell? ⟨G + 1, 1, none⟩ = some (.slice (some ⟨G, 0, none⟩) 2 2) := by rw [hB1.cell]; rfl
        have e2 : wc.cell? ⟨G, 1, none⟩ = some (.slice a1 k c1) := by rw [hBG.cell]; rfl
        go_upto_region 6 with fail
        go_region_law (refine step_app_int rfl (.tmp 32) (.tmp 36) rfl w.heap.size a1 k c1 l1 _ (by simp [Act.eval]) hO1 _ (by simp [Act.eval]) (by omega) hKr.size ?_; intro g0 d0 w3 hO03 hg3 hat3; have hB13 := hB1.grown hg3 (own_other' hO1 hB1 (by decide)); have hBG3 := hBG.grown hg3 (own_other' hO1 hBG (by decide)); have e13 : w3.cell? ⟨G + 1, 1, none⟩ = some (.slice (some ⟨G, 0, none⟩) 2 2) := (by rw [hB13.cell]; rfl); have e23 : w3.cell? ⟨G, 1, none⟩ = some (.slice a1 k c1) := (by rw [hBG3.cell]; rfl); have f23 := hBG3.frozen 1)
        all_goals (go_wp2_with fail; go_roundw)
        all_goals first | exact ⟨k + 1, by omega, by go_num, letSt1 hGl hB0 hB1 hBG hO0 hO1 hne hKr hO03 hg3 hat3⟩ | (simp [intOf]; omega)
    · have : k = n + 1 := by omega
      subst this
      obtain ⟨L, hL, hl⟩ := letSt_rows hst hGl
      obtain ⟨a0, a1, c0, c1, l0, l1, hB0, hB1, hBG, hO0, hO1, hne, hKr⟩ := hst
      have c10 : wr.cell? ⟨G + 1, 0, none⟩ = some (.int .i64 ((n : Int) + 1)) := by rw [hB1.cell]; rfl
      have c11 : wr.cell? ⟨G + 1, 1, none⟩ = some (.slice (some ⟨G, 0, none⟩) 2 2) := by rw [hB1.cell]; rfl
      have c00 : wr.cell? ⟨w.heap.size, 0, none⟩ = some (.int .i64 0) := by rw [hB0.cell]; rfl
      have c01 : wr.cell? ⟨w.heap.size, 1, none⟩ = some (.slice none 0 0) := by rw [hB0.cell]; rfl
      have f00 := hB0.frozen 0
      have f01 := hB0.frozen 1
      go_wp2
      refine bodyPost_ret (v := .agg #[.int .i64 ((n : Int) + 1), .slice (some ⟨G, 0, none⟩) 2 2]) (by simp [results, Try.results59, go_sem, c00, c01]) rfl ⟨_, _, rfl, L, ?_, hl, ?_⟩
      · exact (hL.grown (grown_set _ _ _ _) hB0 (by decide) (by decide)).grown (grown_set _ _ _ _) (hB0.set 0 _) (by decide) (by decide)
      · exact (hKr.setCell (Nat.le_refl _) _).setCell (Nat.le_refl _) _
end Go.Proofs.Ytalafojkmomolaa
