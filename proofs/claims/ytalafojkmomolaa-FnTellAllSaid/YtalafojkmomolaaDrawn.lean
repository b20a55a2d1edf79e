/-
  The contracts of setOf and of the draws of views and sets: whatever the code is, a view in new memory and a number. Condition: a code of at most 2^40 bytes.
-/
import Derived.Test.YtalafojkmomolaaView
namespace Go.Proofs.Ytalafojkmomolaa
open Go.RowKit

def SetDrawn (b p : Nat) (w : World) (e : Ending) (w' : World) : Prop :=
  ∃ (s : Int) (q : Nat), e = .returned (.int .i64 s) ∧ Rd w' b q ∧ q ≤ p + 10 ∧ Gro b w w'
set_option maxHeartbeats 1000000 in
theorem setOf_any (b p : Nat) (W : Int) (A : Option Addr) (n c : Nat) (w : World) (h : Rd w b p) (hp : p ≤ 2000) (h1 : -1 ≤ W) (h2 : W ≤ 17) :
    Calls Try.prog 32 #[.pointer (some ⟨b, 0, none⟩), .agg #[.int .i64 W, .slice A n c]] w (SetDrawn b p w) := by
  have HR := Lib.hid h
  clear h
  go_enter Try.func32, Try.ntmps32
  go_upto_region 1 with fail
  go_cut [5] (fun s wx => ∃ N : Nat, N ≤ 16 ∧ s = .int .i64 N ∧ Rd wx b p ∧ Gro b w wx)
  case first =>
    go_wp2_with fail
    all_goals go_meet
    · exact ⟨16, by omega, rfl, HR.out.gro (Keeps.alloc _ _), Gro.ofKeeps (Keeps.alloc _ _)⟩
    · exact ⟨0, by omega, rfl, HR.out.gro (Keeps.alloc _ _), Gro.ofKeeps (Keeps.alloc _ _)⟩
    · exact ⟨W.toNat, by omega, congrArg (Value.int .i64) (by omega), HR.out.gro (Keeps.alloc _ _), Gro.ofKeeps (Keeps.alloc _ _)⟩
  case rest =>
    obtain ⟨N, hN, rfl, hR, hG⟩ := hcut
    clear HR
    have hpw : 2 ^ N ≤ 65536 := Nat.le_trans (Nat.pow_le_pow_right (by omega) hN) (by omega)
    have hpw1 : 1 ≤ 2 ^ N := Nat.two_pow_pos N
    go_wp2_with fail
    refine (pick_any b p 24 _ hR (by omega)).mono ?_
    rintro e w1 ⟨k, rfl, hk, hR1, hG1⟩
    by_cases hk0 : k = 0
    · subst hk0
      go_wp2_with fail
      refine (spower_any N _ (by omega)).mono ?_
      rintro e w2 ⟨rfl, rfl⟩
      generalize 2 ^ N = P at *
      go_wp2_with fail
      refine (one_lit b (p + 1) [-1, (P : Int)] (-1) 65536 _ _ _ _ (fun x hx => by simp at hx; rcases hx with rfl | rfl <;> omega) (by simp) (by simp) (by omega) hR1 rfl (by simp) rfl).mono ?_
      rintro e w3 ⟨x, rfl, hx1, hx2, hR3, hG3⟩
      go_wp2
      go_ret
      exact ⟨x, p + 2, rfl, hR3, by omega, ((hG.step hG1).step (Gro.ofKeeps (Keeps.alloc _ _))).step hG3⟩
    · have hk0' : ((k : Int) == 0) = false := by simp; omega
      clear hk0
      go_wp2_with fail
      refine (pick_any b (p + 1) 256 _ hR1 (by omega)).mono ?_
      rintro e w2 ⟨x1, rfl, hx1, hR2, hG2⟩
      go_wp2_with fail
      refine (pick_any b (p + 2) 256 _ hR2 (by omega)).mono ?_
      rintro e w3 ⟨x2, rfl, hx2, hR3, hG3⟩
      have hG4 := ((hG.step hG1).step hG2).step hG3
      clear hG hG1 hG2 hG3
      go_wp2_with fail
      refine (pick_any b (p + 3) 2 _ hR3 (by omega)).mono ?_
      rintro e w4 ⟨x3, rfl, hx3, hR4, hG5⟩
      have hG6 := hG4.step hG5
      clear hG4 hG5
      by_cases hx30 : x3 = 0
      · subst hx30
        go_wp2_with fail
        refine (pick_any b (p + 4) 256 _ hR4 (by omega)).mono ?_
        rintro e w5 ⟨x5, rfl, hx5, hR5, hG7⟩
        go_wp2_with fail
        refine (pick_any b (p + 5) 256 _ hR5 (by omega)).mono ?_
        rintro e w6 ⟨x6, rfl, hx6, hR6, hG8⟩
        go_wp2_with fail
        refine (spower_any N _ (by omega)).mono ?_
        rintro e w7 ⟨rfl, rfl⟩
        generalize 2 ^ N = P at *
        have hP : (1 : Int) ≤ P := by omega
        go_wp2
        go_ret
        exact ⟨_, p + 6, rfl, hR6, by omega, (hG6.step hG7).step hG8⟩
      · have hx30' : ((x3 : Int) == 0) = false := by simp; omega
        clear hx30
        go_wp2_with fail
        refine (spower_any N _ (by omega)).mono ?_
        rintro e w7 ⟨rfl, rfl⟩
        generalize 2 ^ N = P at *
        have hP : (1 : Int) ≤ P := by omega
        go_wp2
        go_ret
        exact ⟨_, p + 4, rfl, hR4, by omega, hG6⟩
/-- What is drawn: a view in new memory, and a number. -/
def DrawnVS (w : World) (e : Ending) (w' : World) : Prop :=
  ∃ (W : Int) (m : Nat) (A : Option Addr) (d : Nat) (L : List (List Int)) (s : Int), e = .returned (.tuple #[.agg #[.int .i64 W, .slice A m d], .int .i64 s]) ∧ OwnRows w' w.heap.size A m d L ∧ m ≤ 4 ∧ (∀ i, i < m → (L.getD i []).length ≤ 16) ∧ Keeps w w'
theorem bytes_more {w : World} {o : Obj} {a : Option Addr} {n : Nat} (h : Bytes w w.heap.size a n) : Bytes (w.alloc o) (w.heap.size + 1) a n := fun i hi => by
  obtain ⟨d, off, e, hd, y, hy, hc⟩ := h.keeps (Keeps.alloc w o) i hi
  exact ⟨d, off, e, by omega, y, hy, hc⟩
set_option maxRecDepth 100000 in
set_option maxHeartbeats 2000000 in
theorem drawAllKnow_any (a : Option Addr) (n c : Nat) (w : World) (hB : Bytes w w.heap.size a n) (hn : n ≤ 1099511627776) (hc : n ≤ c) (hc2 : c ≤ 9223372036854775807) :
    Calls Try.prog 8 #[.slice a n c] w (DrawnVS w) := by
  have HB := Lib.hid hB
  clear hB
  go_enter Try.func8, Try.ntmps8
  go_wp2_with fail
  refine (newReader_any a n c _ (by simp only [World.size_alloc]; exact bytes_more HB.out) hn hc hc2).mono ?_
  rintro e w1 ⟨b, rfl, hR1, hb, hK1⟩
  simp only [World.size_alloc] at hb
  have hB1 := (Blk.new w #[.int .i64 0, .slice none 0 0] 25).keeps hK1
  have hKK1 := (Keeps.alloc w (.cells #[.int .i64 0, .slice none 0 0] 25)).step hK1
  clear hK1
  go_wp2_with fail
  refine (someView_any b 0 _ hR1 (by omega)).mono ?_
  rintro e w2 ⟨W, m, q, A, d, L, rfl, hO, hW1, hW2, hm, hL, hR2, hq, hG2⟩
  have HL := Lib.hid hL
  clear hL
  have hB2 := hB1.grown hG2 (by simp; omega)
  have hKK2 := hG2.keeps hKK1 (by omega)
  have hz2 := hKK1.size
  have hO2 := hO.mono (lo' := w.heap.size) hz2
  clear hO hB1 hG2
  go_wp2_with fail
  have hV := Blk.new w2 #[.int .i64 W, .slice A m d] 25
  have hB3 := hB2.keeps (Keeps.alloc w2 (.cells #[.int .i64 W, .slice A m d] 25))
  have hO3 := hO2.keeps (Keeps.alloc w2 (.cells #[.int .i64 W, .slice A m d] 25))
  have hR3 := hR2.gro (Keeps.alloc w2 (.cells #[.int .i64 W, .slice A m d] 25))
  have hK3 := hKK2.step (Keeps.alloc w2 (.cells #[.int .i64 W, .slice A m d] 25))
  have zR := hR2.lt
  have zB := hB2.lt
  clear hR2 hB2 hKK2 hO2
  generalize hw3 : w2.alloc (.cells #[.int .i64 W, .slice A m d] 25) = w3 at *
  have HW3 := Lib.hid hw3
  clear hw3
  generalize hVV : w2.heap.size = V at *
  have HVV := Lib.hid hVV
  clear hVV
  have c0 : w3.cell? ⟨V, 0, none⟩ = some (.int .i64 W) := by rw [hV.cell]; rfl
  have c1 : w3.cell? ⟨V, 1, none⟩ = some (.slice A m d) := by rw [hV.cell]; rfl
  have b0 : w3.cell? ⟨w.heap.size, 0, none⟩ = some (.int .i64 0) := by rw [hB3.cell]; rfl
  have b1 : w3.cell? ⟨w.heap.size, 1, none⟩ = some (.slice none 0 0) := by rw [hB3.cell]; rfl
  have hVb : V ≠ b := by omega
  have hwb : w.heap.size ≠ b := by omega
  have hVw : V ≠ w.heap.size := by omega
  have hwV : w.heap.size ≠ V := by omega
  have f0 := hB3.frozen 0
  have f1 := hB3.frozen 1
  go_region_held3 (fun w' => w'.cell? ⟨V, 0, none⟩ = some (.int .i64 W) ∧ w'.cell? ⟨V, 1, none⟩ = some (.slice A m d)) (first | exact ⟨hG5.cell g0 hVb, hG5.cell g1 hVb⟩ | go_keep) (first | (go_at_call 32; obtain ⟨g0, g1⟩ : _ ∧ _ := (by assumption); refine (setOf_any b q W A m d _ (hR3.gro (Keeps.drew1 _)) (by omega) hW1 hW2).mono ?_; rintro e w5 ⟨s, q5, rfl, hR5, hq5, hG5⟩; have b50 := hG5.cell (cell_keeps (Keeps.drew1 _) b0) hwb; have b51 := hG5.cell (cell_keeps (Keeps.drew1 _) b1) hwb; have hB5 := (hB3.keeps (Keeps.drew1 _)).grown hG5 (by simp; omega); have f50 := hB5.frozen 0; have f51 := hB5.frozen 1))
  go_wp2
  have k1 := hB5.set 0 (.int .i64 W)
  refine bodyPost_ret (v := .tuple #[.agg #[.int .i64 W, .slice A m d], .int .i64 s]) (by simp [results, Try.results8, go_sem, b50, b51]) rfl ⟨W, m, A, d, L, s, rfl, ?_, hm, HL.out, ?_⟩
  · obtain ⟨cs, hbb⟩ := hR3.blk
    exact ((((hO3.keeps (Keeps.drew1 _)).grown hG5 (hbb.keeps (Keeps.drew1 _)) (by decide) (by decide)).grown (grown_set _ _ _ _) hB5 (by decide) (by decide)).grown (grown_set _ _ _ _) k1 (by decide) (by decide))
  · exact ((hG5.keeps (hK3.step (Keeps.drew1 _)) (by omega)).setCell (Nat.le_refl _) _).setCell (Nat.le_refl _) _
set_option maxRecDepth 100000 in
set_option maxHeartbeats 2000000 in
theorem drawCommonOf_any (a : Option Addr) (n c : Nat) (w : World) (hB : Bytes w w.heap.size a n) (hn : n ≤ 1099511627776) (hc : n ≤ c) (hc2 : c ≤ 9223372036854775807) :
    Calls Try.prog 13 #[.slice a n c] w (DrawnVS w) := by
  have HB := Lib.hid hB
  clear hB
  go_enter Try.func13, Try.ntmps13
  go_wp2_with fail
  refine (newReader_any a n c _ (by simp only [World.size_alloc]; exact bytes_more HB.out) hn hc hc2).mono ?_
  rintro e w1 ⟨b, rfl, hR1, hb, hK1⟩
  simp only [World.size_alloc] at hb
  have hB1 := (Blk.new w #[.int .i64 0, .slice none 0 0] 25).keeps hK1
  have hKK1 := (Keeps.alloc w (.cells #[.int .i64 0, .slice none 0 0] 25)).step hK1
  clear hK1
  go_wp2_with fail
  refine (someView_any b 0 _ hR1 (by omega)).mono ?_
  rintro e w2 ⟨W, m, q, A, d, L, rfl, hO, hW1, hW2, hm, hL, hR2, hq, hG2⟩
  have HL := Lib.hid hL
  clear hL
  have hB2 := hB1.grown hG2 (by simp; omega)
  have hKK2 := hG2.keeps hKK1 (by omega)
  have hz2 := hKK1.size
  have hO2 := hO.mono (lo' := w.heap.size) hz2
  clear hO hB1 hG2
  go_wp2_with fail
  have hV := Blk.new w2 #[.int .i64 W, .slice A m d] 25
  have hB3 := hB2.keeps (Keeps.alloc w2 (.cells #[.int .i64 W, .slice A m d] 25))
  have hO3 := hO2.keeps (Keeps.alloc w2 (.cells #[.int .i64 W, .slice A m d] 25))
  have hR3 := hR2.gro (Keeps.alloc w2 (.cells #[.int .i64 W, .slice A m d] 25))
  have hK3 := hKK2.step (Keeps.alloc w2 (.cells #[.int .i64 W, .slice A m d] 25))
  have zR := hR2.lt
  have zB := hB2.lt
  clear hR2 hB2 hKK2 hO2
  generalize hw3 : w2.alloc (.cells #[.int .i64 W, .slice A m d] 25) = w3 at *
  have HW3 := Lib.hid hw3
  clear hw3
  generalize hVV : w2.heap.size = V at *
  have HVV := Lib.hid hVV
  clear hVV
  have c0 : w3.cell? ⟨V, 0, none⟩ = some (.int .i64 W) := by rw [hV.cell]; rfl
  have c1 : w3.cell? ⟨V, 1, none⟩ = some (.slice A m d) := by rw [hV.cell]; rfl
  have b0 : w3.cell? ⟨w.heap.size, 0, none⟩ = some (.int .i64 0) := by rw [hB3.cell]; rfl
  have b1 : w3.cell? ⟨w.heap.size, 1, none⟩ = some (.slice none 0 0) := by rw [hB3.cell]; rfl
  have hVb : V ≠ b := by omega
  have hwb : w.heap.size ≠ b := by omega
  have hVw : V ≠ w.heap.size := by omega
  have hwV : w.heap.size ≠ V := by omega
  have f0 := hB3.frozen 0
  have f1 := hB3.frozen 1
  go_region_held3 (fun w' => w'.cell? ⟨V, 0, none⟩ = some (.int .i64 W) ∧ w'.cell? ⟨V, 1, none⟩ = some (.slice A m d)) (first | exact ⟨hG5.cell g0 hVb, hG5.cell g1 hVb⟩ | go_keep) (first | (go_at_call 32; obtain ⟨g0, g1⟩ : _ ∧ _ := (by assumption); refine (setOf_any b q W A m d _ (hR3.gro (Keeps.drew1 _)) (by omega) hW1 hW2).mono ?_; rintro e w5 ⟨s, q5, rfl, hR5, hq5, hG5⟩; have b50 := hG5.cell (cell_keeps (Keeps.drew1 _) b0) hwb; have b51 := hG5.cell (cell_keeps (Keeps.drew1 _) b1) hwb; have hB5 := (hB3.keeps (Keeps.drew1 _)).grown hG5 (by simp; omega); have f50 := hB5.frozen 0; have f51 := hB5.frozen 1))
  go_wp2
  have k1 := hB5.set 0 (.int .i64 W)
  refine bodyPost_ret (v := .tuple #[.agg #[.int .i64 W, .slice A m d], .int .i64 s]) (by simp [results, Try.results13, go_sem, b50, b51]) rfl ⟨W, m, A, d, L, s, rfl, ?_, hm, HL.out, ?_⟩
  · obtain ⟨cs, hbb⟩ := hR3.blk
    exact ((((hO3.keeps (Keeps.drew1 _)).grown hG5 (hbb.keeps (Keeps.drew1 _)) (by decide) (by decide)).grown (grown_set _ _ _ _) hB5 (by decide) (by decide)).grown (grown_set _ _ _ _) k1 (by decide) (by decide))
  · exact ((hG5.keeps (hK3.step (Keeps.drew1 _)) (by omega)).setCell (Nat.le_refl _) _).setCell (Nat.le_refl _) _
set_option maxRecDepth 100000 in
set_option maxHeartbeats 2000000 in
theorem drawTellAll_any (a : Option Addr) (n c : Nat) (w : World) (hB : Bytes w w.heap.size a n) (hn : n ≤ 1099511627776) (hc : n ≤ c) (hc2 : c ≤ 9223372036854775807) :
    Calls Try.prog 27 #[.slice a n c] w (DrawnVS w) := by
  have HB := Lib.hid hB
  clear hB
  go_enter Try.func27, Try.ntmps27
  go_wp2_with fail
  refine (newReader_any a n c _ (by simp only [World.size_alloc]; exact bytes_more HB.out) hn hc hc2).mono ?_
  rintro e w1 ⟨b, rfl, hR1, hb, hK1⟩
  simp only [World.size_alloc] at hb
  have hB1 := (Blk.new w #[.int .i64 0, .slice none 0 0] 25).keeps hK1
  have hKK1 := (Keeps.alloc w (.cells #[.int .i64 0, .slice none 0 0] 25)).step hK1
  clear hK1
  go_wp2_with fail
  refine (someView_any b 0 _ hR1 (by omega)).mono ?_
  rintro e w2 ⟨W, m, q, A, d, L, rfl, hO, hW1, hW2, hm, hL, hR2, hq, hG2⟩
  have HL := Lib.hid hL
  clear hL
  have hB2 := hB1.grown hG2 (by simp; omega)
  have hKK2 := hG2.keeps hKK1 (by omega)
  have hz2 := hKK1.size
  have hO2 := hO.mono (lo' := w.heap.size) hz2
  clear hO hB1 hG2
  go_wp2_with fail
  have hV := Blk.new w2 #[.int .i64 W, .slice A m d] 25
  have hB3 := hB2.keeps (Keeps.alloc w2 (.cells #[.int .i64 W, .slice A m d] 25))
  have hO3 := hO2.keeps (Keeps.alloc w2 (.cells #[.int .i64 W, .slice A m d] 25))
  have hR3 := hR2.gro (Keeps.alloc w2 (.cells #[.int .i64 W, .slice A m d] 25))
  have hK3 := hKK2.step (Keeps.alloc w2 (.cells #[.int .i64 W, .slice A m d] 25))
  have zR := hR2.lt
  have zB := hB2.lt
  clear hR2 hB2 hKK2 hO2
  generalize hw3 : w2.alloc (.cells #[.int .i64 W, .slice A m d] 25) = w3 at *
  have HW3 := Lib.hid hw3
  clear hw3
  generalize hVV : w2.heap.size = V at *
  have HVV := Lib.hid hVV
  clear hVV
  have c0 : w3.cell? ⟨V, 0, none⟩ = some (.int .i64 W) := by rw [hV.cell]; rfl
  have c1 : w3.cell? ⟨V, 1, none⟩ = some (.slice A m d) := by rw [hV.cell]; rfl
  have b0 : w3.cell? ⟨w.heap.size, 0, none⟩ = some (.int .i64 0) := by rw [hB3.cell]; rfl
  have b1 : w3.cell? ⟨w.heap.size, 1, none⟩ = some (.slice none 0 0) := by rw [hB3.cell]; rfl
  have hVb : V ≠ b := by omega
  have hwb : w.heap.size ≠ b := by omega
  have hVw : V ≠ w.heap.size := by omega
  have hwV : w.heap.size ≠ V := by omega
  have f0 := hB3.frozen 0
  have f1 := hB3.frozen 1
  go_region_held3 (fun w' => w'.cell? ⟨V, 0, none⟩ = some (.int .i64 W) ∧ w'.cell? ⟨V, 1, none⟩ = some (.slice A m d)) (first | exact ⟨hG5.cell g0 hVb, hG5.cell g1 hVb⟩ | go_keep) (first | (go_at_call 32; obtain ⟨g0, g1⟩ : _ ∧ _ := (by assumption); refine (setOf_any b q W A m d _ (hR3.gro (Keeps.drew1 _)) (by omega) hW1 hW2).mono ?_; rintro e w5 ⟨s, q5, rfl, hR5, hq5, hG5⟩; have b50 := hG5.cell (cell_keeps (Keeps.drew1 _) b0) hwb; have b51 := hG5.cell (cell_keeps (Keeps.drew1 _) b1) hwb; have hB5 := (hB3.keeps (Keeps.drew1 _)).grown hG5 (by simp; omega); have f50 := hB5.frozen 0; have f51 := hB5.frozen 1))
  go_wp2
  have k1 := hB5.set 0 (.int .i64 W)
  refine bodyPost_ret (v := .tuple #[.agg #[.int .i64 W, .slice A m d], .int .i64 s]) (by simp [results, Try.results27, go_sem, b50, b51]) rfl ⟨W, m, A, d, L, s, rfl, ?_, hm, HL.out, ?_⟩
  · obtain ⟨cs, hbb⟩ := hR3.blk
    exact ((((hO3.keeps (Keeps.drew1 _)).grown hG5 (hbb.keeps (Keeps.drew1 _)) (by decide) (by decide)).grown (grown_set _ _ _ _) hB5 (by decide) (by decide)).grown (grown_set _ _ _ _) k1 (by decide) (by decide))
  · exact ((hG5.keeps (hK3.step (Keeps.drew1 _)) (by omega)).setCell (Nat.le_refl _) _).setCell (Nat.le_refl _) _
end Go.Proofs.Ytalafojkmomolaa
