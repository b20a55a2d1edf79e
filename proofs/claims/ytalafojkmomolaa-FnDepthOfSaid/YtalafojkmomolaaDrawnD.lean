/-
  The contract of DrawDepthOf: whatever the code is, a view in new memory and two numbers. Condition: a code of at most 2^40 bytes.
-/
import Derived.Test.YtalafojkmomolaaDrawn
namespace Go.Proofs.Ytalafojkmomolaa
open Go.RowKit

def DrawnVVS (w : World) (e : Ending) (w' : World) : Prop :=
  ∃ (W : Int) (m : Nat) (A : Option Addr) (d : Nat) (L : List (List Int)) (v s : Int), e = .returned (.tuple #[.agg #[.int .i64 W, .slice A m d], .int .i64 v, .int .i64 s]) ∧ OwnRows w' w.heap.size A m d L ∧ m ≤ 4 ∧ (∀ i, i < m → (L.getD i []).length ≤ 16) ∧ Keeps w w'
set_option maxRecDepth 100000 in
set_option maxHeartbeats 4000000 in
theorem drawDepthOf_any (a : Option Addr) (n c : Nat) (w : World) (hB : Bytes w w.heap.size a n) (hn : n ≤ 1099511627776) (hc : n ≤ c) (hc2 : c ≤ 9223372036854775807) :
    Calls Try.prog 23 #[.slice a n c] w (DrawnVVS w) := by
  have HB := Lib.hid hB
  clear hB
  go_enter Try.func23, Try.ntmps23
  go_wp2_with fail
  refine (newReader_any a n c _ (by simp only [World.size_alloc]; exact bytes_more HB.out) hn hc hc2).mono ?_
  rintro e w1 ⟨b, rfl, hR1, hb, hK1⟩
  simp only [World.size_alloc] at hb
  have hB1 := (Blk.new w #[.int .i64 0, .slice none 0 0] 25).keeps hK1
  have hKK1 := (Keeps.alloc w (.cells #[.int .i64 0, .slice none 0 0] 25)).step hK1
  clear hK1
  go_wp2_with fail
  refine (someView_any b 0 _ hR1 (by omega)).mono ?_
  rintro e w2 ⟨W, m, q, A, d, L, rfl, hO, hW1, hW2, hm, hL, hR2, hq, hG2⟩
  have HL := Lib.hid hL
  clear hL
  have hB2 := hB1.grown hG2 (by simp; omega)
  have hKK2 := hG2.keeps hKK1 (by omega)
  have hz2 := hKK1.size
  have hO2 := hO.mono (lo' := w.heap.size) hz2
  clear hO hB1 hG2
  go_wp2_with fail
  have hV := Blk.new w2 #[.int .i64 W, .slice A m d] 25
  have hB3 := hB2.keeps (Keeps.alloc w2 (.cells #[.int .i64 W, .slice A m d] 25))
  have hO3 := hO2.keeps (Keeps.alloc w2 (.cells #[.int .i64 W, .slice A m d] 25))
  have hR3 := hR2.gro (Keeps.alloc w2 (.cells #[.int .i64 W, .slice A m d] 25))
  have hK3 := hKK2.step (Keeps.alloc w2 (.cells #[.int .i64 W, .slice A m d] 25))
  have zR := hR2.lt
  have zB := hB2.lt
  clear hR2 hB2 hKK2 hO2
  generalize hw3 : w2.alloc (.cells #[.int .i64 W, .slice A m d] 25) = w3 at *
  clear hw3
  generalize w2.heap.size = V at *
  have c0 : w3.cell? ⟨V, 0, none⟩ = some (.int .i64 W) := by rw [hV.cell]; rfl
  have c1 : w3.cell? ⟨V, 1, none⟩ = some (.slice A m d) := by rw [hV.cell]; rfl
  have hVb : V ≠ b := by omega
  have hbwz : b ≠ w.heap.size := by omega
  have hVw : V ≠ w.heap.size := by omega
  have hwV : w.heap.size ≠ V := by omega
  have gg := Gro.ofKeeps (b := b) (Keeps.drew1 w3)
  by_cases hW0 : W < 1
  · have tok1 : True := trivial
    go_upto_region 3 with fail
    go_region_held3 (fun w' => w'.cell? ⟨V, 0, none⟩ = some (.int .i64 W) ∧ w'.cell? ⟨V, 1, none⟩ = some (.slice A m d) ) (first | exact ⟨hG5.cell g0 hVb, hG5.cell g1 hVb⟩ | exact ⟨c0, c1⟩ | (obtain ⟨g0, g1⟩ : _ ∧ _ := (by assumption); exact ⟨cell_keeps (Keeps.alloc _ _) g0, cell_keeps (Keeps.alloc _ _) g1⟩) | go_keep) (first | (go_at_call 49; obtain ⟨g0, g1⟩ : _ ∧ _ := (by assumption); have _t := tok1; go_must (refine (pick_any b q _ _ (hR3.gro (Keeps.drew1 _)) (by omega)).mono ?_); rintro e w5 ⟨y1, rfl, hy1, hR5, hG5⟩; have gg := gg.step hG5; clear tok1) | (go_at_call 49; obtain ⟨g0, g1⟩ : _ ∧ _ := (by assumption); go_must (refine (pick_any b (q + 1) _ _ hR5 (by omega)).mono ?_); rintro e w5 ⟨y2, rfl, hy2, hR5, hG5⟩; have gg := gg.step hG5) | (go_at_call 48; obtain ⟨g0, g1⟩ : _ ∧ _ := (by assumption); go_must (refine (one_lit b (q + 2) [(y1 : Int), (y2 : Int), 0, W, -1] (-100) 100 _ _ _ _ (fun z hz => by simp at hz; omega) (by simp) (by simp) (by omega) hR5 rfl rfl rfl).mono ?_); rintro e w5 ⟨v, rfl, hv1, hv2, hR5, hG5⟩; have gg := (gg.step (Gro.ofKeeps (Keeps.alloc _ _))).step hG5) | (go_at_call 32; obtain ⟨g0, g1⟩ : _ ∧ _ := (by assumption); go_must (refine (setOf_any b (q + 3) W A m d _ hR5 (by omega) hW1 hW2).mono ?_); rintro e w5 ⟨s, q5, rfl, hR5, hq5, hG5⟩; have gg := gg.step hG5; have hB5 := hB3.grown gg (by simp; omega); have b50 : w5.cell? ⟨w.heap.size, 0, none⟩ = some (.int .i64 0) := (by rw [hB5.cell]; rfl); have b51 : w5.cell? ⟨w.heap.size, 1, none⟩ = some (.slice none 0 0) := (by rw [hB5.cell]; rfl); have f50 := hB5.frozen 0; have f51 := hB5.frozen 1))
    all_goals
      go_wp2
      have k1 := hB5.set 0 (.int .i64 W)
      refine bodyPost_ret (v := .tuple #[.agg #[.int .i64 W, .slice A m d], .int .i64 v, .int .i64 s]) (by simp [results, Try.results23, go_sem, b50, b51]) rfl ⟨W, m, A, d, L, v, s, rfl, ?_, hm, HL.out, ?_⟩
      · obtain ⟨cs, hbb⟩ := hR3.blk
        exact (((hO3.grown gg hbb (by decide) (by decide)).grown (grown_set _ _ _ _) hB5 (by decide) (by decide)).grown (grown_set _ _ _ _) k1 (by decide) (by decide))
      · exact ((gg.keeps hK3 (by omega)).setCell (Nat.le_refl _) _).setCell (Nat.le_refl _) _
  · have hW1' : (1 : Int) ≤ W := by omega
    have tok1 : True := trivial
    go_upto_region 3 with fail
    go_region_held3 (fun w' => w'.cell? ⟨V, 0, none⟩ = some (.int .i64 W) ∧ w'.cell? ⟨V, 1, none⟩ = some (.slice A m d) ) (first | exact ⟨hG5.cell g0 hVb, hG5.cell g1 hVb⟩ | exact ⟨c0, c1⟩ | (obtain ⟨g0, g1⟩ : _ ∧ _ := (by assumption); exact ⟨cell_keeps (Keeps.alloc _ _) g0, cell_keeps (Keeps.alloc _ _) g1⟩) | go_keep) (first | (go_at_call 49; obtain ⟨g0, g1⟩ : _ ∧ _ := (by assumption); have _t := tok1; go_must (refine (pick_any b q _ _ (hR3.gro (Keeps.drew1 _)) (by omega)).mono ?_); rintro e w5 ⟨y1, rfl, hy1, hR5, hG5⟩; have gg := gg.step hG5; clear tok1) | (go_at_call 49; obtain ⟨g0, g1⟩ : _ ∧ _ := (by assumption); go_must (refine (pick_any b (q + 1) _ _ hR5 (by omega)).mono ?_); rintro e w5 ⟨y2, rfl, hy2, hR5, hG5⟩; have gg := gg.step hG5) | (go_at_call 48; obtain ⟨g0, g1⟩ : _ ∧ _ := (by assumption); go_must (refine (one_lit b (q + 2) [(y1 : Int), (y2 : Int), 0, W, -1] (-100) 100 _ _ _ _ (fun z hz => by simp at hz; omega) (by simp) (by simp) (by omega) hR5 rfl rfl rfl).mono ?_); rintro e w5 ⟨v, rfl, hv1, hv2, hR5, hG5⟩; have gg := (gg.step (Gro.ofKeeps (Keeps.alloc _ _))).step hG5) | (go_at_call 32; obtain ⟨g0, g1⟩ : _ ∧ _ := (by assumption); go_must (refine (setOf_any b (q + 3) W A m d _ hR5 (by omega) hW1 hW2).mono ?_); rintro e w5 ⟨s, q5, rfl, hR5, hq5, hG5⟩; have gg := gg.step hG5; have hB5 := hB3.grown gg (by simp; omega); have b50 : w5.cell? ⟨w.heap.size, 0, none⟩ = some (.int .i64 0) := (by rw [hB5.cell]; rfl); have b51 : w5.cell? ⟨w.heap.size, 1, none⟩ = some (.slice none 0 0) := (by rw [hB5.cell]; rfl); have f50 := hB5.frozen 0; have f51 := hB5.frozen 1))
    all_goals
      go_wp2
      have k1 := hB5.set 0 (.int .i64 W)
      refine bodyPost_ret (v := .tuple #[.agg #[.int .i64 W, .slice A m d], .int .i64 v, .int .i64 s]) (by simp [results, Try.results23, go_sem, b50, b51]) rfl ⟨W, m, A, d, L, v, s, rfl, ?_, hm, HL.out, ?_⟩
      · obtain ⟨cs, hbb⟩ := hR3.blk
        exact (((hO3.grown gg hbb (by decide) (by decide)).grown (grown_set _ _ _ _) hB5 (by decide) (by decide)).grown (grown_set _ _ _ _) k1 (by decide) (by decide))
      · exact ((gg.keeps hK3 (by omega)).setCell (Nat.le_refl _) _).setCell (Nat.le_refl _) _
end Go.Proofs.Ytalafojkmomolaa
