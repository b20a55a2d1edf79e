/-
  The contracts of the draws of a net, and of a net and a number: whatever the code is, a net in new memory. Condition: a code of at most 2^40 bytes.
-/
import Derived.Test.YtdjilgbcpdlkfaaSomeNet
namespace Go.Proofs.Ytdjilgbcpdlkfaa
open Go.RowKit

def DrawnNet (w : World) (e : Ending) (w' : World) : Prop :=
  ∃ (m mm : Nat) (A B : Option Addr) (c d : Nat) (r : Nat → Option Addr × Nat × Nat) (L : Nat → Nat) (X : Nat → Nat → Int) (M : Nat → Int), e = .returned (.agg #[.slice A m c, .slice B mm d]) ∧ NetAt w' A m r B mm L X M ∧ (∀ i, i < m → L i ≤ 8) ∧ 1 ≤ m ∧ m ≤ 6 ∧ mm ≤ 7 ∧ Keeps w w'
def DrawnNetI (w : World) (e : Ending) (w' : World) : Prop :=
  ∃ (m mm : Nat) (A B : Option Addr) (c d : Nat) (r : Nat → Option Addr × Nat × Nat) (L : Nat → Nat) (X : Nat → Nat → Int) (M : Nat → Int) (s : Int), e = .returned (.tuple #[.agg #[.slice A m c, .slice B mm d], .int .i64 s]) ∧ NetAt w' A m r B mm L X M ∧ (∀ i, i < m → L i ≤ 8) ∧ 1 ≤ m ∧ m ≤ 6 ∧ mm ≤ 7 ∧ -1 ≤ s ∧ s ≤ 7 ∧ Keeps w w'
theorem bytes_more' {w : World} {o : Obj} {a : Option Addr} {n : Nat} (h : Bytes w w.heap.size a n) : Bytes (w.alloc o) (w.heap.size + 1) a n := fun i hi => by
  obtain ⟨d, off, e, hd, y, hy, hc⟩ := h.keeps (Keeps.alloc w o) i hi
  exact ⟨d, off, e, by omega, y, hy, hc⟩
section
variable {w w' : World} {A B : Option Addr} {m mm lo : Nat} {r : Nat → Option Addr × Nat × Nat} {L : Nat → Nat} {X : Nat → Nat → Int} {M : Nat → Int}
theorem NetNew.toS (h : NetNew w lo A m r B mm L X M) : NetS w (fun d => lo ≤ d) A m r B mm L X M := ⟨h.net, h.a, h.b, h.r⟩
/-- A net above all that was there stays, whatever a step does to what was there. -/
theorem NetNew.below (h : NetNew w lo A m r B mm L X M) {row : Option Nat} (g : w.grownBy w' row) (hr : ∀ x, row = some x → x < lo) : NetNew w' lo A m r B mm L X M :=
  (h.toS.grown g (fun x hx hlo => by have := hr x hx; omega)).new
theorem NetNew.keeps (h : NetNew w lo A m r B mm L X M) (k : Keeps w w') : NetNew w' lo A m r B mm L X M :=
  h.below (row := none) ⟨k.os, k.tape, k.output, k.size, fun i hi _ => k.block i hi⟩ (fun x hx => by cases hx)
theorem NetNew.gro {b : Nat} (h : NetNew w lo A m r B mm L X M) (g : Gro b w w') (hb : b < lo) : NetNew w' lo A m r B mm L X M :=
  h.below g (fun x hx => by cases hx; exact hb)
end
set_option maxRecDepth 100000 in
set_option maxHeartbeats 4000000 in
theorem drawValidNet_any (a : Option Addr) (n c : Nat) (w : World) (hB : Bytes w w.heap.size a n) (hn : n ≤ 1099511627776) (hc : n ≤ c) (hc2 : c ≤ 9223372036854775807) :
    Calls Try.prog 22 #[.slice a n c] w (DrawnNet w) := by
  have HB := Lib.hid hB
  clear hB
  go_enter Try.func22, Try.ntmps22
  go_wp2_with fail
  refine (newReader_any a n c _ (by simp only [World.size_alloc]; exact bytes_more' HB.out) hn hc hc2).mono ?_
  rintro e w1 ⟨b, rfl, hR1, hb, hK1⟩
  simp only [World.size_alloc] at hb
  have hB1 := (Blk.new w #[.slice none 0 0, .slice none 0 0] 27).keeps hK1
  have hKK1 := (Keeps.alloc w (.cells #[.slice none 0 0, .slice none 0 0] 27)).step hK1
  clear hK1
  go_wp2_with fail
  refine (someNet_any b 0 _ hR1 (by omega)).mono ?_
  rintro e w2 ⟨m, mm, q, A, B, cA, cB, r, L, X, M, rfl, hN, hL, hm1, hm6, hmm, hR2, hq, hG2⟩
  have HL := Lib.hid hL
  clear hL
  have hB2 := hB1.grown hG2 (by simp; omega)
  have hKK2 := hG2.keeps hKK1 (by omega)
  have hz1 := hKK1.size
  have hz2 := hR1.lt

  clear hB1 hG2
  have b0 : w2.cell? ⟨w.heap.size, 0, none⟩ = some (.slice none 0 0) := by rw [hB2.cell]; rfl
  have b1 : w2.cell? ⟨w.heap.size, 1, none⟩ = some (.slice none 0 0) := by rw [hB2.cell]; rfl
  have f0 := hB2.frozen 0
  have f1 := hB2.frozen 1
  have hlo : w.heap.size < w1.heap.size := by omega
  have HN := Lib.hid ((hN.below (grown_set w2 w.heap.size 0 (.slice A m cA)) (fun x hx => by cases hx; exact hlo)).below (grown_set _ w.heap.size 1 (.slice B mm cB)) (fun x hx => by cases hx; exact hlo))
  clear hN
  go_wp2
  refine bodyPost_ret (v := .agg #[.slice A m cA, .slice B mm cB]) (by simp [results, Try.results22, go_sem, b0, b1]) rfl ⟨m, mm, A, B, cA, cB, r, L, X, M, rfl, HN.out.net, HL.out, hm1, hm6, hmm, (hKK2.setCell (Nat.le_refl _) _).setCell (Nat.le_refl _) _⟩
set_option maxRecDepth 100000 in
set_option maxHeartbeats 4000000 in
theorem drawWidthOf_any (a : Option Addr) (n c : Nat) (w : World) (hB : Bytes w w.heap.size a n) (hn : n ≤ 1099511627776) (hc : n ≤ c) (hc2 : c ≤ 9223372036854775807) :
    Calls Try.prog 25 #[.slice a n c] w (DrawnNet w) := by
  have HB := Lib.hid hB
  clear hB
  go_enter Try.func25, Try.ntmps25
  go_wp2_with fail
  refine (newReader_any a n c _ (by simp only [World.size_alloc]; exact bytes_more' HB.out) hn hc hc2).mono ?_
  rintro e w1 ⟨b, rfl, hR1, hb, hK1⟩
  simp only [World.size_alloc] at hb
  have hB1 := (Blk.new w #[.slice none 0 0, .slice none 0 0] 27).keeps hK1
  have hKK1 := (Keeps.alloc w (.cells #[.slice none 0 0, .slice none 0 0] 27)).step hK1
  clear hK1
  go_wp2_with fail
  refine (someNet_any b 0 _ hR1 (by omega)).mono ?_
  rintro e w2 ⟨m, mm, q, A, B, cA, cB, r, L, X, M, rfl, hN, hL, hm1, hm6, hmm, hR2, hq, hG2⟩
  have HL := Lib.hid hL
  clear hL
  have hB2 := hB1.grown hG2 (by simp; omega)
  have hKK2 := hG2.keeps hKK1 (by omega)
  have hz1 := hKK1.size
  have hz2 := hR1.lt

  clear hB1 hG2
  have b0 : w2.cell? ⟨w.heap.size, 0, none⟩ = some (.slice none 0 0) := by rw [hB2.cell]; rfl
  have b1 : w2.cell? ⟨w.heap.size, 1, none⟩ = some (.slice none 0 0) := by rw [hB2.cell]; rfl
  have f0 := hB2.frozen 0
  have f1 := hB2.frozen 1
  have hlo : w.heap.size < w1.heap.size := by omega
  have HN := Lib.hid ((hN.below (grown_set w2 w.heap.size 0 (.slice A m cA)) (fun x hx => by cases hx; exact hlo)).below (grown_set _ w.heap.size 1 (.slice B mm cB)) (fun x hx => by cases hx; exact hlo))
  clear hN
  go_wp2
  refine bodyPost_ret (v := .agg #[.slice A m cA, .slice B mm cB]) (by simp [results, Try.results25, go_sem, b0, b1]) rfl ⟨m, mm, A, B, cA, cB, r, L, X, M, rfl, HN.out.net, HL.out, hm1, hm6, hmm, (hKK2.setCell (Nat.le_refl _) _).setCell (Nat.le_refl _) _⟩
set_option maxRecDepth 100000 in
set_option maxHeartbeats 4000000 in
theorem drawSettledAt_any (a : Option Addr) (n c : Nat) (w : World) (hB : Bytes w w.heap.size a n) (hn : n ≤ 1099511627776) (hc : n ≤ c) (hc2 : c ≤ 9223372036854775807) :
    Calls Try.prog 40 #[.slice a n c] w (DrawnNet w) := by
  have HB := Lib.hid hB
  clear hB
  go_enter Try.func40, Try.ntmps40
  go_wp2_with fail
  refine (newReader_any a n c _ (by simp only [World.size_alloc]; exact bytes_more' HB.out) hn hc hc2).mono ?_
  rintro e w1 ⟨b, rfl, hR1, hb, hK1⟩
  simp only [World.size_alloc] at hb
  have hB1 := (Blk.new w #[.slice none 0 0, .slice none 0 0] 27).keeps hK1
  have hKK1 := (Keeps.alloc w (.cells #[.slice none 0 0, .slice none 0 0] 27)).step hK1
  clear hK1
  go_wp2_with fail
  refine (someNet_any b 0 _ hR1 (by omega)).mono ?_
  rintro e w2 ⟨m, mm, q, A, B, cA, cB, r, L, X, M, rfl, hN, hL, hm1, hm6, hmm, hR2, hq, hG2⟩
  have HL := Lib.hid hL
  clear hL
  have hB2 := hB1.grown hG2 (by simp; omega)
  have hKK2 := hG2.keeps hKK1 (by omega)
  have hz1 := hKK1.size
  have hz2 := hR1.lt

  clear hB1 hG2
  have b0 : w2.cell? ⟨w.heap.size, 0, none⟩ = some (.slice none 0 0) := by rw [hB2.cell]; rfl
  have b1 : w2.cell? ⟨w.heap.size, 1, none⟩ = some (.slice none 0 0) := by rw [hB2.cell]; rfl
  have f0 := hB2.frozen 0
  have f1 := hB2.frozen 1
  have hlo : w.heap.size < w1.heap.size := by omega
  have HN := Lib.hid ((hN.below (grown_set w2 w.heap.size 0 (.slice A m cA)) (fun x hx => by cases hx; exact hlo)).below (grown_set _ w.heap.size 1 (.slice B mm cB)) (fun x hx => by cases hx; exact hlo))
  clear hN
  go_wp2
  refine bodyPost_ret (v := .agg #[.slice A m cA, .slice B mm cB]) (by simp [results, Try.results40, go_sem, b0, b1]) rfl ⟨m, mm, A, B, cA, cB, r, L, X, M, rfl, HN.out.net, HL.out, hm1, hm6, hmm, (hKK2.setCell (Nat.le_refl _) _).setCell (Nat.le_refl _) _⟩
set_option maxRecDepth 100000 in
set_option maxHeartbeats 4000000 in
theorem drawIsElectable_any (a : Option Addr) (n c : Nat) (w : World) (hB : Bytes w w.heap.size a n) (hn : n ≤ 1099511627776) (hc : n ≤ c) (hc2 : c ≤ 9223372036854775807) :
    Calls Try.prog 37 #[.slice a n c] w (DrawnNet w) := by
  have HB := Lib.hid hB
  clear hB
  go_enter Try.func37, Try.ntmps37
  go_wp2_with fail
  refine (newReader_any a n c _ (by simp only [World.size_alloc]; exact bytes_more' HB.out) hn hc hc2).mono ?_
  rintro e w1 ⟨b, rfl, hR1, hb, hK1⟩
  simp only [World.size_alloc] at hb
  have hB1 := (Blk.new w #[.slice none 0 0, .slice none 0 0] 27).keeps hK1
  have hKK1 := (Keeps.alloc w (.cells #[.slice none 0 0, .slice none 0 0] 27)).step hK1
  clear hK1
  go_wp2_with fail
  refine (someNet_any b 0 _ hR1 (by omega)).mono ?_
  rintro e w2 ⟨m, mm, q, A, B, cA, cB, r, L, X, M, rfl, hN, hL, hm1, hm6, hmm, hR2, hq, hG2⟩
  have HL := Lib.hid hL
  clear hL
  have hB2 := hB1.grown hG2 (by simp; omega)
  have hKK2 := hG2.keeps hKK1 (by omega)
  have hz1 := hKK1.size
  have hz2 := hR1.lt

  clear hB1 hG2
  have b0 : w2.cell? ⟨w.heap.size, 0, none⟩ = some (.slice none 0 0) := by rw [hB2.cell]; rfl
  have b1 : w2.cell? ⟨w.heap.size, 1, none⟩ = some (.slice none 0 0) := by rw [hB2.cell]; rfl
  have f0 := hB2.frozen 0
  have f1 := hB2.frozen 1
  have hlo : w.heap.size < w1.heap.size := by omega
  have HN := Lib.hid ((hN.below (grown_set w2 w.heap.size 0 (.slice A m cA)) (fun x hx => by cases hx; exact hlo)).below (grown_set _ w.heap.size 1 (.slice B mm cB)) (fun x hx => by cases hx; exact hlo))
  clear hN
  go_wp2
  refine bodyPost_ret (v := .agg #[.slice A m cA, .slice B mm cB]) (by simp [results, Try.results37, go_sem, b0, b1]) rfl ⟨m, mm, A, B, cA, cB, r, L, X, M, rfl, HN.out.net, HL.out, hm1, hm6, hmm, (hKK2.setCell (Nat.le_refl _) _).setCell (Nat.le_refl _) _⟩
set_option maxRecDepth 100000 in
set_option maxHeartbeats 4000000 in
theorem drawClassesAt_any (a : Option Addr) (n c : Nat) (w : World) (hB : Bytes w w.heap.size a n) (hn : n ≤ 1099511627776) (hc : n ≤ c) (hc2 : c ≤ 9223372036854775807) :
    Calls Try.prog 30 #[.slice a n c] w (DrawnNetI w) := by
  have HB := Lib.hid hB
  clear hB
  go_enter Try.func30, Try.ntmps30
  go_wp2_with fail
  refine (newReader_any a n c _ (by simp only [World.size_alloc]; exact bytes_more' HB.out) hn hc hc2).mono ?_
  rintro e w1 ⟨b, rfl, hR1, hb, hK1⟩
  simp only [World.size_alloc] at hb
  have hB1 := (Blk.new w #[.slice none 0 0, .slice none 0 0] 27).keeps hK1
  have hKK1 := (Keeps.alloc w (.cells #[.slice none 0 0, .slice none 0 0] 27)).step hK1
  clear hK1
  go_wp2_with fail
  refine (someNet_any b 0 _ hR1 (by omega)).mono ?_
  rintro e w2 ⟨m, mm, q, A, B, cA, cB, r, L, X, M, rfl, hN, hL, hm1, hm6, hmm, hR2, hq, hG2⟩
  have HL := Lib.hid hL
  clear hL
  have hB2 := hB1.grown hG2 (by simp; omega)
  have hKK2 := hG2.keeps hKK1 (by omega)
  have hz1 := hKK1.size
  have hz2 := hR1.lt

  clear hB1 hG2
  go_wp2_with fail
  refine (one_lit b q [1, 2, 0, 3, 6, 7, -1] (-1) 7 _ _ _ _ (by decide) (by decide) (by decide) (by omega) hR2 rfl (by simp) rfl).mono ?_
  rintro e w3 ⟨s, rfl, hs1, hs2, hR3, hG3⟩
  have kk := Keeps.alloc w2 (.cells #[.int .i64 1, .int .i64 2, .int .i64 0, .int .i64 3, .int .i64 6, .int .i64 7, .int .i64 (-1)] 3)
  have hB3 := (hB2.keeps kk).grown hG3 (by simp; omega)
  have hK3 := hG3.keeps (hKK2.step kk) (by omega)
  have b0 : w3.cell? ⟨w.heap.size, 0, none⟩ = some (.slice none 0 0) := by rw [hB3.cell]; rfl
  have b1 : w3.cell? ⟨w.heap.size, 1, none⟩ = some (.slice none 0 0) := by rw [hB3.cell]; rfl
  have f0 := hB3.frozen 0
  have f1 := hB3.frozen 1
  have hlo : w.heap.size < w1.heap.size := by omega
  have HN := Lib.hid ((((hN.keeps kk).gro hG3 (by omega)).below (grown_set w3 w.heap.size 0 (.slice A m cA)) (fun x hx => by cases hx; exact hlo)).below (grown_set _ w.heap.size 1 (.slice B mm cB)) (fun x hx => by cases hx; exact hlo))
  clear hN
  go_wp2
  refine bodyPost_ret (v := .tuple #[.agg #[.slice A m cA, .slice B mm cB], .int .i64 s]) (by simp [results, Try.results30, go_sem, b0, b1]) rfl ⟨m, mm, A, B, cA, cB, r, L, X, M, s, rfl, HN.out.net, HL.out, hm1, hm6, hmm, hs1, hs2, (hK3.setCell (Nat.le_refl _) _).setCell (Nat.le_refl _) _⟩
set_option maxRecDepth 100000 in
set_option maxHeartbeats 4000000 in
theorem drawFarsOf_any (a : Option Addr) (n c : Nat) (w : World) (hB : Bytes w w.heap.size a n) (hn : n ≤ 1099511627776) (hc : n ≤ c) (hc2 : c ≤ 9223372036854775807) :
    Calls Try.prog 19 #[.slice a n c] w (DrawnNetI w) := by
  have HB := Lib.hid hB
  clear hB
  go_enter Try.func19, Try.ntmps19
  go_wp2_with fail
  refine (newReader_any a n c _ (by simp only [World.size_alloc]; exact bytes_more' HB.out) hn hc hc2).mono ?_
  rintro e w1 ⟨b, rfl, hR1, hb, hK1⟩
  simp only [World.size_alloc] at hb
  have hB1 := (Blk.new w #[.slice none 0 0, .slice none 0 0] 27).keeps hK1
  have hKK1 := (Keeps.alloc w (.cells #[.slice none 0 0, .slice none 0 0] 27)).step hK1
  clear hK1
  go_wp2_with fail
  refine (someNet_any b 0 _ hR1 (by omega)).mono ?_
  rintro e w2 ⟨m, mm, q, A, B, cA, cB, r, L, X, M, rfl, hN, hL, hm1, hm6, hmm, hR2, hq, hG2⟩
  have HL := Lib.hid hL
  clear hL
  have hB2 := hB1.grown hG2 (by simp; omega)
  have hKK2 := hG2.keeps hKK1 (by omega)
  have hz1 := hKK1.size
  have hz2 := hR1.lt

  clear hB1 hG2
  go_wp2_with fail
  have hV := Blk.new w2 #[.slice A m cA, .slice B mm cB] 27
  have kV := Keeps.alloc w2 (.cells #[.slice A m cA, .slice B mm cB] 27)
  have hB3 := hB2.keeps kV
  have HN3 := Lib.hid (hN.keeps kV)
  have hR3 := hR2.gro kV
  have hK3 := hKK2.step kV
  have zR := hR2.lt
  have zB := hB2.lt
  clear hR2 hB2 hKK2 hN kV
  generalize hw3 : w2.alloc (.cells #[.slice A m cA, .slice B mm cB] 27) = w3 at *
  clear hw3
  generalize w2.heap.size = V at *
  have c0 : w3.cell? ⟨V, 0, none⟩ = some (.slice A m cA) := by rw [hV.cell]; rfl
  have c1 : w3.cell? ⟨V, 1, none⟩ = some (.slice B mm cB) := by rw [hV.cell]; rfl
  have hVb : V ≠ b := by omega
  have hbwz : b ≠ w.heap.size := by omega
  have hVw : V ≠ w.heap.size := by omega
  have hwV : w.heap.size ≠ V := by omega
  have hlo : w.heap.size < w1.heap.size := by omega
  have hblo : b < w1.heap.size := by omega
  have gg := Gro.ofKeeps (b := b) (Keeps.drew1 w3)
  have tok1 : True := trivial
  go_upto_region 3 with fail
  go_region_held3 (fun w' => w'.cell? ⟨V, 0, none⟩ = some (.slice A m cA) ∧ w'.cell? ⟨V, 1, none⟩ = some (.slice B mm cB) ) (first | exact ⟨hG5.cell g0 hVb, hG5.cell g1 hVb⟩ | exact ⟨c0, c1⟩ | (obtain ⟨g0, g1⟩ : _ ∧ _ := (by assumption); exact ⟨cell_keeps (Keeps.alloc _ _) g0, cell_keeps (Keeps.alloc _ _) g1⟩) | go_keep) (first | (go_at_call 44; obtain ⟨g0, g1⟩ : _ ∧ _ := (by assumption); have _t := tok1; go_must (refine (pick_any b q _ _ (hR3.gro (Keeps.drew1 _)) (by omega)).mono ?_); rintro e w5 ⟨y1, rfl, hy1, hR5, hG5⟩; have gg := gg.step hG5; clear tok1) | (go_at_call 44; obtain ⟨g0, g1⟩ : _ ∧ _ := (by assumption); go_must (refine (pick_any b (q + 1) _ _ hR5 (by omega)).mono ?_); rintro e w5 ⟨y2, rfl, hy2, hR5, hG5⟩; have gg := gg.step hG5) | (go_at_call 45; obtain ⟨g0, g1⟩ : _ ∧ _ := (by assumption); go_must (refine (one_lit b (q + 2) [0, (y1 : Int), (y2 : Int), (m : Int), -1] (-1) 7 _ _ _ _ (fun z hz => by simp at hz; omega) (by simp) (by simp) (by omega) hR5 rfl rfl rfl).mono ?_); rintro e w5 ⟨s, rfl, hs1, hs2, hR5, hG5⟩; have gg := (gg.step (Gro.ofKeeps (Keeps.alloc _ _))).step hG5; have hB5 := hB3.grown gg (by simp; omega); have b50 : w5.cell? ⟨w.heap.size, 0, none⟩ = some (.slice none 0 0) := (by rw [hB5.cell]; rfl); have b51 : w5.cell? ⟨w.heap.size, 1, none⟩ = some (.slice none 0 0) := (by rw [hB5.cell]; rfl); have f50 := hB5.frozen 0; have f51 := hB5.frozen 1))
  all_goals
    go_wp2
    refine bodyPost_ret (v := .tuple #[.agg #[.slice A m cA, .slice B mm cB], .int .i64 s]) (by simp [results, Try.results19, go_sem, b50, b51]) rfl ⟨m, mm, A, B, cA, cB, r, L, X, M, s, rfl, ?_, HL.out, hm1, hm6, hmm, hs1, hs2, ?_⟩
    · exact (((HN3.out.gro gg hblo).below (grown_set _ w.heap.size 0 (.slice A m cA)) (fun x hx => by cases hx; exact hlo)).below (grown_set _ w.heap.size 1 (.slice B mm cB)) (fun x hx => by cases hx; exact hlo)).net
    · exact ((gg.keeps hK3 (by omega)).setCell (Nat.le_refl _) _).setCell (Nat.le_refl _) _
set_option maxRecDepth 100000 in
set_option maxHeartbeats 4000000 in
theorem drawFloodOf_any (a : Option Addr) (n c : Nat) (w : World) (hB : Bytes w w.heap.size a n) (hn : n ≤ 1099511627776) (hc : n ≤ c) (hc2 : c ≤ 9223372036854775807) :
    Calls Try.prog 27 #[.slice a n c] w (DrawnNetI w) := by
  have HB := Lib.hid hB
  clear hB
  go_enter Try.func27, Try.ntmps27
  go_wp2_with fail
  refine (newReader_any a n c _ (by simp only [World.size_alloc]; exact bytes_more' HB.out) hn hc hc2).mono ?_
  rintro e w1 ⟨b, rfl, hR1, hb, hK1⟩
  simp only [World.size_alloc] at hb
  have hB1 := (Blk.new w #[.slice none 0 0, .slice none 0 0] 27).keeps hK1
  have hKK1 := (Keeps.alloc w (.cells #[.slice none 0 0, .slice none 0 0] 27)).step hK1
  clear hK1
  go_wp2_with fail
  refine (someNet_any b 0 _ hR1 (by omega)).mono ?_
  rintro e w2 ⟨m, mm, q, A, B, cA, cB, r, L, X, M, rfl, hN, hL, hm1, hm6, hmm, hR2, hq, hG2⟩
  have HL := Lib.hid hL
  clear hL
  have hB2 := hB1.grown hG2 (by simp; omega)
  have hKK2 := hG2.keeps hKK1 (by omega)
  have hz1 := hKK1.size
  have hz2 := hR1.lt

  clear hB1 hG2
  go_wp2_with fail
  have hV := Blk.new w2 #[.slice A m cA, .slice B mm cB] 27
  have kV := Keeps.alloc w2 (.cells #[.slice A m cA, .slice B mm cB] 27)
  have hB3 := hB2.keeps kV
  have HN3 := Lib.hid (hN.keeps kV)
  have hR3 := hR2.gro kV
  have hK3 := hKK2.step kV
  have zR := hR2.lt
  have zB := hB2.lt
  clear hR2 hB2 hKK2 hN kV
  generalize hw3 : w2.alloc (.cells #[.slice A m cA, .slice B mm cB] 27) = w3 at *
  clear hw3
  generalize w2.heap.size = V at *
  have c0 : w3.cell? ⟨V, 0, none⟩ = some (.slice A m cA) := by rw [hV.cell]; rfl
  have c1 : w3.cell? ⟨V, 1, none⟩ = some (.slice B mm cB) := by rw [hV.cell]; rfl
  have hVb : V ≠ b := by omega
  have hbwz : b ≠ w.heap.size := by omega
  have hVw : V ≠ w.heap.size := by omega
  have hwV : w.heap.size ≠ V := by omega
  have hlo : w.heap.size < w1.heap.size := by omega
  have hblo : b < w1.heap.size := by omega
  have gg := Gro.ofKeeps (b := b) (Keeps.drew1 w3)
  have tok1 : True := trivial
  go_upto_region 3 with fail
  go_region_held3 (fun w' => w'.cell? ⟨V, 0, none⟩ = some (.slice A m cA) ∧ w'.cell? ⟨V, 1, none⟩ = some (.slice B mm cB) ) (first | exact ⟨hG5.cell g0 hVb, hG5.cell g1 hVb⟩ | exact ⟨c0, c1⟩ | (obtain ⟨g0, g1⟩ : _ ∧ _ := (by assumption); exact ⟨cell_keeps (Keeps.alloc _ _) g0, cell_keeps (Keeps.alloc _ _) g1⟩) | go_keep) (first | (go_at_call 44; obtain ⟨g0, g1⟩ : _ ∧ _ := (by assumption); have _t := tok1; go_must (refine (pick_any b q _ _ (hR3.gro (Keeps.drew1 _)) (by omega)).mono ?_); rintro e w5 ⟨y1, rfl, hy1, hR5, hG5⟩; have gg := gg.step hG5; clear tok1) | (go_at_call 44; obtain ⟨g0, g1⟩ : _ ∧ _ := (by assumption); go_must (refine (pick_any b (q + 1) _ _ hR5 (by omega)).mono ?_); rintro e w5 ⟨y2, rfl, hy2, hR5, hG5⟩; have gg := gg.step hG5) | (go_at_call 45; obtain ⟨g0, g1⟩ : _ ∧ _ := (by assumption); go_must (refine (one_lit b (q + 2) [0, (y1 : Int), (y2 : Int), (m : Int), -1] (-1) 7 _ _ _ _ (fun z hz => by simp at hz; omega) (by simp) (by simp) (by omega) hR5 rfl rfl rfl).mono ?_); rintro e w5 ⟨s, rfl, hs1, hs2, hR5, hG5⟩; have gg := (gg.step (Gro.ofKeeps (Keeps.alloc _ _))).step hG5; have hB5 := hB3.grown gg (by simp; omega); have b50 : w5.cell? ⟨w.heap.size, 0, none⟩ = some (.slice none 0 0) := (by rw [hB5.cell]; rfl); have b51 : w5.cell? ⟨w.heap.size, 1, none⟩ = some (.slice none 0 0) := (by rw [hB5.cell]; rfl); have f50 := hB5.frozen 0; have f51 := hB5.frozen 1))
  all_goals
    go_wp2
    refine bodyPost_ret (v := .tuple #[.agg #[.slice A m cA, .slice B mm cB], .int .i64 s]) (by simp [results, Try.results27, go_sem, b50, b51]) rfl ⟨m, mm, A, B, cA, cB, r, L, X, M, s, rfl, ?_, HL.out, hm1, hm6, hmm, hs1, hs2, ?_⟩
    · exact (((HN3.out.gro gg hblo).below (grown_set _ w.heap.size 0 (.slice A m cA)) (fun x hx => by cases hx; exact hlo)).below (grown_set _ w.heap.size 1 (.slice B mm cB)) (fun x hx => by cases hx; exact hlo)).net
    · exact ((gg.keeps hK3 (by omega)).setCell (Nat.le_refl _) _).setCell (Nat.le_refl _) _
set_option maxRecDepth 100000 in
set_option maxHeartbeats 4000000 in
theorem drawWakeOf_any (a : Option Addr) (n c : Nat) (w : World) (hB : Bytes w w.heap.size a n) (hn : n ≤ 1099511627776) (hc : n ≤ c) (hc2 : c ≤ 9223372036854775807) :
    Calls Try.prog 33 #[.slice a n c] w (DrawnNetI w) := by
  have HB := Lib.hid hB
  clear hB
  go_enter Try.func33, Try.ntmps33
  go_wp2_with fail
  refine (newReader_any a n c _ (by simp only [World.size_alloc]; exact bytes_more' HB.out) hn hc hc2).mono ?_
  rintro e w1 ⟨b, rfl, hR1, hb, hK1⟩
  simp only [World.size_alloc] at hb
  have hB1 := (Blk.new w #[.slice none 0 0, .slice none 0 0] 27).keeps hK1
  have hKK1 := (Keeps.alloc w (.cells #[.slice none 0 0, .slice none 0 0] 27)).step hK1
  clear hK1
  go_wp2_with fail
  refine (someNet_any b 0 _ hR1 (by omega)).mono ?_
  rintro e w2 ⟨m, mm, q, A, B, cA, cB, r, L, X, M, rfl, hN, hL, hm1, hm6, hmm, hR2, hq, hG2⟩
  have HL := Lib.hid hL
  clear hL
  have hB2 := hB1.grown hG2 (by simp; omega)
  have hKK2 := hG2.keeps hKK1 (by omega)
  have hz1 := hKK1.size
  have hz2 := hR1.lt

  clear hB1 hG2
  go_wp2_with fail
  have hV := Blk.new w2 #[.slice A m cA, .slice B mm cB] 27
  have kV := Keeps.alloc w2 (.cells #[.slice A m cA, .slice B mm cB] 27)
  have hB3 := hB2.keeps kV
  have HN3 := Lib.hid (hN.keeps kV)
  have hR3 := hR2.gro kV
  have hK3 := hKK2.step kV
  have zR := hR2.lt
  have zB := hB2.lt
  clear hR2 hB2 hKK2 hN kV
  generalize hw3 : w2.alloc (.cells #[.slice A m cA, .slice B mm cB] 27) = w3 at *
  clear hw3
  generalize w2.heap.size = V at *
  have c0 : w3.cell? ⟨V, 0, none⟩ = some (.slice A m cA) := by rw [hV.cell]; rfl
  have c1 : w3.cell? ⟨V, 1, none⟩ = some (.slice B mm cB) := by rw [hV.cell]; rfl
  have hVb : V ≠ b := by omega
  have hbwz : b ≠ w.heap.size := by omega
  have hVw : V ≠ w.heap.size := by omega
  have hwV : w.heap.size ≠ V := by omega
  have hlo : w.heap.size < w1.heap.size := by omega
  have hblo : b < w1.heap.size := by omega
  have gg := Gro.ofKeeps (b := b) (Keeps.drew1 w3)
  have tok1 : True := trivial
  go_upto_region 3 with fail
  go_region_held3 (fun w' => w'.cell? ⟨V, 0, none⟩ = some (.slice A m cA) ∧ w'.cell? ⟨V, 1, none⟩ = some (.slice B mm cB) ) (first | exact ⟨hG5.cell g0 hVb, hG5.cell g1 hVb⟩ | exact ⟨c0, c1⟩ | (obtain ⟨g0, g1⟩ : _ ∧ _ := (by assumption); exact ⟨cell_keeps (Keeps.alloc _ _) g0, cell_keeps (Keeps.alloc _ _) g1⟩) | go_keep) (first | (go_at_call 44; obtain ⟨g0, g1⟩ : _ ∧ _ := (by assumption); have _t := tok1; go_must (refine (pick_any b q _ _ (hR3.gro (Keeps.drew1 _)) (by omega)).mono ?_); rintro e w5 ⟨y1, rfl, hy1, hR5, hG5⟩; have gg := gg.step hG5; clear tok1) | (go_at_call 44; obtain ⟨g0, g1⟩ : _ ∧ _ := (by assumption); go_must (refine (pick_any b (q + 1) _ _ hR5 (by omega)).mono ?_); rintro e w5 ⟨y2, rfl, hy2, hR5, hG5⟩; have gg := gg.step hG5) | (go_at_call 45; obtain ⟨g0, g1⟩ : _ ∧ _ := (by assumption); go_must (refine (one_lit b (q + 2) [0, (y1 : Int), (y2 : Int), (m : Int), -1] (-1) 7 _ _ _ _ (fun z hz => by simp at hz; omega) (by simp) (by simp) (by omega) hR5 rfl rfl rfl).mono ?_); rintro e w5 ⟨s, rfl, hs1, hs2, hR5, hG5⟩; have gg := (gg.step (Gro.ofKeeps (Keeps.alloc _ _))).step hG5; have hB5 := hB3.grown gg (by simp; omega); have b50 : w5.cell? ⟨w.heap.size, 0, none⟩ = some (.slice none 0 0) := (by rw [hB5.cell]; rfl); have b51 : w5.cell? ⟨w.heap.size, 1, none⟩ = some (.slice none 0 0) := (by rw [hB5.cell]; rfl); have f50 := hB5.frozen 0; have f51 := hB5.frozen 1))
  all_goals
    go_wp2
    refine bodyPost_ret (v := .tuple #[.agg #[.slice A m cA, .slice B mm cB], .int .i64 s]) (by simp [results, Try.results33, go_sem, b50, b51]) rfl ⟨m, mm, A, B, cA, cB, r, L, X, M, s, rfl, ?_, HL.out, hm1, hm6, hmm, hs1, hs2, ?_⟩
    · exact (((HN3.out.gro gg hblo).below (grown_set _ w.heap.size 0 (.slice A m cA)) (fun x hx => by cases hx; exact hlo)).below (grown_set _ w.heap.size 1 (.slice B mm cB)) (fun x hx => by cases hx; exact hlo)).net
    · exact ((gg.keeps hK3 (by omega)).setCell (Nat.le_refl _) _).setCell (Nat.le_refl _) _
end Go.Proofs.Ytdjilgbcpdlkfaa
