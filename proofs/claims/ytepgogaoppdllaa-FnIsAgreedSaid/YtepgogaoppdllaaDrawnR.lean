/-
  The contracts of the draws of a run and a number of rounds: whatever the code is, a run in new memory and a number in -1..5. Condition: a code of at most 2^40 bytes.
-/
import Derived.Test.YtepgogaoppdllaaSomeRun
namespace Go.Proofs.Ytepgogaoppdllaa
open Go.RowKit

def DrawnRun (w : World) (e : Ending) (w' : World) : Prop :=
  ∃ (n m : Nat) (A S : Option Addr) (c d : Nat) (l zs : List Int) (s : Int), e = .returned (.tuple #[.agg #[.slice A n c, .slice S m d], .int .i64 s]) ∧ OwnInts w' w.heap.size A n c l ∧ OwnStops w' w.heap.size S m d zs ∧ n ≤ 4 ∧ m ≤ 5 ∧ -1 ≤ s ∧ s ≤ 5 ∧ Keeps w w'
theorem bytes_more' {w : World} {o : Obj} {a : Option Addr} {n : Nat} (h : Bytes w w.heap.size a n) : Bytes (w.alloc o) (w.heap.size + 1) a n := fun i hi => by
  obtain ⟨d, off, e, hd, y, hy, hc⟩ := h.keeps (Keeps.alloc w o) i hi
  exact ⟨d, off, e, by omega, y, hy, hc⟩
set_option maxRecDepth 100000 in
set_option maxHeartbeats 2000000 in
theorem drawSeenAfter_any (a : Option Addr) (n c : Nat) (w : World) (hB : Bytes w w.heap.size a n) (hn : n ≤ 1099511627776) (hc : n ≤ c) (hc2 : c ≤ 9223372036854775807) :
    Calls Try.prog 13 #[.slice a n c] w (DrawnRun w) := by
  have HB := Lib.hid hB
  clear hB
  go_enter Try.func13, Try.ntmps13
  go_wp2_with fail
  refine (newReader_any a n c _ (by simp only [World.size_alloc]; exact bytes_more' HB.out) hn hc hc2).mono ?_
  rintro e w1 ⟨b, rfl, hR1, hb, hK1⟩
  simp only [World.size_alloc] at hb
  have hB1 := (Blk.new w #[.slice none 0 0, .slice none 0 0] 26).keeps hK1
  have hKK1 := (Keeps.alloc w (.cells #[.slice none 0 0, .slice none 0 0] 26)).step hK1
  clear hK1
  go_wp2_with fail
  refine (someRun_any b 0 _ hR1 (by omega)).mono ?_
  rintro e w2 ⟨N, m, q, A, S, k, d, l, zs, rfl, hO, hS, hN, hm, hR2, hq, hG2⟩
  have hB2 := hB1.grown hG2 (by simp; omega)
  have hKK2 := hG2.keeps hKK1 (by omega)
  have hz2 := hKK1.size
  have hO2 := hO.mono (lo' := w.heap.size) hz2
  have hS2 := hS.mono (lo' := w.heap.size) hz2
  clear hO hS hB1 hG2
  go_wp2_with fail
  refine (one_lit b q [2, 1, 3, 0, 4, 5, -1] (-1) 5 _ _ _ _ (by decide) (by decide) (by decide) (by omega) hR2 rfl (by simp) rfl).mono ?_
  rintro e w3 ⟨s, rfl, hs1, hs2, hR3, hG3⟩
  have kk := Keeps.alloc w2 (.cells #[.int .i64 2, .int .i64 1, .int .i64 3, .int .i64 0, .int .i64 4, .int .i64 5, .int .i64 (-1)] 3)
  have hB3 := (hB2.keeps kk).grown hG3 (by simp; omega)
  have hO3 := own_gro (hO2.keeps kk) hG3 (hR2.gro kk)
  have hS3 := ownS_gro (hS2.keeps kk) hG3 (hR2.gro kk)
  have hK3 := hG3.keeps (hKK2.step kk) (by omega)
  have b0 : w3.cell? ⟨w.heap.size, 0, none⟩ = some (.slice none 0 0) := by rw [hB3.cell]; rfl
  have b1 : w3.cell? ⟨w.heap.size, 1, none⟩ = some (.slice none 0 0) := by rw [hB3.cell]; rfl
  have f0 := hB3.frozen 0
  have f1 := hB3.frozen 1
  go_wp2
  have k1 := hB3.set 0 (.slice A N k)
  refine bodyPost_ret (v := .tuple #[.agg #[.slice A N k, .slice S m d], .int .i64 s]) (by simp [results, Try.results13, go_sem, b0, b1]) rfl ⟨N, m, A, S, k, d, l, zs, s, rfl, ?_, ?_, hN, hm, hs1, hs2, (hK3.setCell (Nat.le_refl _) _).setCell (Nat.le_refl _) _⟩
  · exact (hO3.grown (grown_set _ _ _ _) hB3 (by decide)).grown (grown_set _ _ _ _) k1 (by decide)
  · exact (hS3.grown (grown_set _ _ _ _) hB3 (by decide)).grown (grown_set _ _ _ _) k1 (by decide)
set_option maxRecDepth 100000 in
set_option maxHeartbeats 2000000 in
theorem drawDecisionsAfter_any (a : Option Addr) (n c : Nat) (w : World) (hB : Bytes w w.heap.size a n) (hn : n ≤ 1099511627776) (hc : n ≤ c) (hc2 : c ≤ 9223372036854775807) :
    Calls Try.prog 28 #[.slice a n c] w (DrawnRun w) := by
  have HB := Lib.hid hB
  clear hB
  go_enter Try.func28, Try.ntmps28
  go_wp2_with fail
  refine (newReader_any a n c _ (by simp only [World.size_alloc]; exact bytes_more' HB.out) hn hc hc2).mono ?_
  rintro e w1 ⟨b, rfl, hR1, hb, hK1⟩
  simp only [World.size_alloc] at hb
  have hB1 := (Blk.new w #[.slice none 0 0, .slice none 0 0] 26).keeps hK1
  have hKK1 := (Keeps.alloc w (.cells #[.slice none 0 0, .slice none 0 0] 26)).step hK1
  clear hK1
  go_wp2_with fail
  refine (someRun_any b 0 _ hR1 (by omega)).mono ?_
  rintro e w2 ⟨N, m, q, A, S, k, d, l, zs, rfl, hO, hS, hN, hm, hR2, hq, hG2⟩
  have hB2 := hB1.grown hG2 (by simp; omega)
  have hKK2 := hG2.keeps hKK1 (by omega)
  have hz2 := hKK1.size
  have hO2 := hO.mono (lo' := w.heap.size) hz2
  have hS2 := hS.mono (lo' := w.heap.size) hz2
  clear hO hS hB1 hG2
  go_wp2_with fail
  refine (one_lit b q [2, 1, 3, 0, 4, 5, -1] (-1) 5 _ _ _ _ (by decide) (by decide) (by decide) (by omega) hR2 rfl (by simp) rfl).mono ?_
  rintro e w3 ⟨s, rfl, hs1, hs2, hR3, hG3⟩
  have kk := Keeps.alloc w2 (.cells #[.int .i64 2, .int .i64 1, .int .i64 3, .int .i64 0, .int .i64 4, .int .i64 5, .int .i64 (-1)] 3)
  have hB3 := (hB2.keeps kk).grown hG3 (by simp; omega)
  have hO3 := own_gro (hO2.keeps kk) hG3 (hR2.gro kk)
  have hS3 := ownS_gro (hS2.keeps kk) hG3 (hR2.gro kk)
  have hK3 := hG3.keeps (hKK2.step kk) (by omega)
  have b0 : w3.cell? ⟨w.heap.size, 0, none⟩ = some (.slice none 0 0) := by rw [hB3.cell]; rfl
  have b1 : w3.cell? ⟨w.heap.size, 1, none⟩ = some (.slice none 0 0) := by rw [hB3.cell]; rfl
  have f0 := hB3.frozen 0
  have f1 := hB3.frozen 1
  go_wp2
  have k1 := hB3.set 0 (.slice A N k)
  refine bodyPost_ret (v := .tuple #[.agg #[.slice A N k, .slice S m d], .int .i64 s]) (by simp [results, Try.results28, go_sem, b0, b1]) rfl ⟨N, m, A, S, k, d, l, zs, s, rfl, ?_, ?_, hN, hm, hs1, hs2, (hK3.setCell (Nat.le_refl _) _).setCell (Nat.le_refl _) _⟩
  · exact (hO3.grown (grown_set _ _ _ _) hB3 (by decide)).grown (grown_set _ _ _ _) k1 (by decide)
  · exact (hS3.grown (grown_set _ _ _ _) hB3 (by decide)).grown (grown_set _ _ _ _) k1 (by decide)
set_option maxRecDepth 100000 in
set_option maxHeartbeats 2000000 in
theorem drawIsAgreed_any (a : Option Addr) (n c : Nat) (w : World) (hB : Bytes w w.heap.size a n) (hn : n ≤ 1099511627776) (hc : n ≤ c) (hc2 : c ≤ 9223372036854775807) :
    Calls Try.prog 36 #[.slice a n c] w (DrawnRun w) := by
  have HB := Lib.hid hB
  clear hB
  go_enter Try.func36, Try.ntmps36
  go_wp2_with fail
  refine (newReader_any a n c _ (by simp only [World.size_alloc]; exact bytes_more' HB.out) hn hc hc2).mono ?_
  rintro e w1 ⟨b, rfl, hR1, hb, hK1⟩
  simp only [World.size_alloc] at hb
  have hB1 := (Blk.new w #[.slice none 0 0, .slice none 0 0] 26).keeps hK1
  have hKK1 := (Keeps.alloc w (.cells #[.slice none 0 0, .slice none 0 0] 26)).step hK1
  clear hK1
  go_wp2_with fail
  refine (someRun_any b 0 _ hR1 (by omega)).mono ?_
  rintro e w2 ⟨N, m, q, A, S, k, d, l, zs, rfl, hO, hS, hN, hm, hR2, hq, hG2⟩
  have hB2 := hB1.grown hG2 (by simp; omega)
  have hKK2 := hG2.keeps hKK1 (by omega)
  have hz2 := hKK1.size
  have hO2 := hO.mono (lo' := w.heap.size) hz2
  have hS2 := hS.mono (lo' := w.heap.size) hz2
  clear hO hS hB1 hG2
  go_wp2_with fail
  refine (one_lit b q [2, 1, 3, 0, 4, 5, -1] (-1) 5 _ _ _ _ (by decide) (by decide) (by decide) (by omega) hR2 rfl (by simp) rfl).mono ?_
  rintro e w3 ⟨s, rfl, hs1, hs2, hR3, hG3⟩
  have kk := Keeps.alloc w2 (.cells #[.int .i64 2, .int .i64 1, .int .i64 3, .int .i64 0, .int .i64 4, .int .i64 5, .int .i64 (-1)] 3)
  have hB3 := (hB2.keeps kk).grown hG3 (by simp; omega)
  have hO3 := own_gro (hO2.keeps kk) hG3 (hR2.gro kk)
  have hS3 := ownS_gro (hS2.keeps kk) hG3 (hR2.gro kk)
  have hK3 := hG3.keeps (hKK2.step kk) (by omega)
  have b0 : w3.cell? ⟨w.heap.size, 0, none⟩ = some (.slice none 0 0) := by rw [hB3.cell]; rfl
  have b1 : w3.cell? ⟨w.heap.size, 1, none⟩ = some (.slice none 0 0) := by rw [hB3.cell]; rfl
  have f0 := hB3.frozen 0
  have f1 := hB3.frozen 1
  go_wp2
  have k1 := hB3.set 0 (.slice A N k)
  refine bodyPost_ret (v := .tuple #[.agg #[.slice A N k, .slice S m d], .int .i64 s]) (by simp [results, Try.results36, go_sem, b0, b1]) rfl ⟨N, m, A, S, k, d, l, zs, s, rfl, ?_, ?_, hN, hm, hs1, hs2, (hK3.setCell (Nat.le_refl _) _).setCell (Nat.le_refl _) _⟩
  · exact (hO3.grown (grown_set _ _ _ _) hB3 (by decide)).grown (grown_set _ _ _ _) k1 (by decide)
  · exact (hS3.grown (grown_set _ _ _ _) hB3 (by decide)).grown (grown_set _ _ _ _) k1 (by decide)
end Go.Proofs.Ytepgogaoppdllaa
