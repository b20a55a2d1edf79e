/-
  The drawn arguments of the crowd's laws: whatever the code is, rules and numbers in new memory. Conditions: bounds on lengths.
-/
import Derived.Test.YtaejakejnllimaaSomeCrowd
namespace Go.Proofs.Ytaejakejnllimaa
set_option linter.unusedVariables false
set_option maxRecDepth 100000
open Go.RowKit

/-- Drawn rules and a drawn list of numbers, in new memory. -/
def CrowdNew (w : World) (e : Ending) (w' : World) : Prop :=
  ∃ (S A B : Option Addr) (nS cS nA cA nB cB g m c : Nat) (s : Nat → Int) (rA rB : Nat → Option Addr × Nat × Nat) (f gg : Nat → Nat → Int) (l : List Int), e = .returned (.tuple #[.agg #[.slice S nS cS, .slice A nA cA, .slice B nB cB], .slice (some ⟨g, 0, none⟩) m c]) ∧ RulAt w' S nS s A nA rA f B nB rB gg ∧ OwnInts w' w.heap.size (some ⟨g, 0, none⟩) m c l ∧ m ≤ 5 ∧ Keeps w w'
set_option maxHeartbeats 2000000 in
theorem drawNextOf_any (a : Option Addr) (n c : Nat) (w : World) (hB : Bytes w w.heap.size a n) (hn : n ≤ 1099511627776) (hc : n ≤ c) (hc2 : c ≤ 9223372036854775807) :
    Calls Try.prog 21 #[.slice a n c] w (CrowdNew w) := by
  have HB := Lib.hid (hB.keeps (Keeps.alloc w (.cells #[.slice none 0 0, .slice none 0 0, .slice none 0 0] 26)))
  have HR := Lib.hid (Blk.new w #[.slice none 0 0, .slice none 0 0, .slice none 0 0] 26)
  have HK := Lib.hid (Keeps.alloc w (.cells #[.slice none 0 0, .slice none 0 0, .slice none 0 0] 26))
  have HZ : Hid (w.heap.size < (w.alloc (.cells #[.slice none 0 0, .slice none 0 0, .slice none 0 0] 26)).heap.size) := Lib.hid (by simp)
  clear hB
  go_enter Try.func21, Try.ntmps21
  go_wp2_with fail
  generalize w.alloc (.cells #[.slice none 0 0, .slice none 0 0, .slice none 0 0] 26) = w1 at *
  refine (newReader_any a n c w1 (fun i hi => by
    obtain ⟨b, off, e, h1, h2⟩ := HB.out i hi
    exact ⟨b, off, e, by have := HZ.out; omega, h2⟩) hn hc hc2).mono ?_
  rintro e w2 ⟨b, rfl, hR2, hb2, hk2⟩
  have HRD := Lib.hid hR2
  have HR2 := Lib.hid (HR.out.keeps hk2)
  have HK2 := Lib.hid (HK.out.step hk2)
  have HLO : Hid (w.heap.size < b ∧ w1.heap.size ≤ w2.heap.size) := Lib.hid ⟨by have := HZ.out; omega, hk2.size⟩
  have HZ2 : Hid (w.heap.size < w2.heap.size) := Lib.hid (by have := HZ.out; have := hk2.size; omega)
  clear hR2 hb2 hk2 HR HK HB HZ
  go_wp2_with fail
  refine (someCrowd_any b 0 w2 HRD.out (by omega)).mono ?_
  rintro e w3 ⟨S, A, B, nS, cS, nA, cA, nB, cB, g, m, d, s, rA, rB, f, gg, l, rfl, hat, hm, hg, hz⟩
  have HAT := Lib.hid hat
  have HR3 : Hid (Blk w3 w.heap.size 26 #[.slice none 0 0, .slice none 0 0, .slice none 0 0]) := Lib.hid (HR2.out.grown hg (by have := HLO.out; simp; omega))
  have HK3 := Lib.hid (hg.keeps HK2.out (by have := HLO.out; omega))
  have HZ3 := Lib.hid hz
  have e0 : w3.cell? ⟨w.heap.size, 0, none⟩ = some (.slice none 0 0) := HR3.out.cell 0
  have e1 : w3.cell? ⟨w.heap.size, 1, none⟩ = some (.slice none 0 0) := HR3.out.cell 1
  have e2 : w3.cell? ⟨w.heap.size, 2, none⟩ = some (.slice none 0 0) := HR3.out.cell 2
  have f0 := HR3.out.frozen 0
  have f1 := HR3.out.frozen 1
  have f2 := HR3.out.frozen 2
  have hwz := HR3.out.lt
  clear hat hg hz
  go_wp2
  have y1 := ((HR3.out.set 0 (.slice S nS cS)).set 1 (.slice A nA cA)).set 2 (.slice B nB cB)
  have k0 := y1.cell 0
  have k1 := y1.cell 1
  have k2 := y1.cell 2
  obtain ⟨hr, ho⟩ := HAT.out (((w3.setCell ⟨w.heap.size, 0, none⟩ (.slice S nS cS)).setCell ⟨w.heap.size, 1, none⟩ (.slice A nA cA)).setCell ⟨w.heap.size, 2, none⟩ (.slice B nB cB)) (fun i a1 a2 => by have := HZ2.out; rw [Below.heap_setCell _ _ _ _ (by simp only; omega), Below.heap_setCell _ _ _ _ (by simp only; omega), Below.heap_setCell _ _ _ _ (by simp only; omega)])
  refine bodyPost_ret (v := .tuple #[.agg #[.slice S nS cS, .slice A nA cA, .slice B nB cB], .slice (some ⟨g, 0, none⟩) m d]) (by simp [results, Try.results21, go_sem, k0, k1, k2]) rfl ⟨S, A, B, nS, cS, nA, cA, nB, cB, g, m, d, s, rA, rB, f, gg, l, rfl, hr, ho.mono (by have := HZ2.out; omega), hm, ?_⟩
  exact ((HK3.out.setCell (p := ⟨w.heap.size, 0, none⟩) (Nat.le_refl _) _).setCell (p := ⟨w.heap.size, 1, none⟩) (Nat.le_refl _) _).setCell (p := ⟨w.heap.size, 2, none⟩) (Nat.le_refl _) _
set_option maxHeartbeats 2000000 in
theorem drawReachedOf_any (a : Option Addr) (n c : Nat) (w : World) (hB : Bytes w w.heap.size a n) (hn : n ≤ 1099511627776) (hc : n ≤ c) (hc2 : c ≤ 9223372036854775807) :
    Calls Try.prog 25 #[.slice a n c] w (CrowdNew w) := by
  have HB := Lib.hid (hB.keeps (Keeps.alloc w (.cells #[.slice none 0 0, .slice none 0 0, .slice none 0 0] 26)))
  have HR := Lib.hid (Blk.new w #[.slice none 0 0, .slice none 0 0, .slice none 0 0] 26)
  have HK := Lib.hid (Keeps.alloc w (.cells #[.slice none 0 0, .slice none 0 0, .slice none 0 0] 26))
  have HZ : Hid (w.heap.size < (w.alloc (.cells #[.slice none 0 0, .slice none 0 0, .slice none 0 0] 26)).heap.size) := Lib.hid (by simp)
  clear hB
  go_enter Try.func25, Try.ntmps25
  go_wp2_with fail
  generalize w.alloc (.cells #[.slice none 0 0, .slice none 0 0, .slice none 0 0] 26) = w1 at *
  refine (newReader_any a n c w1 (fun i hi => by
    obtain ⟨b, off, e, h1, h2⟩ := HB.out i hi
    exact ⟨b, off, e, by have := HZ.out; omega, h2⟩) hn hc hc2).mono ?_
  rintro e w2 ⟨b, rfl, hR2, hb2, hk2⟩
  have HRD := Lib.hid hR2
  have HR2 := Lib.hid (HR.out.keeps hk2)
  have HK2 := Lib.hid (HK.out.step hk2)
  have HLO : Hid (w.heap.size < b ∧ w1.heap.size ≤ w2.heap.size) := Lib.hid ⟨by have := HZ.out; omega, hk2.size⟩
  have HZ2 : Hid (w.heap.size < w2.heap.size) := Lib.hid (by have := HZ.out; have := hk2.size; omega)
  clear hR2 hb2 hk2 HR HK HB HZ
  go_wp2_with fail
  refine (someCrowd_any b 0 w2 HRD.out (by omega)).mono ?_
  rintro e w3 ⟨S, A, B, nS, cS, nA, cA, nB, cB, g, m, d, s, rA, rB, f, gg, l, rfl, hat, hm, hg, hz⟩
  have HAT := Lib.hid hat
  have HR3 : Hid (Blk w3 w.heap.size 26 #[.slice none 0 0, .slice none 0 0, .slice none 0 0]) := Lib.hid (HR2.out.grown hg (by have := HLO.out; simp; omega))
  have HK3 := Lib.hid (hg.keeps HK2.out (by have := HLO.out; omega))
  have HZ3 := Lib.hid hz
  have e0 : w3.cell? ⟨w.heap.size, 0, none⟩ = some (.slice none 0 0) := HR3.out.cell 0
  have e1 : w3.cell? ⟨w.heap.size, 1, none⟩ = some (.slice none 0 0) := HR3.out.cell 1
  have e2 : w3.cell? ⟨w.heap.size, 2, none⟩ = some (.slice none 0 0) := HR3.out.cell 2
  have f0 := HR3.out.frozen 0
  have f1 := HR3.out.frozen 1
  have f2 := HR3.out.frozen 2
  have hwz := HR3.out.lt
  clear hat hg hz
  go_wp2
  have y1 := ((HR3.out.set 0 (.slice S nS cS)).set 1 (.slice A nA cA)).set 2 (.slice B nB cB)
  have k0 := y1.cell 0
  have k1 := y1.cell 1
  have k2 := y1.cell 2
  obtain ⟨hr, ho⟩ := HAT.out (((w3.setCell ⟨w.heap.size, 0, none⟩ (.slice S nS cS)).setCell ⟨w.heap.size, 1, none⟩ (.slice A nA cA)).setCell ⟨w.heap.size, 2, none⟩ (.slice B nB cB)) (fun i a1 a2 => by have := HZ2.out; rw [Below.heap_setCell _ _ _ _ (by simp only; omega), Below.heap_setCell _ _ _ _ (by simp only; omega), Below.heap_setCell _ _ _ _ (by simp only; omega)])
  refine bodyPost_ret (v := .tuple #[.agg #[.slice S nS cS, .slice A nA cA, .slice B nB cB], .slice (some ⟨g, 0, none⟩) m d]) (by simp [results, Try.results25, go_sem, k0, k1, k2]) rfl ⟨S, A, B, nS, cS, nA, cA, nB, cB, g, m, d, s, rA, rB, f, gg, l, rfl, hr, ho.mono (by have := HZ2.out; omega), hm, ?_⟩
  exact ((HK3.out.setCell (p := ⟨w.heap.size, 0, none⟩) (Nat.le_refl _) _).setCell (p := ⟨w.heap.size, 1, none⟩) (Nat.le_refl _) _).setCell (p := ⟨w.heap.size, 2, none⟩) (Nat.le_refl _) _
set_option maxHeartbeats 2000000 in
theorem drawSteadyOf_any (a : Option Addr) (n c : Nat) (w : World) (hB : Bytes w w.heap.size a n) (hn : n ≤ 1099511627776) (hc : n ≤ c) (hc2 : c ≤ 9223372036854775807) :
    Calls Try.prog 28 #[.slice a n c] w (CrowdNew w) := by
  have HB := Lib.hid (hB.keeps (Keeps.alloc w (.cells #[.slice none 0 0, .slice none 0 0, .slice none 0 0] 26)))
  have HR := Lib.hid (Blk.new w #[.slice none 0 0, .slice none 0 0, .slice none 0 0] 26)
  have HK := Lib.hid (Keeps.alloc w (.cells #[.slice none 0 0, .slice none 0 0, .slice none 0 0] 26))
  have HZ : Hid (w.heap.size < (w.alloc (.cells #[.slice none 0 0, .slice none 0 0, .slice none 0 0] 26)).heap.size) := Lib.hid (by simp)
  clear hB
  go_enter Try.func28, Try.ntmps28
  go_wp2_with fail
  generalize w.alloc (.cells #[.slice none 0 0, .slice none 0 0, .slice none 0 0] 26) = w1 at *
  refine (newReader_any a n c w1 (fun i hi => by
    obtain ⟨b, off, e, h1, h2⟩ := HB.out i hi
    exact ⟨b, off, e, by have := HZ.out; omega, h2⟩) hn hc hc2).mono ?_
  rintro e w2 ⟨b, rfl, hR2, hb2, hk2⟩
  have HRD := Lib.hid hR2
  have HR2 := Lib.hid (HR.out.keeps hk2)
  have HK2 := Lib.hid (HK.out.step hk2)
  have HLO : Hid (w.heap.size < b ∧ w1.heap.size ≤ w2.heap.size) := Lib.hid ⟨by have := HZ.out; omega, hk2.size⟩
  have HZ2 : Hid (w.heap.size < w2.heap.size) := Lib.hid (by have := HZ.out; have := hk2.size; omega)
  clear hR2 hb2 hk2 HR HK HB HZ
  go_wp2_with fail
  refine (someCrowd_any b 0 w2 HRD.out (by omega)).mono ?_
  rintro e w3 ⟨S, A, B, nS, cS, nA, cA, nB, cB, g, m, d, s, rA, rB, f, gg, l, rfl, hat, hm, hg, hz⟩
  have HAT := Lib.hid hat
  have HR3 : Hid (Blk w3 w.heap.size 26 #[.slice none 0 0, .slice none 0 0, .slice none 0 0]) := Lib.hid (HR2.out.grown hg (by have := HLO.out; simp; omega))
  have HK3 := Lib.hid (hg.keeps HK2.out (by have := HLO.out; omega))
  have HZ3 := Lib.hid hz
  have e0 : w3.cell? ⟨w.heap.size, 0, none⟩ = some (.slice none 0 0) := HR3.out.cell 0
  have e1 : w3.cell? ⟨w.heap.size, 1, none⟩ = some (.slice none 0 0) := HR3.out.cell 1
  have e2 : w3.cell? ⟨w.heap.size, 2, none⟩ = some (.slice none 0 0) := HR3.out.cell 2
  have f0 := HR3.out.frozen 0
  have f1 := HR3.out.frozen 1
  have f2 := HR3.out.frozen 2
  have hwz := HR3.out.lt
  clear hat hg hz
  go_wp2
  have y1 := ((HR3.out.set 0 (.slice S nS cS)).set 1 (.slice A nA cA)).set 2 (.slice B nB cB)
  have k0 := y1.cell 0
  have k1 := y1.cell 1
  have k2 := y1.cell 2
  obtain ⟨hr, ho⟩ := HAT.out (((w3.setCell ⟨w.heap.size, 0, none⟩ (.slice S nS cS)).setCell ⟨w.heap.size, 1, none⟩ (.slice A nA cA)).setCell ⟨w.heap.size, 2, none⟩ (.slice B nB cB)) (fun i a1 a2 => by have := HZ2.out; rw [Below.heap_setCell _ _ _ _ (by simp only; omega), Below.heap_setCell _ _ _ _ (by simp only; omega), Below.heap_setCell _ _ _ _ (by simp only; omega)])
  refine bodyPost_ret (v := .tuple #[.agg #[.slice S nS cS, .slice A nA cA, .slice B nB cB], .slice (some ⟨g, 0, none⟩) m d]) (by simp [results, Try.results28, go_sem, k0, k1, k2]) rfl ⟨S, A, B, nS, cS, nA, cA, nB, cB, g, m, d, s, rA, rB, f, gg, l, rfl, hr, ho.mono (by have := HZ2.out; omega), hm, ?_⟩
  exact ((HK3.out.setCell (p := ⟨w.heap.size, 0, none⟩) (Nat.le_refl _) _).setCell (p := ⟨w.heap.size, 1, none⟩) (Nat.le_refl _) _).setCell (p := ⟨w.heap.size, 2, none⟩) (Nat.le_refl _) _
set_option maxHeartbeats 2000000 in
theorem drawVerdictOf_any (a : Option Addr) (n c : Nat) (w : World) (hB : Bytes w w.heap.size a n) (hn : n ≤ 1099511627776) (hc : n ≤ c) (hc2 : c ≤ 9223372036854775807) :
    Calls Try.prog 9 #[.slice a n c] w (CrowdNew w) := by
  have HB := Lib.hid (hB.keeps (Keeps.alloc w (.cells #[.slice none 0 0, .slice none 0 0, .slice none 0 0] 26)))
  have HR := Lib.hid (Blk.new w #[.slice none 0 0, .slice none 0 0, .slice none 0 0] 26)
  have HK := Lib.hid (Keeps.alloc w (.cells #[.slice none 0 0, .slice none 0 0, .slice none 0 0] 26))
  have HZ : Hid (w.heap.size < (w.alloc (.cells #[.slice none 0 0, .slice none 0 0, .slice none 0 0] 26)).heap.size) := Lib.hid (by simp)
  clear hB
  go_enter Try.func9, Try.ntmps9
  go_wp2_with fail
  generalize w.alloc (.cells #[.slice none 0 0, .slice none 0 0, .slice none 0 0] 26) = w1 at *
  refine (newReader_any a n c w1 (fun i hi => by
    obtain ⟨b, off, e, h1, h2⟩ := HB.out i hi
    exact ⟨b, off, e, by have := HZ.out; omega, h2⟩) hn hc hc2).mono ?_
  rintro e w2 ⟨b, rfl, hR2, hb2, hk2⟩
  have HRD := Lib.hid hR2
  have HR2 := Lib.hid (HR.out.keeps hk2)
  have HK2 := Lib.hid (HK.out.step hk2)
  have HLO : Hid (w.heap.size < b ∧ w1.heap.size ≤ w2.heap.size) := Lib.hid ⟨by have := HZ.out; omega, hk2.size⟩
  have HZ2 : Hid (w.heap.size < w2.heap.size) := Lib.hid (by have := HZ.out; have := hk2.size; omega)
  clear hR2 hb2 hk2 HR HK HB HZ
  go_wp2_with fail
  refine (someCrowd_any b 0 w2 HRD.out (by omega)).mono ?_
  rintro e w3 ⟨S, A, B, nS, cS, nA, cA, nB, cB, g, m, d, s, rA, rB, f, gg, l, rfl, hat, hm, hg, hz⟩
  have HAT := Lib.hid hat
  have HR3 : Hid (Blk w3 w.heap.size 26 #[.slice none 0 0, .slice none 0 0, .slice none 0 0]) := Lib.hid (HR2.out.grown hg (by have := HLO.out; simp; omega))
  have HK3 := Lib.hid (hg.keeps HK2.out (by have := HLO.out; omega))
  have HZ3 := Lib.hid hz
  have e0 : w3.cell? ⟨w.heap.size, 0, none⟩ = some (.slice none 0 0) := HR3.out.cell 0
  have e1 : w3.cell? ⟨w.heap.size, 1, none⟩ = some (.slice none 0 0) := HR3.out.cell 1
  have e2 : w3.cell? ⟨w.heap.size, 2, none⟩ = some (.slice none 0 0) := HR3.out.cell 2
  have f0 := HR3.out.frozen 0
  have f1 := HR3.out.frozen 1
  have f2 := HR3.out.frozen 2
  have hwz := HR3.out.lt
  clear hat hg hz
  go_wp2
  have y1 := ((HR3.out.set 0 (.slice S nS cS)).set 1 (.slice A nA cA)).set 2 (.slice B nB cB)
  have k0 := y1.cell 0
  have k1 := y1.cell 1
  have k2 := y1.cell 2
  obtain ⟨hr, ho⟩ := HAT.out (((w3.setCell ⟨w.heap.size, 0, none⟩ (.slice S nS cS)).setCell ⟨w.heap.size, 1, none⟩ (.slice A nA cA)).setCell ⟨w.heap.size, 2, none⟩ (.slice B nB cB)) (fun i a1 a2 => by have := HZ2.out; rw [Below.heap_setCell _ _ _ _ (by simp only; omega), Below.heap_setCell _ _ _ _ (by simp only; omega), Below.heap_setCell _ _ _ _ (by simp only; omega)])
  refine bodyPost_ret (v := .tuple #[.agg #[.slice S nS cS, .slice A nA cA, .slice B nB cB], .slice (some ⟨g, 0, none⟩) m d]) (by simp [results, Try.results9, go_sem, k0, k1, k2]) rfl ⟨S, A, B, nS, cS, nA, cA, nB, cB, g, m, d, s, rA, rB, f, gg, l, rfl, hr, ho.mono (by have := HZ2.out; omega), hm, ?_⟩
  exact ((HK3.out.setCell (p := ⟨w.heap.size, 0, none⟩) (Nat.le_refl _) _).setCell (p := ⟨w.heap.size, 1, none⟩) (Nat.le_refl _) _).setCell (p := ⟨w.heap.size, 2, none⟩) (Nat.le_refl _) _
end Go.Proofs.Ytaejakejnllimaa
