/-
  someTokens of the reference from any place of the reader. Condition: the place is at most 1000.
-/
import Derived.Test.YtlniogfinofakaaGreatDoorRuAm
import Derived.Test.YtlniogfinofakaaGreatDoorRuAe
import Derived.Test.YtlniogfinofakaaGreatDoorRuAf
import Derived.Deep.CutBlock
import Derived.Deep.DeepCutAuto
import Derived.Test.YtlniogfinofakaaGreatDoorRuAb
namespace Go.Proofs.YtlniogfinofakaaGreatDoor
set_option maxRecDepth 100000
open Go.RowKit
set_option linter.unusedVariables false

/-- What is drawn as states of a ring: some number, up to five numbers in new memory, none above 100; and the reader's place. -/
def TokDrawnD (b p : Nat) (w : World) (e : Ending) (w' : World) : Prop :=
  ∃ (k : Int) (A : Option Addr) (n c : Nat) (x : Nat → Int), e = .returned (.tuple #[.int .i64 k, .slice A n c]) ∧ Ints w' A n x ∧ (∀ i, i < n → x i ≤ 100) ∧ n ≤ 5 ∧ (∃ q, q ≤ p + 20 ∧ Rd w' b q) ∧ Gro b w w'
theorem frontD {w : World} {A : Option Addr} {n m : Nat} {x : Nat → Int} (h : Ints w A n x) (hm : m ≤ n) : Ints w A m x := fun i hi => h i (by omega)
theorem getD_le {l : List Int} {u : Int} (h : ∀ v ∈ l, v ≤ u) (h0 : 0 ≤ u := by decide) (i : Nat) : l.getD i 0 ≤ u := by
  by_cases hi : i < l.length
  · rw [List.getD_eq_getElem?_getD, List.getElem?_eq_getElem hi]
    exact h _ (List.getElem_mem hi)
  · rw [List.getD_eq_getElem?_getD, List.getElem?_eq_none (by omega)]
    exact h0
set_option maxRecDepth 100000 in
set_option maxHeartbeats 4000000 in
theorem someTokensD_any (b p : Nat) (w : World) (h : Rd w b p) (hp : p ≤ 1000) :
    Calls Tryz.prog 23 #[.pointer (some ⟨b, 0, none⟩)] w (TokDrawnD b p w) := by
  have HR := Lib.hid h
  have hbw := h.lt
  clear h
  go_enter Tryz.func23, Tryz.ntmps23
  go_wp2_with fail
  refine (one_lit b p [3, 4, 5, 2, 3] 2 5 _ _ _ _ (by decide) (by decide) (by decide) (by omega) HR.out rfl rfl rfl).mono ?_
  rintro e w1 ⟨k, rfl, hk1, hk2, hR1, hG1⟩
  have HR1 := Lib.hid hR1
  have HG1 := Lib.hid ((Gro.ofKeeps (Keeps.alloc w (.cells ([3, 4, 5, 2, 3].map (Value.int .i64)).toArray 3))).step hG1)
  clear hR1 hG1
  have HO1 : Hid (OwnInts (w1.alloc (.cells #[] 3)) w.heap.size (some ⟨w1.heap.size, 0, none⟩) 0 0 []) := Lib.hid (OwnInts.made w1 w.heap.size HG1.out.size)
  go_wp2_with fail
  refine (one_lit b (p + 1) [3, 4, 2, 5, 3] 2 5 _ _ _ _ (by decide) (by decide) (by decide) (by omega) (HR1.out.gro (Keeps.alloc w1 (.cells #[] 3))) rfl (by simp) rfl).mono ?_
  rintro e w2 ⟨N, rfl, hN1, hN2, hR2, hG2⟩
  obtain ⟨N, rfl⟩ := Int.eq_ofNat_of_zero_le (show 0 ≤ N by omega)
  have HR2 := Lib.hid hR2
  have HO2 : Hid (OwnInts w2 w.heap.size (some ⟨w1.heap.size, 0, none⟩) 0 0 []) := Lib.hid (by
    have h1 := HO1.out.keeps (Keeps.alloc (w1.alloc (.cells #[] 3)) (.cells ([3, 4, 2, 5, 3].map (Value.int .i64)).toArray 3))
    obtain ⟨cs, hb⟩ := (((HR1.out.gro (Keeps.alloc w1 (.cells #[] 3))).gro (Keeps.alloc (w1.alloc (.cells #[] 3)) (.cells ([3, 4, 2, 5, 3].map (Value.int .i64)).toArray 3)))).blk
    exact h1.grown hG2 hb (by decide))
  have HG2 := Lib.hid ((HG1.out.step (Gro.ofKeeps ((Keeps.alloc w1 (.cells #[] 3)).step (Keeps.alloc _ (.cells ([3, 4, 2, 5, 3].map (Value.int .i64)).toArray 3))))).step hG2)
  clear hR2 hG2 HO1 HG1 HR1
  go_wp2_with fail
  go_loopw [5] (fun v wr => ∃ (j g c : Nat) (l : List Int), v = .slice (some ⟨g, 0, none⟩) j c ∧ j ≤ N ∧ Hid (OwnInts wr w.heap.size (some ⟨g, 0, none⟩) j c l) ∧ Hid (Rd wr b (p + 1 + 1 + j)) ∧ Hid (∀ v ∈ l, v ≤ 100) ∧ Hid (Gro b w wr)) (fun v _ => match v with | .slice _ j _ => N - j | _ => 0)
  case atStart => exact ⟨0, w1.heap.size, 0, [], rfl, by omega, HO2, HR2, Lib.hid (fun v hv => absurd hv List.not_mem_nil), HG2⟩
  case round =>
    clear HO2 HR2 HG2
    obtain ⟨j, g, c, l, rfl, hj, HO, HR, HL, HG⟩ := hrel
    have hjb : j ≤ 5 := by omega
    by_cases hlt : j < N
    · have hji : (j : Int) < N := by omega
      go_wp2_with fail
      refine (pick_any b (p + 1 + 1 + j) k _ HR.out (by omega)).mono ?_
      rintro e w4 ⟨x, rfl, hx, hR4, hG4⟩
      obtain ⟨cs, hb⟩ := HR.out.blk
      have HO4 := Lib.hid (HO.out.grown hG4 hb (by decide))
      have HR4 := Lib.hid hR4
      have HG4 := Lib.hid (HG.out.step hG4)
      have hsz := HG4.out.size
      clear hb hG4 hR4
      go_wp2_with (first | (at_builtin; refine wp_app_int rfl _ _ rfl w.heap.size (some ⟨g, 0, none⟩) j c l _ rfl HO4.out _ rfl (by omega) hsz ?_; intro g6 c6 w6 hO6 hg6))
      have hR6 : Rd w6 b (p + 1 + 1 + (j + 1)) := HR4.out.grown hg6 (fun d hd => by have := (own_block HO4.out d hd).1; omega)
      have hG6 : Gro b w w6 := HG4.out.step' HO4.out (Nat.le_refl _) hg6
      go_roundw
      case rel => exact ⟨j + 1, g6, c6, _, rfl, by omega, Lib.hid hO6, Lib.hid hR6, Lib.hid (fun v hv => by
        rcases List.mem_append.1 hv with hv | hv
        · exact HL.out v hv
        · rw [List.mem_singleton.1 hv]; omega), Lib.hid hG6⟩
      case measure => simp; omega
    · obtain rfl : j = N := by omega
      have hjn : ¬ (j : Int) < j := by omega
      have hj2 : 2 ≤ j := by omega
      go_wp2_with fail
      refine (pick_any b (p + 1 + 1 + j) 30 _ HR.out (by omega)).mono ?_
      rintro e w3 ⟨y, rfl, hy, hR3, hG3⟩
      obtain ⟨cs, hb⟩ := HR.out.blk
      have HO3 := Lib.hid (HO.out.grown hG3 hb (by decide))
      have HR3 := Lib.hid hR3
      have HX3 := Lib.hid (getD_le HL.out)
      have HG3 := Lib.hid (HG.out.step hG3)
      have hc := own_clip HO3.out
      have hc1 := hc.1
      have hc2 := hc.2
      clear hb hG3 hR3 hc HO HR HG
      by_cases h0 : y = 0
      · subst h0
        go_wp2_with fail
        refine (one_lit b (p + 1 + 1 + j + 1) [1, 6, 0] 0 6 _ _ _ _ (by decide) (by decide) (by decide) (by omega) HR3.out rfl rfl rfl).mono ?_
        rintro e w5 ⟨z, rfl, hz1, hz2, hR5, hG5⟩
        have HO5 := Lib.hid ((HO3.out.keeps (Keeps.alloc w3 (.cells ([1, 6, 0].map (Value.int .i64)).toArray 3))).grown hG5 (HR3.out.gro (Keeps.alloc w3 (.cells ([1, 6, 0].map (Value.int .i64)).toArray 3))).blk.choose_spec (by decide))
        have HG5 := Lib.hid ((HG3.out.step (Gro.ofKeeps (Keeps.alloc w3 (.cells ([1, 6, 0].map (Value.int .i64)).toArray 3)))).step hG5)
        have HR5 := Lib.hid hR5
        clear hR5 hG5
        go_wp2_with fail
        go_ret2
        exact ⟨z, _, j, c, _, rfl, HO5.out.ints, fun i _ => HX3.out i, hjb, ⟨_, by omega, HR5.out⟩, HG5.out⟩
      · have h0' : ((y : Int) == 0) = false := by simp; omega
        by_cases h1 : y = 1
        · subst h1
          go_wp2_with fail
          refine (one_any b (p + 1 + 1 + j + 1) (some ⟨w3.heap.size, 0, none⟩) 2 2 (fun i => [-1, k].getD i 0) _ (HR3.out.gro (Keeps.alloc w3 (.cells #[.int .i64 (-1), .int .i64 k] 3))) (by omega) (by omega) (by omega) (ints_lit w3 [-1, k]) (fun d off e => by cases e; have := HR3.out.lt; omega)).mono ?_
          rintro e w5 ⟨zi, hzi, rfl, hR5, hG5⟩
          obtain ⟨z, hz⟩ : ∃ z : Int, z = [-1, k].getD zi 0 := ⟨_, rfl⟩
          rw [← hz]
          have HO5 := Lib.hid ((HO3.out.keeps (Keeps.alloc w3 (.cells #[.int .i64 (-1), .int .i64 k] 3))).grown hG5 (HR3.out.gro (Keeps.alloc w3 (.cells #[.int .i64 (-1), .int .i64 k] 3))).blk.choose_spec (by decide))
          have HG5 := Lib.hid ((HG3.out.step (Gro.ofKeeps (Keeps.alloc w3 (.cells #[.int .i64 (-1), .int .i64 k] 3)))).step hG5)
          have HR5 := Lib.hid hR5
          have HZ : Hid (z ≤ 100) := Lib.hid (by rw [hz]; rcases zi with _ | _ | zi <;> simp [List.getD_eq_getElem?_getD] <;> omega)
          clear hz
          clear hR5 hG5
          have f0 := HO5.out.frozen 0
          have c0 := HO5.out.cell 0 (by omega)
          have hj0 : (0 : Int) < (j : Int) := by omega
          have hj0n : 0 < j := by omega
          go_wp2_with fail
          go_ret2
          exact ⟨k, _, j, c, _, rfl, (HO5.out.set 0 _).ints, fun i _ => getD_le (fun v hv => by
            rcases List.mem_or_eq_of_mem_set hv with h | h
            · exact HL.out v h
            · rw [h]; exact HZ.out) (by decide) i, hjb, ⟨_, by omega, HR5.out.set_other (by have := HO5.out.block.1; omega) _⟩, HG5.out.setAbove HO5.out.block.1 _⟩
        · have h1' : ((y : Int) == 1) = false := by simp; omega
          by_cases h2 : y = 2
          · subst h2
            go_wp2_with fail
            go_region
            all_goals go_wp2_with fail
            all_goals go_ret2
            all_goals exact ⟨k, _, 1, c, _, rfl, (frontD (HO3.out.ints) (by omega)).keeps (Keeps.drew1 _), fun i _ => HX3.out i, by omega, ⟨_, by omega, HR3.out.gro (Keeps.drew1 _)⟩, HG3.out.step (Gro.ofKeeps (Keeps.drew1 _))⟩
          · have h2' : ((y : Int) == 2) = false := by simp; omega
            go_wp2_with fail
            go_ret2
            exact ⟨k, _, j, c, _, rfl, HO3.out.ints, fun i _ => HX3.out i, hjb, ⟨_, by omega, HR3.out⟩, HG3.out⟩
end Go.Proofs.YtlniogfinofakaaGreatDoor
/-
  someMarks of the reference, with bounds. Condition: at most 1000 picks so far.
-/
namespace Go.Proofs.YtlniogfinofakaaGreatDoor
set_option maxRecDepth 100000
open Go.RowKit
set_option linter.unusedVariables false

theorem Gro.aboveD {b : Nat} {w0 w w' : World} {row : Option Nat} (h : Gro b w0 w) (hg : w.grownBy w' row) (hr : ∀ x, row = some x → w0.heap.size ≤ x) : Gro b w0 w' :=
  ⟨hg.os.trans h.os, hg.tape.trans h.tape, hg.output.trans h.output, Nat.le_trans h.size hg.size, fun i hi hn => (hg.block i (Nat.lt_of_lt_of_le hi h.size) (fun e => by have := hr i e.symm; omega)).trans (h.block i hi hn)⟩
theorem own_groD {w w' : World} {lo b n c : Nat} {A : Option Addr} {l : List Int} (h : OwnInts w lo A n c l) (g : Gro b w w') {p : Nat} (hr : Rd w b p) : OwnInts w' lo A n c l := by
  obtain ⟨cs, hb⟩ := hr.blk
  exact h.grown g hb (by decide)
/-- How far the next number is that a list does not have. -/
def freeIn (l : List Int) (k x : Nat) : Nat := leastN (fun j => !anyB (fun i => l.getD i 0 == (((x + j) % 21 : Nat) : Int)) k) 21
theorem leastN_le_at {p : Nat → Bool} {n k : Nat} (h : p k = true) : leastN p n ≤ k := by
  by_cases e : leastN p n ≤ k
  · exact e
  · have := leastN_before p n k (by omega)
    rw [h] at this
    cases this
theorem free_lt (l : List Int) (k x : Nat) (hk : k ≤ 20) : freeIn l k x < 21 := by
  by_cases e : freeIn l k x < 21
  · exact e
  · have hall : ∀ j, j < 21 → ∃ i, i < k ∧ l.getD i 0 = (((x + j) % 21 : Nat) : Int) := fun j hj => by
      have h1 := leastN_before (fun j => !anyB (fun i => l.getD i 0 == (((x + j) % 21 : Nat) : Int)) k) 21 j (by unfold freeIn at e; omega)
      have h2 : anyB (fun i => l.getD i 0 == (((x + j) % 21 : Nat) : Int)) k = true := by simpa using h1
      obtain ⟨i, hi, e2⟩ := (anyB_iff _ _).1 h2
      exact ⟨i, hi, by simpa using e2⟩
    have hf : ∃ f : Nat → Nat, ∀ j, j < 21 → f j < k ∧ l.getD (f j) 0 = (((x + j) % 21 : Nat) : Int) :=
      ⟨fun j => if h : j < 21 then (hall j h).choose else 0, fun j hj => by dsimp only; rw [dif_pos hj]; exact (hall j hj).choose_spec⟩
    obtain ⟨f, hf⟩ := hf
    have := pigeon k 21 f (fun i hi => (hf i hi).1) (fun i j hi hj he => by
      have h1 := (hf i hi).2
      have h2 := (hf j hj).2
      rw [he, h2] at h1
      omega)
    omega
theorem free_step (l : List Int) (k x : Nat) (hk : k ≤ 20) (hx : x < 21) (h : anyB (fun i => l.getD i 0 == (x : Int)) k = true) : freeIn l k ((x + 1) % 21) < freeIn l k x := by
  have hd := free_lt l k x hk
  have hat := leastN_at (fun j => !anyB (fun i => l.getD i 0 == (((x + j) % 21 : Nat) : Int)) k) 21 hd
  have h0 : freeIn l k x ≠ 0 := fun e => by
    have e' : leastN (fun j => !anyB (fun i => l.getD i 0 == (((x + j) % 21 : Nat) : Int)) k) 21 = 0 := e
    rw [e'] at hat
    simp only [Nat.add_zero, Nat.mod_eq_of_lt hx, h] at hat
    cases hat
  have hle : freeIn l k ((x + 1) % 21) ≤ freeIn l k x - 1 := by
    refine leastN_le_at ?_
    have e : ((x + 1) % 21 + (freeIn l k x - 1)) % 21 = (x + freeIn l k x) % 21 := by omega
    rw [e]
    exact hat
  omega
/-- Numbers under way. -/
structure MkB (b q k g c : Nat) (l : List Int) (w wx : World) : Prop where
  own : OwnInts wx w.heap.size (some ⟨g, 0, none⟩) k c l
  rd : Rd wx b q
  gro : Gro b w wx
theorem MkB.keeps {b q k g c : Nat} {l : List Int} {w wx wy : World} (h : MkB b q k g c l w wx) (kk : Keeps wx wy) : MkB b q k g c l w wy := ⟨h.own.keeps kk, h.rd.gro kk, h.gro.step (Gro.ofKeeps kk)⟩
theorem MkB.gro' {b q q' k g c : Nat} {l : List Int} {w wx wy : World} (h : MkB b q k g c l w wx) (gg : Gro b wx wy) (hr : Rd wy b q') : MkB b q' k g c l w wy := ⟨own_groD h.own gg h.rd, hr, h.gro.step gg⟩
def MarksGotD (b p j : Nat) (w : World) (e : Ending) (w' : World) : Prop :=
  ∃ (n q g c : Nat) (l : List Int), e = .returned (.slice (some ⟨g, 0, none⟩) n c) ∧ n ≤ 6 ∧ q ≤ p + j ∧ MkB b q n g c l w w' ∧ ∀ v ∈ l, v ≤ 100
set_option maxRecDepth 100000 in
set_option maxHeartbeats 8000000 in
theorem someMarksD_any (b p : Nat) (w : World) (h : Rd w b p) (hp : p ≤ 1000) :
    Calls Tryz.prog 21 #[.pointer (some ⟨b, 0, none⟩)] w (MarksGotD b p 20 w) := by
  have HR := Lib.hid h
  have hbw := h.lt
  clear h
  have HM0 : Hid (MkB b p 0 w.heap.size 0 [] w (w.alloc (.cells #[] 3))) := Lib.hid ⟨OwnInts.made w w.heap.size (Nat.le_refl _), HR.out.gro (Keeps.alloc _ _), Gro.ofKeeps (Keeps.alloc _ _)⟩
  clear HR
  go_enter Tryz.func21, Tryz.ntmps21
  go_wp2_with fail
  refine (one_lit b p [4, 5, 6, 3, 2, 1, 0] 0 6 _ _ _ _ (by decide) (by decide) (by decide) (by omega) HM0.out.rd rfl (by simp) rfl).mono ?_
  rintro e w1 ⟨n, rfl, hn0, hn6, hR1, hG1⟩
  obtain ⟨n, rfl⟩ := Int.eq_ofNat_of_zero_le hn0
  have HM1 := Lib.hid ((HM0.out.keeps (Keeps.alloc _ (.cells #[.int .i64 4, .int .i64 5, .int .i64 6, .int .i64 3, .int .i64 2, .int .i64 1, .int .i64 0] 3))).gro' hG1 hR1)
  clear HM0 hR1 hG1
  go_wp2_with fail
  go_loopw [3] (fun s wr => ∃ (k q g c : Nat) (l : List Int), k ≤ n ∧ s = .slice (some ⟨g, 0, none⟩) k c ∧ q = p + 1 + k ∧ Hid (MkB b q k g c l w wr) ∧ Hid (∀ v ∈ l, v ≤ 100)) (fun s _ => n - (match s with | .slice _ k _ => k | _ => 0))
  case atStart => exact ⟨0, p + 1, _, 0, [], by omega, rfl, by omega, HM1, Lib.hid (fun v hv => absurd hv List.not_mem_nil)⟩
  case round =>
    clear HM1
    obtain ⟨k, q, g, c, l, hk, rfl, rfl, HM, HL⟩ := hrel
    have hkc := own_clip HM.out.own
    have hkc1 := hkc.1
    have hc63 := hkc.2
    by_cases hlt : k < n
    · have hki : (k : Int) < n := by omega
      go_wp2_with fail
      refine (pick_any b (p + 1 + k) 21 _ HM.out.rd (by omega)).mono ?_
      rintro e w2 ⟨x, rfl, hx, hR2, hG2⟩
      have HM2 := Lib.hid (HM.out.gro' hG2 hR2)
      have hx21 : x < 21 := by omega
      clear HM hR2 hG2 hx
      go_wp2_with fail
      go_loop [5] (fun i => ∃ y : Nat, y < 21 ∧ i = .int .i64 y) (fun i => freeIn l k (intOf i).toNat)
      case atStart => exact ⟨x, hx21, rfl⟩
      case round =>
        clear hx21
        obtain ⟨y, hy, rfl⟩ := hrel
        have CH := Lib.hid (fun w' (kk : Keeps w2 w') => hasMark_any (some ⟨g, 0, none⟩) k c (fun i => l.getD i 0) (y : Int) w' (by omega) ((HM2.out.own.keeps kk).ints))
        have HST := Lib.hid (free_step l k y (by omega) hy)
        cases hh : anyB (fun i => l.getD i 0 == (y : Int)) k
        · rw [hh] at CH
          clear hh HST
          go_wp2_with (first | (go_at_call 49; refine (CH.out _ (Keeps.refl _)).mono ?_; rintro e w3 ⟨rfl, rfl⟩) | (at_builtin; refine wp_app_int rfl _ _ rfl w.heap.size (some ⟨g, 0, none⟩) k c l _ rfl HM2.out.own _ rfl (by omega) HM2.out.gro.size ?_; intro g6 c6 w6 hO6 hg6))
          have HM6 : Hid (MkB b (p + 1 + (k + 1)) (k + 1) g6 c6 (l ++ [(y : Int)]) w w6) := Lib.hid ⟨hO6, HM2.out.rd.grown hg6 (fun d hd => by have := (own_block HM2.out.own d hd).1; omega), HM2.out.gro.aboveD hg6 (fun d hd => (own_block HM2.out.own d hd).1)⟩
          clear hO6 hg6
          go_wp2_with fail
          go_roundw
          case rel => exact ⟨k + 1, p + 1 + (k + 1), g6, c6, _, by omega, rfl, by omega, HM6, Lib.hid (fun v hv => by
            rcases List.mem_append.1 hv with hv | hv
            · exact HL.out v hv
            · rw [List.mem_singleton.1 hv]; omega)⟩
          case measure => show n - (k + 1) < n - k; omega
        · rw [hh] at CH
          have HST2 := Lib.hid (HST.out hh)
          have hy1 : (y : Int) + 1 ≤ 21 := by omega
          have hy0 : (0 : Int) ≤ (y : Int) + 1 := by omega
          clear hh HST
          go_wp2_with (first | (go_at_call 49; refine (CH.out _ (Keeps.refl _)).mono ?_; rintro e w3 ⟨rfl, rfl⟩))
          go_round
          case rel => exact ⟨(y + 1) % 21, Nat.mod_lt _ (by omega), by simp⟩
          case measure =>
            have e1 : (intOf (.int .i64 (((y : Int) + 1) % 21))).toNat = (y + 1) % 21 := by simp [intOf]; omega
            have e2 : (intOf (.int .i64 (y : Int))).toNat = y := by simp [intOf]
            rw [e1, e2]
            exact HST2.out
    · obtain rfl : k = n := by omega
      by_cases hk0 : k = 0
      · subst hk0
        have hg0 : decide ((0 : Int) < ((0 : Nat) : Int)) = false := by decide
        go_wp2
        go_ret
        exact ⟨0, _, g, c, l, rfl, by omega, by omega, HM.out, HL.out⟩
      · have hk1 : (0 : Int) < (k : Int) := by omega
        have hk1n : 0 < k := by omega
        have hkl : (k : Int) - 1 < k := by omega
        have hkl0 : (0 : Int) ≤ (k : Int) - 1 := by omega
        clear hk0
        go_wp2_with fail
        refine (pick_any b (p + 1 + k) 16 _ HM.out.rd (by omega)).mono ?_
        rintro e w2 ⟨x, rfl, hx, hR2, hG2⟩
        have HM2 := Lib.hid (HM.out.gro' hG2 hR2)
        clear HM hR2 hG2 hx
        by_cases hx0 : x = 0
        · subst hx0
          have hcl := HM2.out.own.cell (k - 1) (by omega)
          have hidx : ((k : Int) - 1).toNat = k - 1 := by omega
          have hgl := HM2.out.own.block.2
          have HZ := Lib.hid (getD_le HL.out (by decide) (k - 1))
          generalize l.getD (k - 1) 0 = z at *
          go_wp2_with fail
          refine (one_lit b (p + 1 + k + 1) [-1, 21, z] (min (-1) z) (max 21 z) _ _ _ _ (fun x hx => by simp at hx; omega) (by simp) (by simp) (by omega) HM2.out.rd rfl (by simp) rfl).mono ?_
          rintro e w3 ⟨v, rfl, _, hv2, hR3, hG3⟩
          have HV2 : Hid (v ≤ 100) := Lib.hid (by have := HZ.out; omega)
          clear hv2
          have HM3 := Lib.hid ((HM2.out.keeps (Keeps.alloc w2 (.cells #[.int .i64 (-1), .int .i64 21, .int .i64 z] 3))).gro' hG3 hR3)
          have hc0 := HM3.out.own.cell 0 hk1n
          have hf0 := HM3.out.own.frozen 0
          have hgb := HM3.out.own.block
          have HM4 : Hid (MkB b (p + 1 + k + 1 + 1) k g c (l.set 0 v) w (w3.setCell ⟨g, 0, none⟩ (.int .i64 v))) := Lib.hid ⟨HM3.out.own.set 0 v, HM3.out.rd.set_other (by omega) _, HM3.out.gro.setAbove hgb.1 _⟩
          clear hR3 hG3 hgb hidx
          go_wp2
          go_ret
          exact ⟨k, _, g, c, _, rfl, by omega, by omega, HM4.out, fun v' hv => by
            rcases List.mem_or_eq_of_mem_set hv with h | h
            · exact HL.out v' h
            · rw [h]; exact HV2.out⟩
        · have hx0' : ((x : Int) == 0) = false := by simp; omega
          clear hx0
          go_wp2
          go_ret
          exact ⟨k, _, g, c, l, rfl, by omega, by omega, HM2.out, HL.out⟩
end Go.Proofs.YtlniogfinofakaaGreatDoor
