/-
  The arguments that are drawn for DoesMend and WorstMoves, and TokensOf and MoveOf of the program. Conditions: bounds on lengths.
-/
import Derived.Test.YtpgipkcbdppplaaDraw
import Derived.Test.YtpgipkcbdppplaaTokK
import Derived.Deep.CutBlock
import Derived.Deep.DeepCutAuto
namespace Go.Proofs.Ytpgipkcbdppplaa
set_option linter.unusedVariables false
open Go.RowKit

set_option maxHeartbeats 1000000 in
theorem drawDoesMend_any (a : Option Addr) (n c : Nat) (w : World) (hB : Bytes w w.heap.size a n) (hn : n ≤ 1099511627776) (hc : n ≤ c) (hc2 : c ≤ 9223372036854775807) :
    Calls Try.prog 16 #[.slice a n c] w fun e w' => ∃ k m : Int, e = .returned (.tuple #[.int .i64 k, .int .i64 m]) ∧ 1 ≤ k ∧ k ≤ 6 ∧ 1 ≤ m ∧ m ≤ 6 ∧ Keeps w w' := by
  have HB := Lib.hid hB
  clear hB
  go_enter Try.func16, Try.ntmps16
  go_wp2_with fail
  refine (newReader_any a n c _ HB.out hn hc hc2).mono ?_
  rintro e w1 ⟨b, rfl, hR1, hb1, hK1⟩
  have HR1 := Lib.hid hR1
  have HK1 := Lib.hid hK1
  clear hR1 hK1
  go_wp2_with fail
  refine (one_lit b 0 [3, 2, 4, 5, 1, 6] 1 6 _ _ _ _ (by decide) (by decide) (by decide) (by omega) HR1.out rfl rfl rfl).mono ?_
  rintro e w2 ⟨x, rfl, hx1, hx2, hR2, hG2⟩
  have HR2 := Lib.hid hR2
  have HK2 := Lib.hid (hG2.keeps (HK1.out.step (Keeps.alloc w1 _)) hb1)
  clear hR2 hG2
  go_wp2_with fail
  refine (one_lit b 1 [3, 2, 4, 5, 1, 6] 1 6 _ _ _ _ (by decide) (by decide) (by decide) (by omega) HR2.out rfl rfl rfl).mono ?_
  rintro e w3 ⟨y, rfl, hy1, hy2, hR3, hG3⟩
  have HK3 := Lib.hid (hG3.keeps (HK2.out.step (Keeps.alloc w2 _)) hb1)
  clear hR3 hG3
  go_wp2_with fail
  go_ret2
  exact ⟨x, y, rfl, hx1, hx2, hy1, hy2, HK3.out⟩
/-- What is drawn as states of a ring: some number, and up to five numbers in new memory. -/
def TokDrawn (b : Nat) (w : World) (e : Ending) (w' : World) : Prop :=
  ∃ (k : Int) (A : Option Addr) (n c : Nat) (x : Nat → Int), e = .returned (.tuple #[.int .i64 k, .slice A n c]) ∧ Ints w' A n x ∧ n ≤ 5 ∧ Gro b w w'
theorem Ints.front {w : World} {A : Option Addr} {n m : Nat} {x : Nat → Int} (h : Ints w A n x) (hm : m ≤ n) : Ints w A m x := fun i hi => h i (by omega)
set_option maxRecDepth 100000 in
set_option maxHeartbeats 4000000 in
theorem someTokens_any (b : Nat) (w : World) (h : Rd w b 0) :
    Calls Try.prog 29 #[.pointer (some ⟨b, 0, none⟩)] w (TokDrawn b w) := by
  have HR := Lib.hid h
  have hbw := h.lt
  clear h
  go_enter Try.func29, Try.ntmps29
  go_wp2_with fail
  refine (one_lit b 0 [3, 4, 5, 2, 3] 2 5 _ _ _ _ (by decide) (by decide) (by decide) (by omega) HR.out rfl rfl rfl).mono ?_
  rintro e w1 ⟨k, rfl, hk1, hk2, hR1, hG1⟩
  have HR1 := Lib.hid hR1
  have HG1 := Lib.hid ((Gro.ofKeeps (Keeps.alloc w (.cells ([3, 4, 5, 2, 3].map (Value.int .i64)).toArray 3))).step hG1)
  clear hR1 hG1
  have HO1 : Hid (OwnInts (w1.alloc (.cells #[] 3)) w.heap.size (some ⟨w1.heap.size, 0, none⟩) 0 0 []) := Lib.hid (OwnInts.made w1 w.heap.size HG1.out.size)
  go_wp2_with fail
  refine (one_lit b 1 [3, 4, 2, 5, 3] 2 5 _ _ _ _ (by decide) (by decide) (by decide) (by omega) (HR1.out.gro (Keeps.alloc w1 (.cells #[] 3))) rfl (by simp) rfl).mono ?_
  rintro e w2 ⟨N, rfl, hN1, hN2, hR2, hG2⟩
  obtain ⟨N, rfl⟩ := Int.eq_ofNat_of_zero_le (show 0 ≤ N by omega)
  have HR2 := Lib.hid hR2
  have HO2 : Hid (OwnInts w2 w.heap.size (some ⟨w1.heap.size, 0, none⟩) 0 0 []) := Lib.hid (by
    have h1 := HO1.out.keeps (Keeps.alloc (w1.alloc (.cells #[] 3)) (.cells ([3, 4, 2, 5, 3].map (Value.int .i64)).toArray 3))
    obtain ⟨cs, hb⟩ := (((HR1.out.gro (Keeps.alloc w1 (.cells #[] 3))).gro (Keeps.alloc (w1.alloc (.cells #[] 3)) (.cells ([3, 4, 2, 5, 3].map (Value.int .i64)).toArray 3)))).blk
    exact h1.grown hG2 hb (by decide))
  have HG2 := Lib.hid ((HG1.out.step (Gro.ofKeeps ((Keeps.alloc w1 (.cells #[] 3)).step (Keeps.alloc _ (.cells ([3, 4, 2, 5, 3].map (Value.int .i64)).toArray 3))))).step hG2)
  clear hR2 hG2 HO1 HG1 HR1
  go_wp2_with fail
  go_loopw [5] (fun v wr => ∃ (j g c : Nat) (l : List Int), v = .slice (some ⟨g, 0, none⟩) j c ∧ j ≤ N ∧ Hid (OwnInts wr w.heap.size (some ⟨g, 0, none⟩) j c l) ∧ Hid (Rd wr b (2 + j)) ∧ Hid (Gro b w wr)) (fun v _ => match v with | .slice _ j _ => N - j | _ => 0)
  case atStart => exact ⟨0, w1.heap.size, 0, [], rfl, by omega, HO2, HR2, HG2⟩
  case round =>
    clear HO2 HR2 HG2
    obtain ⟨j, g, c, l, rfl, hj, HO, HR, HG⟩ := hrel
    have hjb : j ≤ 5 := by omega
    by_cases hlt : j < N
    · have hji : (j : Int) < N := by omega
      go_wp2_with fail
      refine (pick_any b (2 + j) k _ HR.out (by omega)).mono ?_
      rintro e w4 ⟨x, rfl, hx, hR4, hG4⟩
      obtain ⟨cs, hb⟩ := HR.out.blk
      have HO4 := Lib.hid (HO.out.grown hG4 hb (by decide))
      have HR4 := Lib.hid hR4
      have HG4 := Lib.hid (HG.out.step hG4)
      have hsz := HG4.out.size
      clear hb hG4 hR4
      go_wp2_with (first | (at_builtin; refine wp_app_int rfl _ _ rfl w.heap.size (some ⟨g, 0, none⟩) j c l _ rfl HO4.out _ rfl (by omega) hsz ?_; intro g6 c6 w6 hO6 hg6))
      have hR6 : Rd w6 b (2 + (j + 1)) := HR4.out.grown hg6 (fun d hd => by have := (own_block HO4.out d hd).1; omega)
      have hG6 : Gro b w w6 := HG4.out.step' HO4.out (Nat.le_refl _) hg6
      go_roundw
      case rel => exact ⟨j + 1, g6, c6, _, rfl, by omega, Lib.hid hO6, Lib.hid hR6, Lib.hid hG6⟩
      case measure => simp; omega
    · obtain rfl : j = N := by omega
      have hjn : ¬ (j : Int) < j := by omega
      have hj2 : 2 ≤ j := by omega
      go_wp2_with fail
      refine (pick_any b (2 + j) 30 _ HR.out (by omega)).mono ?_
      rintro e w3 ⟨y, rfl, hy, hR3, hG3⟩
      obtain ⟨cs, hb⟩ := HR.out.blk
      have HO3 := Lib.hid (HO.out.grown hG3 hb (by decide))
      have HR3 := Lib.hid hR3
      have HG3 := Lib.hid (HG.out.step hG3)
      have hc := own_clip HO3.out
      have hc1 := hc.1
      have hc2 := hc.2
      clear hb hG3 hR3 hc HO HR HG
      by_cases h0 : y = 0
      · subst h0
        go_wp2_with fail
        refine (one_lit b (2 + j + 1) [1, 6, 0] 0 6 _ _ _ _ (by decide) (by decide) (by decide) (by omega) HR3.out rfl rfl rfl).mono ?_
        rintro e w5 ⟨z, rfl, hz1, hz2, hR5, hG5⟩
        have HO5 := Lib.hid ((HO3.out.keeps (Keeps.alloc w3 (.cells ([1, 6, 0].map (Value.int .i64)).toArray 3))).grown hG5 (HR3.out.gro (Keeps.alloc w3 (.cells ([1, 6, 0].map (Value.int .i64)).toArray 3))).blk.choose_spec (by decide))
        have HG5 := Lib.hid ((HG3.out.step (Gro.ofKeeps (Keeps.alloc w3 (.cells ([1, 6, 0].map (Value.int .i64)).toArray 3)))).step hG5)
        clear hR5 hG5
        go_wp2_with fail
        go_ret2
        exact ⟨z, _, j, c, _, rfl, HO5.out.ints, hjb, HG5.out⟩
      · have h0' : ((y : Int) == 0) = false := by simp; omega
        by_cases h1 : y = 1
        · subst h1
          go_wp2_with fail
          refine (one_any b (2 + j + 1) (some ⟨w3.heap.size, 0, none⟩) 2 2 (fun i => [-1, k].getD i 0) _ (HR3.out.gro (Keeps.alloc w3 (.cells #[.int .i64 (-1), .int .i64 k] 3))) (by omega) (by omega) (by omega) (ints_lit w3 [-1, k]) (fun d off e => by cases e; have := HR3.out.lt; omega)).mono ?_
          rintro e w5 ⟨zi, hzi, rfl, hR5, hG5⟩
          obtain ⟨z, hz⟩ : ∃ z : Int, z = [-1, k].getD zi 0 := ⟨_, rfl⟩
          rw [← hz]
          clear hz
          have HO5 := Lib.hid ((HO3.out.keeps (Keeps.alloc w3 (.cells #[.int .i64 (-1), .int .i64 k] 3))).grown hG5 (HR3.out.gro (Keeps.alloc w3 (.cells #[.int .i64 (-1), .int .i64 k] 3))).blk.choose_spec (by decide))
          have HG5 := Lib.hid ((HG3.out.step (Gro.ofKeeps (Keeps.alloc w3 (.cells #[.int .i64 (-1), .int .i64 k] 3)))).step hG5)
          clear hR5 hG5
          have f0 := HO5.out.frozen 0
          have c0 := HO5.out.cell 0 (by omega)
          have hj0 : (0 : Int) < (j : Int) := by omega
          have hj0n : 0 < j := by omega
          go_wp2_with fail
          go_ret2
          exact ⟨k, _, j, c, _, rfl, (HO5.out.set 0 _).ints, hjb, HG5.out.setAbove HO5.out.block.1 _⟩
        · have h1' : ((y : Int) == 1) = false := by simp; omega
          by_cases h2 : y = 2
          · subst h2
            go_wp2_with fail
            go_region
            all_goals go_wp2_with fail
            all_goals go_ret2
            all_goals exact ⟨k, _, 1, c, _, rfl, ((HO3.out.ints).front (by omega)).keeps (Keeps.drew1 _), by omega, HG3.out.step (Gro.ofKeeps (Keeps.drew1 _))⟩
          · have h2' : ((y : Int) == 2) = false := by simp; omega
            go_wp2_with fail
            go_ret2
            exact ⟨k, _, j, c, _, rfl, HO3.out.ints, hjb, HG3.out⟩
theorem drawWorstMoves_any (a : Option Addr) (n c : Nat) (w : World) (hB : Bytes w w.heap.size a n) (hn : n ≤ 1099511627776) (hc : n ≤ c) (hc2 : c ≤ 9223372036854775807) :
    Calls Try.prog 13 #[.slice a n c] w fun e w' => ∃ (k : Int) (A : Option Addr) (m d : Nat) (x : Nat → Int), e = .returned (.tuple #[.int .i64 k, .slice A m d]) ∧ Ints w' A m x ∧ m ≤ 5 ∧ Keeps w w' := by
  have HB := Lib.hid hB
  clear hB
  go_enter Try.func13, Try.ntmps13
  go_wp2_with fail
  refine (newReader_any a n c _ HB.out hn hc hc2).mono ?_
  rintro e w1 ⟨b, rfl, hR1, hb1, hK1⟩
  have HR1 := Lib.hid hR1
  have HK1 := Lib.hid hK1
  clear hR1 hK1
  go_wp2_with fail
  refine (someTokens_any b w1 HR1.out).mono ?_
  rintro e w2 ⟨k, A, m, d, x, rfl, hI, hm, hG⟩
  have HI := Lib.hid hI
  have HK2 := Lib.hid (hG.keeps HK1.out hb1)
  clear hI hG
  go_wp2_with fail
  go_ret2
  exact ⟨k, A, m, d, x, rfl, HI.out, hm, HK2.out⟩
theorem tokensOf_any (a : Option Addr) (k n c : Nat) (s : Nat → Nat) (w : World) (hT : TokS k n s) (hI : Ints w a n (nf s)) (hok : tokOkB k n (nf s) = true) :
    Calls Try.prog 14 #[.int .i64 k, .slice a n c] w (TokAns n s w) := by
  have HI := Lib.hid hI
  have HT := Lib.hid hT
  have HOK := Lib.hid hok
  have hn5 := hT.n5
  clear hI hT hok
  go_enter Try.func14, Try.ntmps14
  go_wp2_with fail
  refine (validTokens_any k a n c (nf s) w (by omega) HI.out).mono ?_
  rintro e w1 ⟨rfl, hk1⟩
  rw [HOK.out]
  have HK1 := Lib.hid hk1
  clear hk1
  go_wp2_with fail
  refine (itokens_any a n c s w1 HT.out.n2 HT.out.n5 (HI.out.keeps HK1.out)).mono ?_
  rintro e w2 ⟨g, c2, rfl, hI2, hc1, hc2, hg, hk2⟩
  have HI2 := Lib.hid hI2
  have HK2 := Lib.hid hk2
  have HC := Lib.hid (And.intro hc1 (And.intro hc2 hg))
  clear hI2 hk2 hc1 hc2 hg
  go_wp2_with fail
  go_ret
  exact ⟨g, c2, rfl, HI2.out, HC.out.1, HC.out.2.1, Nat.le_trans HK1.out.size HC.out.2.2, HK1.out.step HK2.out⟩
theorem moveOf_any (a : Option Addr) (k n c i : Nat) (s : Nat → Nat) (w : World) (hT : TokS k n s) (hi : i < n) (ht : tokB n s i = true) (hI : Ints w a n (nf s)) (hok : tokOkB k n (nf s) = true) :
    Calls Try.prog 15 #[.int .i64 k, .slice a n c, .int .i64 i] w fun e w' => ∃ g : Nat, e = .returned (.tuple #[.slice (some ⟨g, 0, none⟩) n n, .bool true]) ∧ Ints w' (some ⟨g, 0, none⟩) n (nf (movF k s i)) ∧ Keeps w w' := by
  have HI := Lib.hid hI
  have HT := Lib.hid hT
  have HOK := Lib.hid hok
  have HTI := Lib.hid ht
  have hn5 := hT.n5
  clear hI hT hok ht
  go_enter Try.func15, Try.ntmps15
  go_wp2_with fail
  refine (validTokens_any k a n c (nf s) w (by omega) HI.out).mono ?_
  rintro e w1 ⟨rfl, hk1⟩
  rw [HOK.out]
  have HK1 := Lib.hid hk1
  clear hk1
  go_wp2_with fail
  refine (itokens_any a n c s w1 HT.out.n2 HT.out.n5 (HI.out.keeps HK1.out)).mono ?_
  rintro e w2 ⟨g, c2, rfl, hI2, hc1, hc2, hg, hk2⟩
  have HI2 := Lib.hid hI2
  have HK2 := Lib.hid (HK1.out.step hk2)
  have HB := Lib.hid (tks_bd (n := n) (s := s) n)
  have HAN : Hid (anyB (fun j => (i : Int) == (((tks n s n).getD j 0 : Nat) : Int)) (tks n s n).length = true) := Lib.hid (by
    rw [anyB_iff]
    obtain ⟨j, hj, e⟩ := List.getElem_of_mem ((tks_mem n s i).2 ⟨hi, HTI.out⟩)
    exact ⟨j, hj, by rw [List.getD_eq_getElem?_getD, List.getElem?_eq_getElem hj, Option.getD_some, e]; simp⟩)
  clear hI2 hk2 hc1 hc2 hg
  generalize (tks n s n).length = L at *
  go_wp2_with fail
  refine (slContains_any (some ⟨g, 0, none⟩) L c2 _ (i : Int) w2 (by have := HB.out; omega) HI2.out).mono ?_
  rintro e w3 ⟨rfl, rfl⟩
  rw [HAN.out]
  go_wp2_with fail
  refine (moved_any a k n c i s w2 HT.out hi (HI.out.keeps HK2.out)).mono ?_
  rintro e w4 ⟨g4, rfl, hI4, hg4, hk4⟩
  have HI4 := Lib.hid hI4
  have HK4 := Lib.hid (HK2.out.step hk4)
  clear hI4 hk4
  go_wp2_with fail
  go_ret2
  exact ⟨g4, rfl, HI4.out, HK4.out⟩
end Go.Proofs.Ytpgipkcbdppplaa
