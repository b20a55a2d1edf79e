/-
  The walk of FnRulesOf: whatever the code is, it returns true, and nothing that was there turns. No condition.
-/
import Derived.Test.YtaejakejnllimaaRulesQ
import Derived.Test.YtaejakejnllimaaVerdTab
import Derived.Test.YtaejakejnllimaaWrapV
import Derived.Test.YtaejakejnllimaaCrnEq
namespace Go.Proofs.Ytaejakejnllimaa
set_option linter.unusedVariables false
set_option maxRecDepth 100000
open Go.RowKit

theorem crnTab {w : World} {lo n : Nat} {A : Option Addr} {R : List Hdr} {F : Nat → Nat → Int} (h : Crn w lo A n R) (ht : R.map (·.l) = tabK n F n) : Rows w A n (hdrR R) F ∧ ∀ i, i < n → (hdrR R i).2.1 = n := by
  have hl : ∀ i, i < n → (hdrR R i).2.1 = n := fun i hi => by
    unfold hdrR
    dsimp only
    rw [tabK_at ht hi, il_len]
  refine ⟨fun i hi => ?_, hl⟩
  obtain ⟨h1, h2⟩ := h.rowsQ i hi
  refine ⟨h1, h2.congr (fun j hj => ?_)⟩
  rw [hl i hi] at hj
  unfold numR
  rw [tabK_at ht hi, il_getD _ _ _ hj]
/-- Rules as the program made them. -/
theorem toldRul {w W : World} {n : Nat} {l : List Int} {F G : Nat → Nat → Int} {S A B : Option Addr} {R1 R2 : List Hdr} (hn : n ≤ 4) (h1 : R1.map (·.l) = tabK n F n) (h2 : R2.map (·.l) = tabK n G n) (h3 : Ints W S n (lsI l)) {lo : Nat} (h4 : Crn W lo A n R1) (h5 : Crn W lo B n R2) : RulAt W S n (lsI l) A n (hdrR R1) F B n (hdrR R2) G :=
  ⟨h3, (crnTab h4 h1).1, (crnTab h5 h2).1, by omega, by omega, by omega, fun i hi => by rw [(crnTab h4 h1).2 i hi]; omega, fun i hi => by rw [(crnTab h5 h2).2 i hi]; omega⟩
theorem below3 {a : Nat} (h : a < 3) : a = 0 ∨ a = 1 ∨ a = 2 := by omega
set_option maxHeartbeats 16000000 in
theorem FnRulesOf_walk (a : Option Addr) (n c : Nat) (w : World) (hB : Bytes w w.heap.size a n) (hc : n ≤ c) (hc2 : c ≤ 9223372036854775807) :
    Calls Try.prog 5 #[.slice a n c] w fun e w' => e = .returned (.bool true) ∧ Keeps w w' := by
  have HB := Lib.hid hB
  clear hB
  by_cases hn : 1048576 < n
  · go_enter Try.func5, Try.ntmps5
    go_wp2
    go_ret
    exact ⟨rfl, Keeps.refl _⟩
  · go_enter Try.func5, Try.ntmps5
    go_wp2_with fail
    refine (drawRulesOf_any a n c _ HB.out (by omega) hc hc2).mono ?_
    rintro e w1 ⟨v, rfl, hv, hk1⟩
    have HK1 := Lib.hid hk1
    clear hk1 HB
    rcases hv with rfl | rfl | rfl | rfl | rfl
    · as_aux_lemma =>
      go_wp2_with fail
      refine (iRulesOf_some w1).mono ?_
      rintro e w2 ⟨S, A, B, R1, R2, rfl, ht1, ht2, hi, hc1, hc2', hk2⟩
      have HT := Lib.hid (And.intro ht1 ht2)
      have HI := Lib.hid hi
      have HC1 := Lib.hid hc1
      have HC2 := Lib.hid hc2'
      have HK2 := Lib.hid (HK1.out.step hk2)
      have HBX := Lib.hid (Blk.new w2 #[.slice S 2 2, .slice A 2 2, .slice B 2 2] 26)
      have HK3 := Lib.hid (Keeps.alloc w2 (.cells #[.slice S 2 2, .slice A 2 2, .slice B 2 2] 26))
      clear ht1 ht2 hi hc1 hc2' hk2 HK1
      go_wp2_with fail
      generalize (w2.alloc (.cells #[.slice S 2 2, .slice A 2 2, .slice B 2 2] 26)) = w3 at *
      refine (sRulesOf_of _ 2 [0, 1] (lsII [[0, 1], [1, 1]]) (lsII [[0, 1], [1, 1]]) rulesOf_some w3).mono ?_
      rintro e w4 ⟨S', A', B', rA, rB, rfl, hat, hla, hlb, hk4⟩
      have HAT := Lib.hid hat
      have HL := Lib.hid (And.intro hla hlb)
      have HK4 := Lib.hid (HK3.out.step hk4)
      have HB4 := Lib.hid (HBX.out.keeps hk4)
      have x0 : w4.cell? ⟨w2.heap.size, 0, none⟩ = some (.slice S 2 2) := HB4.out.cell 0
      have x1 : w4.cell? ⟨w2.heap.size, 1, none⟩ = some (.slice A 2 2) := HB4.out.cell 1
      have x2 : w4.cell? ⟨w2.heap.size, 2, none⟩ = some (.slice B 2 2) := HB4.out.cell 2
      have hxz := HB4.out.lt
      have HE := Lib.hid (eqRules_true S A B S' A' B' 2 2 2 2 2 2 2 (lsI [0, 1]) (hdrR R1) (hdrR R2) rA rB (lsII [[0, 1], [1, 1]]) (lsII [[0, 1], [1, 1]]) (lsII [[0, 1], [1, 1]]) (lsII [[0, 1], [1, 1]]) (w4.alloc (.cells #[.slice S' 2 2, .slice A' 2 2, .slice B' 2 2] 26)) (by omega) (HI.out.keeps (HK4.out.step (Keeps.alloc _ _))) (crnTab (HC1.out.keeps (HK4.out.step (Keeps.alloc _ _))) HT.out.1).1 (crnTab (HC2.out.keeps (HK4.out.step (Keeps.alloc _ _))) HT.out.2).1 (HAT.out.says.keeps (Keeps.alloc _ _)) (HAT.out.first.keeps (Keeps.alloc _ _)) (HAT.out.second.keeps (Keeps.alloc _ _)) (fun i hi => ⟨(crnTab HC1.out HT.out.1).2 i hi, (crnTab HC2.out HT.out.2).2 i hi, HL.out.1 i hi, HL.out.2 i hi⟩) (fun _ _ _ _ => ⟨rfl, rfl⟩))
      have HK5 := Lib.hid (HK4.out.step (Keeps.alloc w4 (.cells #[.slice S' 2 2, .slice A' 2 2, .slice B' 2 2] 26)))
      have HB5 := Lib.hid (HB4.out.keeps (Keeps.alloc w4 (.cells #[.slice S' 2 2, .slice A' 2 2, .slice B' 2 2] 26)))
      clear hat hla hlb hk4 HBX HK3 HAT HL HB4
      go_wp2_with fail
      generalize (w4.alloc (.cells #[.slice S' 2 2, .slice A' 2 2, .slice B' 2 2] 26)) = w5 at *
      clear x0 x1 x2 hxz HK4
      refine HE.out.mono ?_
      rintro e w6 ⟨rfl, hk6⟩
      have HK6 := Lib.hid (HK5.out.step hk6)
      have HB6 := Lib.hid (HB5.out.keeps hk6)
      have HR := Lib.hid (fun (W : World) (hK : Keeps w6 W) => toldRul (w := w) (W := W) (by omega) HT.out.1 HT.out.2 (HI.out.keeps (HK6.out.step hK)) (HC1.out.keeps (HK6.out.step hK)) (HC2.out.keeps (HK6.out.step hK)))
      have HLN := Lib.hid (And.intro (crnTab HC1.out HT.out.1).2 (crnTab HC2.out HT.out.2).2)
      clear hk6 HE HB5 HK5 HT HI HC1 HC2
      go_wp2_with fail
      go_loopw [8] (fun i wr => (i = .int .i64 0 ∨ i = .int .i64 1 ∨ i = .int .i64 2 ∨ i = .int .i64 3) ∧ Hid (Keeps w6 wr)) (fun i _ => 3 - (intOf i).toNat)
      case atStart => exact ⟨.inl rfl, Lib.hid (Keeps.refl _)⟩
      case round =>
        obtain ⟨hi, HKR⟩ := hrel
        rcases hi with rfl | rfl | rfl | rfl
        · as_aux_lemma =>
          go_wp2_with fail
          go_loopw [9] (fun i wr => (i = .int .i64 0 ∨ i = .int .i64 1 ∨ i = .int .i64 2 ∨ i = .int .i64 3 ∨ i = .int .i64 4) ∧ Hid (Keeps w6 wr)) (fun i _ => 4 - (intOf i).toNat)
          case atStart => exact ⟨.inl rfl, HKR⟩
          case round =>
            clear HKR
            obtain ⟨hi, HKR⟩ := hrel
            have hmk : ∀ w : World, (Instr.makeSlice 23 (.int .i64 2) (.int .i64 2)).run Try.prog w = .ok (.slice (some ⟨w.heap.size, 0, none⟩) 2 2) (w.alloc (.cells (madeCells #[.int .i64 0] 2) 3)) := make_ints 2 (by omega)
            have hm0 : (madeCells #[Value.int .i64 0] 2)[0]? = some (.int .i64 0) := by rw [← Array.getElem?_toList, toList_madeCells_one]; rfl
            have hm1 : (madeCells #[Value.int .i64 0] 2)[1]? = some (.int .i64 0) := by rw [← Array.getElem?_toList, toList_madeCells_one]; rfl
            have x0 : wr.cell? ⟨w2.heap.size, 0, none⟩ = some (.slice S 2 2) := (HB6.out.keeps HKR.out).cell 0
            rcases hi with rfl | rfl | rfl | rfl | rfl
            · go_wp2_with fail
              go_roundw
              case rel => exact ⟨by simp, HKR⟩
              case measure => first | (simp [intOf]; done) | (simp [intOf]; omega)
            · as_aux_lemma =>
              have HKS := Lib.hid (Keeps.alloc wr (.cells (((madeCells #[.int .i64 0] 2).setIfInBounds 0 (.int .i64 0)).setIfInBounds 1 (.int .i64 1)) 3))
              have HOL : Hid (Ints (wr.alloc (.cells (((madeCells #[.int .i64 0] 2).setIfInBounds 0 (.int .i64 0)).setIfInBounds 1 (.int .i64 1)) 3)) (some ⟨wr.heap.size, 0, none⟩) 2 (lsI [0, 1])) := Lib.hid (by
                have hcc : (((madeCells #[.int .i64 0] 2).setIfInBounds 0 (.int .i64 0)).setIfInBounds 1 (.int .i64 1)) = (List.map (Value.int .i64) [0, 1]).toArray := Array.ext' (by rw [Array.toList_setIfInBounds, Array.toList_setIfInBounds, toList_madeCells_one]; rfl)
                rw [hcc]
                exact ints_of (Blk.new wr _ _))
              have HO := Lib.hid (OwnInts.make wr wr.heap.size 2 (Nat.le_refl _) (by omega))
              have HO1 := Lib.hid (HO.out.set 0 0)
              have c1 := HO.out.cell 0 (by omega)
              have f1 := HO.out.frozen 0
              have c2 := HO1.out.cell 1 (by omega)
              have f2 := HO1.out.frozen 1
              have x1 : wr.cell? ⟨w2.heap.size, 1, none⟩ = some (.slice A 2 2) := (HB6.out.keeps HKR.out).cell 1
              have x2 : wr.cell? ⟨w2.heap.size, 2, none⟩ = some (.slice B 2 2) := (HB6.out.keeps HKR.out).cell 2
              have hxz : w2.heap.size < wr.heap.size := (HB6.out.keeps HKR.out).lt
              go_wp2_with fail
              clear HO HO1 c1 f1 c2 f2 x0 x1 x2 hxz
              generalize (wr.alloc (.cells (((madeCells #[.int .i64 0] 2).setIfInBounds 0 (.int .i64 0)).setIfInBounds 1 (.int .i64 1)) 3)) = w7 at *
              have CV := Lib.hid (iVerdictOf_any S A B (some ⟨wr.heap.size, 0, none⟩) 2 2 2 2 2 2 2 (lsI [0, 1]) (hdrR R1) (hdrR R2) (lsII [[0, 1], [1, 1]]) (lsII [[0, 1], [1, 1]]) [0, 1] w7 (HR.out w7 (HKR.out.step HKS.out)) HOL.out (by decide))
              rw [verd_some_01 (hdrR R1) (hdrR R2) HLN.out.1 HLN.out.2] at CV
              clear HOL
              refine CV.out.mono ?_
              rintro e w8 ⟨rfl, hk8⟩
              have HKN := Lib.hid (HKR.out.step (HKS.out.step hk8))
              clear hk8
              go_wp2_with fail
              go_roundw
              case rel => exact ⟨by simp, HKN⟩
              case measure => first | (simp [intOf]; done) | (simp [intOf]; omega)
            · as_aux_lemma =>
              have HKS := Lib.hid (Keeps.alloc wr (.cells (((madeCells #[.int .i64 0] 2).setIfInBounds 0 (.int .i64 0)).setIfInBounds 1 (.int .i64 2)) 3))
              have HOL : Hid (Ints (wr.alloc (.cells (((madeCells #[.int .i64 0] 2).setIfInBounds 0 (.int .i64 0)).setIfInBounds 1 (.int .i64 2)) 3)) (some ⟨wr.heap.size, 0, none⟩) 2 (lsI [0, 2])) := Lib.hid (by
                have hcc : (((madeCells #[.int .i64 0] 2).setIfInBounds 0 (.int .i64 0)).setIfInBounds 1 (.int .i64 2)) = (List.map (Value.int .i64) [0, 2]).toArray := Array.ext' (by rw [Array.toList_setIfInBounds, Array.toList_setIfInBounds, toList_madeCells_one]; rfl)
                rw [hcc]
                exact ints_of (Blk.new wr _ _))
              have HO := Lib.hid (OwnInts.make wr wr.heap.size 2 (Nat.le_refl _) (by omega))
              have HO1 := Lib.hid (HO.out.set 0 0)
              have c1 := HO.out.cell 0 (by omega)
              have f1 := HO.out.frozen 0
              have c2 := HO1.out.cell 1 (by omega)
              have f2 := HO1.out.frozen 1
              have x1 : wr.cell? ⟨w2.heap.size, 1, none⟩ = some (.slice A 2 2) := (HB6.out.keeps HKR.out).cell 1
              have x2 : wr.cell? ⟨w2.heap.size, 2, none⟩ = some (.slice B 2 2) := (HB6.out.keeps HKR.out).cell 2
              have hxz : w2.heap.size < wr.heap.size := (HB6.out.keeps HKR.out).lt
              go_wp2_with fail
              clear HO HO1 c1 f1 c2 f2 x0 x1 x2 hxz
              generalize (wr.alloc (.cells (((madeCells #[.int .i64 0] 2).setIfInBounds 0 (.int .i64 0)).setIfInBounds 1 (.int .i64 2)) 3)) = w7 at *
              have CV := Lib.hid (iVerdictOf_any S A B (some ⟨wr.heap.size, 0, none⟩) 2 2 2 2 2 2 2 (lsI [0, 1]) (hdrR R1) (hdrR R2) (lsII [[0, 1], [1, 1]]) (lsII [[0, 1], [1, 1]]) [0, 2] w7 (HR.out w7 (HKR.out.step HKS.out)) HOL.out (by decide))
              rw [verd_some_02 (hdrR R1) (hdrR R2) HLN.out.1 HLN.out.2] at CV
              clear HOL
              refine CV.out.mono ?_
              rintro e w8 ⟨rfl, hk8⟩
              have HKN := Lib.hid (HKR.out.step (HKS.out.step hk8))
              clear hk8
              go_wp2_with fail
              go_roundw
              case rel => exact ⟨by simp, HKN⟩
              case measure => first | (simp [intOf]; done) | (simp [intOf]; omega)
            · as_aux_lemma =>
              have HKS := Lib.hid (Keeps.alloc wr (.cells (((madeCells #[.int .i64 0] 2).setIfInBounds 0 (.int .i64 0)).setIfInBounds 1 (.int .i64 3)) 3))
              have HOL : Hid (Ints (wr.alloc (.cells (((madeCells #[.int .i64 0] 2).setIfInBounds 0 (.int .i64 0)).setIfInBounds 1 (.int .i64 3)) 3)) (some ⟨wr.heap.size, 0, none⟩) 2 (lsI [0, 3])) := Lib.hid (by
                have hcc : (((madeCells #[.int .i64 0] 2).setIfInBounds 0 (.int .i64 0)).setIfInBounds 1 (.int .i64 3)) = (List.map (Value.int .i64) [0, 3]).toArray := Array.ext' (by rw [Array.toList_setIfInBounds, Array.toList_setIfInBounds, toList_madeCells_one]; rfl)
                rw [hcc]
                exact ints_of (Blk.new wr _ _))
              have HO := Lib.hid (OwnInts.make wr wr.heap.size 2 (Nat.le_refl _) (by omega))
              have HO1 := Lib.hid (HO.out.set 0 0)
              have c1 := HO.out.cell 0 (by omega)
              have f1 := HO.out.frozen 0
              have c2 := HO1.out.cell 1 (by omega)
              have f2 := HO1.out.frozen 1
              have x1 : wr.cell? ⟨w2.heap.size, 1, none⟩ = some (.slice A 2 2) := (HB6.out.keeps HKR.out).cell 1
              have x2 : wr.cell? ⟨w2.heap.size, 2, none⟩ = some (.slice B 2 2) := (HB6.out.keeps HKR.out).cell 2
              have hxz : w2.heap.size < wr.heap.size := (HB6.out.keeps HKR.out).lt
              go_wp2_with fail
              clear HO HO1 c1 f1 c2 f2 x0 x1 x2 hxz
              generalize (wr.alloc (.cells (((madeCells #[.int .i64 0] 2).setIfInBounds 0 (.int .i64 0)).setIfInBounds 1 (.int .i64 3)) 3)) = w7 at *
              have CV := Lib.hid (iVerdictOf_any S A B (some ⟨wr.heap.size, 0, none⟩) 2 2 2 2 2 2 2 (lsI [0, 1]) (hdrR R1) (hdrR R2) (lsII [[0, 1], [1, 1]]) (lsII [[0, 1], [1, 1]]) [0, 3] w7 (HR.out w7 (HKR.out.step HKS.out)) HOL.out (by decide))
              rw [verd_some_03 (hdrR R1) (hdrR R2) HLN.out.1 HLN.out.2] at CV
              clear HOL
              refine CV.out.mono ?_
              rintro e w8 ⟨rfl, hk8⟩
              have HKN := Lib.hid (HKR.out.step (HKS.out.step hk8))
              clear hk8
              go_wp2_with fail
              go_roundw
              case rel => exact ⟨by simp, HKN⟩
              case measure => first | (simp [intOf]; done) | (simp [intOf]; omega)
            · go_wp2_with fail
              go_roundw
              case rel => exact ⟨by simp, HKR⟩
              case measure => first | (simp [intOf]; done) | (simp [intOf]; omega)
        · as_aux_lemma =>
          go_wp2_with fail
          go_loopw [9] (fun i wr => (i = .int .i64 0 ∨ i = .int .i64 1 ∨ i = .int .i64 2 ∨ i = .int .i64 3 ∨ i = .int .i64 4) ∧ Hid (Keeps w6 wr)) (fun i _ => 4 - (intOf i).toNat)
          case atStart => exact ⟨.inl rfl, HKR⟩
          case round =>
            clear HKR
            obtain ⟨hi, HKR⟩ := hrel
            have hmk : ∀ w : World, (Instr.makeSlice 23 (.int .i64 2) (.int .i64 2)).run Try.prog w = .ok (.slice (some ⟨w.heap.size, 0, none⟩) 2 2) (w.alloc (.cells (madeCells #[.int .i64 0] 2) 3)) := make_ints 2 (by omega)
            have hm0 : (madeCells #[Value.int .i64 0] 2)[0]? = some (.int .i64 0) := by rw [← Array.getElem?_toList, toList_madeCells_one]; rfl
            have hm1 : (madeCells #[Value.int .i64 0] 2)[1]? = some (.int .i64 0) := by rw [← Array.getElem?_toList, toList_madeCells_one]; rfl
            have x0 : wr.cell? ⟨w2.heap.size, 0, none⟩ = some (.slice S 2 2) := (HB6.out.keeps HKR.out).cell 0
            rcases hi with rfl | rfl | rfl | rfl | rfl
            · as_aux_lemma =>
              have HKS := Lib.hid (Keeps.alloc wr (.cells (((madeCells #[.int .i64 0] 2).setIfInBounds 0 (.int .i64 1)).setIfInBounds 1 (.int .i64 0)) 3))
              have HOL : Hid (Ints (wr.alloc (.cells (((madeCells #[.int .i64 0] 2).setIfInBounds 0 (.int .i64 1)).setIfInBounds 1 (.int .i64 0)) 3)) (some ⟨wr.heap.size, 0, none⟩) 2 (lsI [1, 0])) := Lib.hid (by
                have hcc : (((madeCells #[.int .i64 0] 2).setIfInBounds 0 (.int .i64 1)).setIfInBounds 1 (.int .i64 0)) = (List.map (Value.int .i64) [1, 0]).toArray := Array.ext' (by rw [Array.toList_setIfInBounds, Array.toList_setIfInBounds, toList_madeCells_one]; rfl)
                rw [hcc]
                exact ints_of (Blk.new wr _ _))
              have HO := Lib.hid (OwnInts.make wr wr.heap.size 2 (Nat.le_refl _) (by omega))
              have HO1 := Lib.hid (HO.out.set 0 1)
              have c1 := HO.out.cell 0 (by omega)
              have f1 := HO.out.frozen 0
              have c2 := HO1.out.cell 1 (by omega)
              have f2 := HO1.out.frozen 1
              have x1 : wr.cell? ⟨w2.heap.size, 1, none⟩ = some (.slice A 2 2) := (HB6.out.keeps HKR.out).cell 1
              have x2 : wr.cell? ⟨w2.heap.size, 2, none⟩ = some (.slice B 2 2) := (HB6.out.keeps HKR.out).cell 2
              have hxz : w2.heap.size < wr.heap.size := (HB6.out.keeps HKR.out).lt
              go_wp2_with fail
              clear HO HO1 c1 f1 c2 f2 x0 x1 x2 hxz
              generalize (wr.alloc (.cells (((madeCells #[.int .i64 0] 2).setIfInBounds 0 (.int .i64 1)).setIfInBounds 1 (.int .i64 0)) 3)) = w7 at *
              have CV := Lib.hid (iVerdictOf_any S A B (some ⟨wr.heap.size, 0, none⟩) 2 2 2 2 2 2 2 (lsI [0, 1]) (hdrR R1) (hdrR R2) (lsII [[0, 1], [1, 1]]) (lsII [[0, 1], [1, 1]]) [1, 0] w7 (HR.out w7 (HKR.out.step HKS.out)) HOL.out (by decide))
              rw [verd_some_10 (hdrR R1) (hdrR R2) HLN.out.1 HLN.out.2] at CV
              clear HOL
              refine CV.out.mono ?_
              rintro e w8 ⟨rfl, hk8⟩
              have HKN := Lib.hid (HKR.out.step (HKS.out.step hk8))
              clear hk8
              go_wp2_with fail
              go_roundw
              case rel => exact ⟨by simp, HKN⟩
              case measure => first | (simp [intOf]; done) | (simp [intOf]; omega)
            · as_aux_lemma =>
              have HKS := Lib.hid (Keeps.alloc wr (.cells (((madeCells #[.int .i64 0] 2).setIfInBounds 0 (.int .i64 1)).setIfInBounds 1 (.int .i64 1)) 3))
              have HOL : Hid (Ints (wr.alloc (.cells (((madeCells #[.int .i64 0] 2).setIfInBounds 0 (.int .i64 1)).setIfInBounds 1 (.int .i64 1)) 3)) (some ⟨wr.heap.size, 0, none⟩) 2 (lsI [1, 1])) := Lib.hid (by
                have hcc : (((madeCells #[.int .i64 0] 2).setIfInBounds 0 (.int .i64 1)).setIfInBounds 1 (.int .i64 1)) = (List.map (Value.int .i64) [1, 1]).toArray := Array.ext' (by rw [Array.toList_setIfInBounds, Array.toList_setIfInBounds, toList_madeCells_one]; rfl)
                rw [hcc]
                exact ints_of (Blk.new wr _ _))
              have HO := Lib.hid (OwnInts.make wr wr.heap.size 2 (Nat.le_refl _) (by omega))
              have HO1 := Lib.hid (HO.out.set 0 1)
              have c1 := HO.out.cell 0 (by omega)
              have f1 := HO.out.frozen 0
              have c2 := HO1.out.cell 1 (by omega)
              have f2 := HO1.out.frozen 1
              have x1 : wr.cell? ⟨w2.heap.size, 1, none⟩ = some (.slice A 2 2) := (HB6.out.keeps HKR.out).cell 1
              have x2 : wr.cell? ⟨w2.heap.size, 2, none⟩ = some (.slice B 2 2) := (HB6.out.keeps HKR.out).cell 2
              have hxz : w2.heap.size < wr.heap.size := (HB6.out.keeps HKR.out).lt
              go_wp2_with fail
              clear HO HO1 c1 f1 c2 f2 x0 x1 x2 hxz
              generalize (wr.alloc (.cells (((madeCells #[.int .i64 0] 2).setIfInBounds 0 (.int .i64 1)).setIfInBounds 1 (.int .i64 1)) 3)) = w7 at *
              have CV := Lib.hid (iVerdictOf_any S A B (some ⟨wr.heap.size, 0, none⟩) 2 2 2 2 2 2 2 (lsI [0, 1]) (hdrR R1) (hdrR R2) (lsII [[0, 1], [1, 1]]) (lsII [[0, 1], [1, 1]]) [1, 1] w7 (HR.out w7 (HKR.out.step HKS.out)) HOL.out (by decide))
              rw [verd_some_11 (hdrR R1) (hdrR R2) HLN.out.1 HLN.out.2] at CV
              clear HOL
              refine CV.out.mono ?_
              rintro e w8 ⟨rfl, hk8⟩
              have HKN := Lib.hid (HKR.out.step (HKS.out.step hk8))
              clear hk8
              go_wp2_with fail
              go_roundw
              case rel => exact ⟨by simp, HKN⟩
              case measure => first | (simp [intOf]; done) | (simp [intOf]; omega)
            · as_aux_lemma =>
              have HKS := Lib.hid (Keeps.alloc wr (.cells (((madeCells #[.int .i64 0] 2).setIfInBounds 0 (.int .i64 1)).setIfInBounds 1 (.int .i64 2)) 3))
              have HOL : Hid (Ints (wr.alloc (.cells (((madeCells #[.int .i64 0] 2).setIfInBounds 0 (.int .i64 1)).setIfInBounds 1 (.int .i64 2)) 3)) (some ⟨wr.heap.size, 0, none⟩) 2 (lsI [1, 2])) := Lib.hid (by
                have hcc : (((madeCells #[.int .i64 0] 2).setIfInBounds 0 (.int .i64 1)).setIfInBounds 1 (.int .i64 2)) = (List.map (Value.int .i64) [1, 2]).toArray := Array.ext' (by rw [Array.toList_setIfInBounds, Array.toList_setIfInBounds, toList_madeCells_one]; rfl)
                rw [hcc]
                exact ints_of (Blk.new wr _ _))
              have HO := Lib.hid (OwnInts.make wr wr.heap.size 2 (Nat.le_refl _) (by omega))
              have HO1 := Lib.hid (HO.out.set 0 1)
              have c1 := HO.out.cell 0 (by omega)
              have f1 := HO.out.frozen 0
              have c2 := HO1.out.cell 1 (by omega)
              have f2 := HO1.out.frozen 1
              have x1 : wr.cell? ⟨w2.heap.size, 1, none⟩ = some (.slice A 2 2) := (HB6.out.keeps HKR.out).cell 1
              have x2 : wr.cell? ⟨w2.heap.size, 2, none⟩ = some (.slice B 2 2) := (HB6.out.keeps HKR.out).cell 2
              have hxz : w2.heap.size < wr.heap.size := (HB6.out.keeps HKR.out).lt
              go_wp2_with fail
              clear HO HO1 c1 f1 c2 f2 x0 x1 x2 hxz
              generalize (wr.alloc (.cells (((madeCells #[.int .i64 0] 2).setIfInBounds 0 (.int .i64 1)).setIfInBounds 1 (.int .i64 2)) 3)) = w7 at *
              have CV := Lib.hid (iVerdictOf_any S A B (some ⟨wr.heap.size, 0, none⟩) 2 2 2 2 2 2 2 (lsI [0, 1]) (hdrR R1) (hdrR R2) (lsII [[0, 1], [1, 1]]) (lsII [[0, 1], [1, 1]]) [1, 2] w7 (HR.out w7 (HKR.out.step HKS.out)) HOL.out (by decide))
              rw [verd_some_12 (hdrR R1) (hdrR R2) HLN.out.1 HLN.out.2] at CV
              clear HOL
              refine CV.out.mono ?_
              rintro e w8 ⟨rfl, hk8⟩
              have HKN := Lib.hid (HKR.out.step (HKS.out.step hk8))
              clear hk8
              go_wp2_with fail
              go_roundw
              case rel => exact ⟨by simp, HKN⟩
              case measure => first | (simp [intOf]; done) | (simp [intOf]; omega)
            · go_wp2_with fail
              go_roundw
              case rel => exact ⟨by simp, HKR⟩
              case measure => first | (simp [intOf]; done) | (simp [intOf]; omega)
            · go_wp2_with fail
              go_roundw
              case rel => exact ⟨by simp, HKR⟩
              case measure => first | (simp [intOf]; done) | (simp [intOf]; omega)
        · as_aux_lemma =>
          go_wp2_with fail
          go_loopw [9] (fun i wr => (i = .int .i64 0 ∨ i = .int .i64 1 ∨ i = .int .i64 2 ∨ i = .int .i64 3 ∨ i = .int .i64 4) ∧ Hid (Keeps w6 wr)) (fun i _ => 4 - (intOf i).toNat)
          case atStart => exact ⟨.inl rfl, HKR⟩
          case round =>
            clear HKR
            obtain ⟨hi, HKR⟩ := hrel
            have hmk : ∀ w : World, (Instr.makeSlice 23 (.int .i64 2) (.int .i64 2)).run Try.prog w = .ok (.slice (some ⟨w.heap.size, 0, none⟩) 2 2) (w.alloc (.cells (madeCells #[.int .i64 0] 2) 3)) := make_ints 2 (by omega)
            have hm0 : (madeCells #[Value.int .i64 0] 2)[0]? = some (.int .i64 0) := by rw [← Array.getElem?_toList, toList_madeCells_one]; rfl
            have hm1 : (madeCells #[Value.int .i64 0] 2)[1]? = some (.int .i64 0) := by rw [← Array.getElem?_toList, toList_madeCells_one]; rfl
            have x0 : wr.cell? ⟨w2.heap.size, 0, none⟩ = some (.slice S 2 2) := (HB6.out.keeps HKR.out).cell 0
            rcases hi with rfl | rfl | rfl | rfl | rfl
            · as_aux_lemma =>
              have HKS := Lib.hid (Keeps.alloc wr (.cells (((madeCells #[.int .i64 0] 2).setIfInBounds 0 (.int .i64 2)).setIfInBounds 1 (.int .i64 0)) 3))
              have HOL : Hid (Ints (wr.alloc (.cells (((madeCells #[.int .i64 0] 2).setIfInBounds 0 (.int .i64 2)).setIfInBounds 1 (.int .i64 0)) 3)) (some ⟨wr.heap.size, 0, none⟩) 2 (lsI [2, 0])) := Lib.hid (by
                have hcc : (((madeCells #[.int .i64 0] 2).setIfInBounds 0 (.int .i64 2)).setIfInBounds 1 (.int .i64 0)) = (List.map (Value.int .i64) [2, 0]).toArray := Array.ext' (by rw [Array.toList_setIfInBounds, Array.toList_setIfInBounds, toList_madeCells_one]; rfl)
                rw [hcc]
                exact ints_of (Blk.new wr _ _))
              have HO := Lib.hid (OwnInts.make wr wr.heap.size 2 (Nat.le_refl _) (by omega))
              have HO1 := Lib.hid (HO.out.set 0 2)
              have c1 := HO.out.cell 0 (by omega)
              have f1 := HO.out.frozen 0
              have c2 := HO1.out.cell 1 (by omega)
              have f2 := HO1.out.frozen 1
              have x1 : wr.cell? ⟨w2.heap.size, 1, none⟩ = some (.slice A 2 2) := (HB6.out.keeps HKR.out).cell 1
              have x2 : wr.cell? ⟨w2.heap.size, 2, none⟩ = some (.slice B 2 2) := (HB6.out.keeps HKR.out).cell 2
              have hxz : w2.heap.size < wr.heap.size := (HB6.out.keeps HKR.out).lt
              go_wp2_with fail
              clear HO HO1 c1 f1 c2 f2 x0 x1 x2 hxz
              generalize (wr.alloc (.cells (((madeCells #[.int .i64 0] 2).setIfInBounds 0 (.int .i64 2)).setIfInBounds 1 (.int .i64 0)) 3)) = w7 at *
              have CV := Lib.hid (iVerdictOf_any S A B (some ⟨wr.heap.size, 0, none⟩) 2 2 2 2 2 2 2 (lsI [0, 1]) (hdrR R1) (hdrR R2) (lsII [[0, 1], [1, 1]]) (lsII [[0, 1], [1, 1]]) [2, 0] w7 (HR.out w7 (HKR.out.step HKS.out)) HOL.out (by decide))
              rw [verd_some_20 (hdrR R1) (hdrR R2) HLN.out.1 HLN.out.2] at CV
              clear HOL
              refine CV.out.mono ?_
              rintro e w8 ⟨rfl, hk8⟩
              have HKN := Lib.hid (HKR.out.step (HKS.out.step hk8))
              clear hk8
              go_wp2_with fail
              go_roundw
              case rel => exact ⟨by simp, HKN⟩
              case measure => first | (simp [intOf]; done) | (simp [intOf]; omega)
            · as_aux_lemma =>
              have HKS := Lib.hid (Keeps.alloc wr (.cells (((madeCells #[.int .i64 0] 2).setIfInBounds 0 (.int .i64 2)).setIfInBounds 1 (.int .i64 1)) 3))
              have HOL : Hid (Ints (wr.alloc (.cells (((madeCells #[.int .i64 0] 2).setIfInBounds 0 (.int .i64 2)).setIfInBounds 1 (.int .i64 1)) 3)) (some ⟨wr.heap.size, 0, none⟩) 2 (lsI [2, 1])) := Lib.hid (by
                have hcc : (((madeCells #[.int .i64 0] 2).setIfInBounds 0 (.int .i64 2)).setIfInBounds 1 (.int .i64 1)) = (List.map (Value.int .i64) [2, 1]).toArray := Array.ext' (by rw [Array.toList_setIfInBounds, Array.toList_setIfInBounds, toList_madeCells_one]; rfl)
                rw [hcc]
                exact ints_of (Blk.new wr _ _))
              have HO := Lib.hid (OwnInts.make wr wr.heap.size 2 (Nat.le_refl _) (by omega))
              have HO1 := Lib.hid (HO.out.set 0 2)
              have c1 := HO.out.cell 0 (by omega)
              have f1 := HO.out.frozen 0
              have c2 := HO1.out.cell 1 (by omega)
              have f2 := HO1.out.frozen 1
              have x1 : wr.cell? ⟨w2.heap.size, 1, none⟩ = some (.slice A 2 2) := (HB6.out.keeps HKR.out).cell 1
              have x2 : wr.cell? ⟨w2.heap.size, 2, none⟩ = some (.slice B 2 2) := (HB6.out.keeps HKR.out).cell 2
              have hxz : w2.heap.size < wr.heap.size := (HB6.out.keeps HKR.out).lt
              go_wp2_with fail
              clear HO HO1 c1 f1 c2 f2 x0 x1 x2 hxz
              generalize (wr.alloc (.cells (((madeCells #[.int .i64 0] 2).setIfInBounds 0 (.int .i64 2)).setIfInBounds 1 (.int .i64 1)) 3)) = w7 at *
              have CV := Lib.hid (iVerdictOf_any S A B (some ⟨wr.heap.size, 0, none⟩) 2 2 2 2 2 2 2 (lsI [0, 1]) (hdrR R1) (hdrR R2) (lsII [[0, 1], [1, 1]]) (lsII [[0, 1], [1, 1]]) [2, 1] w7 (HR.out w7 (HKR.out.step HKS.out)) HOL.out (by decide))
              rw [verd_some_21 (hdrR R1) (hdrR R2) HLN.out.1 HLN.out.2] at CV
              clear HOL
              refine CV.out.mono ?_
              rintro e w8 ⟨rfl, hk8⟩
              have HKN := Lib.hid (HKR.out.step (HKS.out.step hk8))
              clear hk8
              go_wp2_with fail
              go_roundw
              case rel => exact ⟨by simp, HKN⟩
              case measure => first | (simp [intOf]; done) | (simp [intOf]; omega)
            · go_wp2_with fail
              go_roundw
              case rel => exact ⟨by simp, HKR⟩
              case measure => first | (simp [intOf]; done) | (simp [intOf]; omega)
            · go_wp2_with fail
              go_roundw
              case rel => exact ⟨by simp, HKR⟩
              case measure => first | (simp [intOf]; done) | (simp [intOf]; omega)
            · go_wp2_with fail
              go_roundw
              case rel => exact ⟨by simp, HKR⟩
              case measure => first | (simp [intOf]; done) | (simp [intOf]; omega)
        · as_aux_lemma =>
            have x0 : wr.cell? ⟨w2.heap.size, 0, none⟩ = some (.slice S 2 2) := (HB6.out.keeps HKR.out).cell 0
            have x1 : wr.cell? ⟨w2.heap.size, 1, none⟩ = some (.slice A 2 2) := (HB6.out.keeps HKR.out).cell 1
            have x2 : wr.cell? ⟨w2.heap.size, 2, none⟩ = some (.slice B 2 2) := (HB6.out.keeps HKR.out).cell 2
            have CV := Lib.hid (validRules_any S A B 2 2 2 2 2 2 (lsI [0, 1]) (hdrR R1) (hdrR R2) (lsII [[0, 1], [1, 1]]) (lsII [[0, 1], [1, 1]]) wr (HR.out wr HKR.out))
            rw [rulT (by decide +kernel) (by omega) (hdrR R1) (hdrR R2) HLN.out.1 HLN.out.2] at CV
            go_wp2_with fail
            refine CV.out.mono ?_
            rintro e w7 ⟨rfl, hk7⟩
            have HKF := Lib.hid (HK2.out.step (HK6.out.step (HKR.out.step hk7)))
            clear hk7
            go_wp2_with fail
            go_ret
            exact ⟨rfl, HKF.out⟩
    · as_aux_lemma =>
      go_wp2_with fail
      refine (iRulesOf_three w1).mono ?_
      rintro e w2 ⟨S, A, B, R1, R2, rfl, ht1, ht2, hi, hc1, hc2', hk2⟩
      have HT := Lib.hid (And.intro ht1 ht2)
      have HI := Lib.hid hi
      have HC1 := Lib.hid hc1
      have HC2 := Lib.hid hc2'
      have HK2 := Lib.hid (HK1.out.step hk2)
      have HBX := Lib.hid (Blk.new w2 #[.slice S 4 4, .slice A 4 4, .slice B 4 4] 26)
      have HK3 := Lib.hid (Keeps.alloc w2 (.cells #[.slice S 4 4, .slice A 4 4, .slice B 4 4] 26))
      clear ht1 ht2 hi hc1 hc2' hk2 HK1
      go_wp2_with fail
      generalize (w2.alloc (.cells #[.slice S 4 4, .slice A 4 4, .slice B 4 4] 26)) = w3 at *
      refine (sRulesOf_of _ 4 [0, 0, 0, 1] (lsII [[0, 1, 2, 3], [1, 2, 3, 3], [2, 3, 3, 3], [3, 3, 3, 3]]) (lsII [[0, 0, 0, 3], [0, 0, 3, 3], [0, 3, 3, 3], [3, 3, 3, 3]]) rulesOf_three w3).mono ?_
      rintro e w4 ⟨S', A', B', rA, rB, rfl, hat, hla, hlb, hk4⟩
      have HAT := Lib.hid hat
      have HL := Lib.hid (And.intro hla hlb)
      have HK4 := Lib.hid (HK3.out.step hk4)
      have HB4 := Lib.hid (HBX.out.keeps hk4)
      have x0 : w4.cell? ⟨w2.heap.size, 0, none⟩ = some (.slice S 4 4) := HB4.out.cell 0
      have x1 : w4.cell? ⟨w2.heap.size, 1, none⟩ = some (.slice A 4 4) := HB4.out.cell 1
      have x2 : w4.cell? ⟨w2.heap.size, 2, none⟩ = some (.slice B 4 4) := HB4.out.cell 2
      have hxz := HB4.out.lt
      have HE := Lib.hid (eqRules_true S A B S' A' B' 4 4 4 4 4 4 4 (lsI [0, 0, 0, 1]) (hdrR R1) (hdrR R2) rA rB (lsII [[0, 1, 2, 3], [1, 2, 3, 3], [2, 3, 3, 3], [3, 3, 3, 3]]) (lsII [[0, 0, 0, 3], [0, 0, 3, 3], [0, 3, 3, 3], [3, 3, 3, 3]]) (lsII [[0, 1, 2, 3], [1, 2, 3, 3], [2, 3, 3, 3], [3, 3, 3, 3]]) (lsII [[0, 0, 0, 3], [0, 0, 3, 3], [0, 3, 3, 3], [3, 3, 3, 3]]) (w4.alloc (.cells #[.slice S' 4 4, .slice A' 4 4, .slice B' 4 4] 26)) (by omega) (HI.out.keeps (HK4.out.step (Keeps.alloc _ _))) (crnTab (HC1.out.keeps (HK4.out.step (Keeps.alloc _ _))) HT.out.1).1 (crnTab (HC2.out.keeps (HK4.out.step (Keeps.alloc _ _))) HT.out.2).1 (HAT.out.says.keeps (Keeps.alloc _ _)) (HAT.out.first.keeps (Keeps.alloc _ _)) (HAT.out.second.keeps (Keeps.alloc _ _)) (fun i hi => ⟨(crnTab HC1.out HT.out.1).2 i hi, (crnTab HC2.out HT.out.2).2 i hi, HL.out.1 i hi, HL.out.2 i hi⟩) (fun _ _ _ _ => ⟨rfl, rfl⟩))
      have HK5 := Lib.hid (HK4.out.step (Keeps.alloc w4 (.cells #[.slice S' 4 4, .slice A' 4 4, .slice B' 4 4] 26)))
      have HB5 := Lib.hid (HB4.out.keeps (Keeps.alloc w4 (.cells #[.slice S' 4 4, .slice A' 4 4, .slice B' 4 4] 26)))
      clear hat hla hlb hk4 HBX HK3 HAT HL HB4
      go_wp2_with fail
      generalize (w4.alloc (.cells #[.slice S' 4 4, .slice A' 4 4, .slice B' 4 4] 26)) = w5 at *
      clear x0 x1 x2 hxz HK4
      refine HE.out.mono ?_
      rintro e w6 ⟨rfl, hk6⟩
      have HK6 := Lib.hid (HK5.out.step hk6)
      have HB6 := Lib.hid (HB5.out.keeps hk6)
      have HR := Lib.hid (fun (W : World) (hK : Keeps w6 W) => toldRul (w := w) (W := W) (by omega) HT.out.1 HT.out.2 (HI.out.keeps (HK6.out.step hK)) (HC1.out.keeps (HK6.out.step hK)) (HC2.out.keeps (HK6.out.step hK)))
      have HLN := Lib.hid (And.intro (crnTab HC1.out HT.out.1).2 (crnTab HC2.out HT.out.2).2)
      clear hk6 HE HB5 HK5 HT HI HC1 HC2
      go_wp2_with fail
      go_loopw [8] (fun i wr => (i = .int .i64 0 ∨ i = .int .i64 1 ∨ i = .int .i64 2 ∨ i = .int .i64 3) ∧ Hid (Keeps w6 wr)) (fun i _ => 3 - (intOf i).toNat)
      case atStart => exact ⟨.inl rfl, Lib.hid (Keeps.refl _)⟩
      case round =>
        obtain ⟨hi, HKR⟩ := hrel
        rcases hi with rfl | rfl | rfl | rfl
        · as_aux_lemma =>
          go_wp2_with fail
          go_loopw [9] (fun i wr => (i = .int .i64 0 ∨ i = .int .i64 1 ∨ i = .int .i64 2 ∨ i = .int .i64 3 ∨ i = .int .i64 4) ∧ Hid (Keeps w6 wr)) (fun i _ => 4 - (intOf i).toNat)
          case atStart => exact ⟨.inl rfl, HKR⟩
          case round =>
            clear HKR
            obtain ⟨hi, HKR⟩ := hrel
            have hmk : ∀ w : World, (Instr.makeSlice 23 (.int .i64 4) (.int .i64 4)).run Try.prog w = .ok (.slice (some ⟨w.heap.size, 0, none⟩) 4 4) (w.alloc (.cells (madeCells #[.int .i64 0] 4) 3)) := make_ints 4 (by omega)
            have hm0 : (madeCells #[Value.int .i64 0] 4)[0]? = some (.int .i64 0) := by rw [← Array.getElem?_toList, toList_madeCells_one]; rfl
            have hm1 : (madeCells #[Value.int .i64 0] 4)[1]? = some (.int .i64 0) := by rw [← Array.getElem?_toList, toList_madeCells_one]; rfl
            have x0 : wr.cell? ⟨w2.heap.size, 0, none⟩ = some (.slice S 4 4) := (HB6.out.keeps HKR.out).cell 0
            rcases hi with rfl | rfl | rfl | rfl | rfl
            · go_wp2_with fail
              go_roundw
              case rel => exact ⟨by simp, HKR⟩
              case measure => first | (simp [intOf]; done) | (simp [intOf]; omega)
            · as_aux_lemma =>
              have HKS := Lib.hid (Keeps.alloc wr (.cells (((madeCells #[.int .i64 0] 4).setIfInBounds 0 (.int .i64 0)).setIfInBounds 1 (.int .i64 1)) 3))
              have HOL : Hid (Ints (wr.alloc (.cells (((madeCells #[.int .i64 0] 4).setIfInBounds 0 (.int .i64 0)).setIfInBounds 1 (.int .i64 1)) 3)) (some ⟨wr.heap.size, 0, none⟩) 4 (lsI [0, 1, 0, 0])) := Lib.hid (by
                have hcc : (((madeCells #[.int .i64 0] 4).setIfInBounds 0 (.int .i64 0)).setIfInBounds 1 (.int .i64 1)) = (List.map (Value.int .i64) [0, 1, 0, 0]).toArray := Array.ext' (by rw [Array.toList_setIfInBounds, Array.toList_setIfInBounds, toList_madeCells_one]; rfl)
                rw [hcc]
                exact ints_of (Blk.new wr _ _))
              have HO := Lib.hid (OwnInts.make wr wr.heap.size 4 (Nat.le_refl _) (by omega))
              have HO1 := Lib.hid (HO.out.set 0 0)
              have c1 := HO.out.cell 0 (by omega)
              have f1 := HO.out.frozen 0
              have c2 := HO1.out.cell 1 (by omega)
              have f2 := HO1.out.frozen 1
              have x1 : wr.cell? ⟨w2.heap.size, 1, none⟩ = some (.slice A 4 4) := (HB6.out.keeps HKR.out).cell 1
              have x2 : wr.cell? ⟨w2.heap.size, 2, none⟩ = some (.slice B 4 4) := (HB6.out.keeps HKR.out).cell 2
              have hxz : w2.heap.size < wr.heap.size := (HB6.out.keeps HKR.out).lt
              go_wp2_with fail
              clear HO HO1 c1 f1 c2 f2 x0 x1 x2 hxz
              generalize (wr.alloc (.cells (((madeCells #[.int .i64 0] 4).setIfInBounds 0 (.int .i64 0)).setIfInBounds 1 (.int .i64 1)) 3)) = w7 at *
              have CV := Lib.hid (iVerdictOf_any S A B (some ⟨wr.heap.size, 0, none⟩) 4 4 4 4 4 4 4 (lsI [0, 0, 0, 1]) (hdrR R1) (hdrR R2) (lsII [[0, 1, 2, 3], [1, 2, 3, 3], [2, 3, 3, 3], [3, 3, 3, 3]]) (lsII [[0, 0, 0, 3], [0, 0, 3, 3], [0, 3, 3, 3], [3, 3, 3, 3]]) [0, 1, 0, 0] w7 (HR.out w7 (HKR.out.step HKS.out)) HOL.out (by decide))
              rw [verd_three_01 (hdrR R1) (hdrR R2) HLN.out.1 HLN.out.2] at CV
              clear HOL
              refine CV.out.mono ?_
              rintro e w8 ⟨rfl, hk8⟩
              have HKN := Lib.hid (HKR.out.step (HKS.out.step hk8))
              clear hk8
              go_wp2_with fail
              go_roundw
              case rel => exact ⟨by simp, HKN⟩
              case measure => first | (simp [intOf]; done) | (simp [intOf]; omega)
            · as_aux_lemma =>
              have HKS := Lib.hid (Keeps.alloc wr (.cells (((madeCells #[.int .i64 0] 4).setIfInBounds 0 (.int .i64 0)).setIfInBounds 1 (.int .i64 2)) 3))
              have HOL : Hid (Ints (wr.alloc (.cells (((madeCells #[.int .i64 0] 4).setIfInBounds 0 (.int .i64 0)).setIfInBounds 1 (.int .i64 2)) 3)) (some ⟨wr.heap.size, 0, none⟩) 4 (lsI [0, 2, 0, 0])) := Lib.hid (by
                have hcc : (((madeCells #[.int .i64 0] 4).setIfInBounds 0 (.int .i64 0)).setIfInBounds 1 (.int .i64 2)) = (List.map (Value.int .i64) [0, 2, 0, 0]).toArray := Array.ext' (by rw [Array.toList_setIfInBounds, Array.toList_setIfInBounds, toList_madeCells_one]; rfl)
                rw [hcc]
                exact ints_of (Blk.new wr _ _))
              have HO := Lib.hid (OwnInts.make wr wr.heap.size 4 (Nat.le_refl _) (by omega))
              have HO1 := Lib.hid (HO.out.set 0 0)
              have c1 := HO.out.cell 0 (by omega)
              have f1 := HO.out.frozen 0
              have c2 := HO1.out.cell 1 (by omega)
              have f2 := HO1.out.frozen 1
              have x1 : wr.cell? ⟨w2.heap.size, 1, none⟩ = some (.slice A 4 4) := (HB6.out.keeps HKR.out).cell 1
              have x2 : wr.cell? ⟨w2.heap.size, 2, none⟩ = some (.slice B 4 4) := (HB6.out.keeps HKR.out).cell 2
              have hxz : w2.heap.size < wr.heap.size := (HB6.out.keeps HKR.out).lt
              go_wp2_with fail
              clear HO HO1 c1 f1 c2 f2 x0 x1 x2 hxz
              generalize (wr.alloc (.cells (((madeCells #[.int .i64 0] 4).setIfInBounds 0 (.int .i64 0)).setIfInBounds 1 (.int .i64 2)) 3)) = w7 at *
              have CV := Lib.hid (iVerdictOf_any S A B (some ⟨wr.heap.size, 0, none⟩) 4 4 4 4 4 4 4 (lsI [0, 0, 0, 1]) (hdrR R1) (hdrR R2) (lsII [[0, 1, 2, 3], [1, 2, 3, 3], [2, 3, 3, 3], [3, 3, 3, 3]]) (lsII [[0, 0, 0, 3], [0, 0, 3, 3], [0, 3, 3, 3], [3, 3, 3, 3]]) [0, 2, 0, 0] w7 (HR.out w7 (HKR.out.step HKS.out)) HOL.out (by decide))
              rw [verd_three_02 (hdrR R1) (hdrR R2) HLN.out.1 HLN.out.2] at CV
              clear HOL
              refine CV.out.mono ?_
              rintro e w8 ⟨rfl, hk8⟩
              have HKN := Lib.hid (HKR.out.step (HKS.out.step hk8))
              clear hk8
              go_wp2_with fail
              go_roundw
              case rel => exact ⟨by simp, HKN⟩
              case measure => first | (simp [intOf]; done) | (simp [intOf]; omega)
            · as_aux_lemma =>
              have HKS := Lib.hid (Keeps.alloc wr (.cells (((madeCells #[.int .i64 0] 4).setIfInBounds 0 (.int .i64 0)).setIfInBounds 1 (.int .i64 3)) 3))
              have HOL : Hid (Ints (wr.alloc (.cells (((madeCells #[.int .i64 0] 4).setIfInBounds 0 (.int .i64 0)).setIfInBounds 1 (.int .i64 3)) 3)) (some ⟨wr.heap.size, 0, none⟩) 4 (lsI [0, 3, 0, 0])) := Lib.hid (by
                have hcc : (((madeCells #[.int .i64 0] 4).setIfInBounds 0 (.int .i64 0)).setIfInBounds 1 (.int .i64 3)) = (List.map (Value.int .i64) [0, 3, 0, 0]).toArray := Array.ext' (by rw [Array.toList_setIfInBounds, Array.toList_setIfInBounds, toList_madeCells_one]; rfl)
                rw [hcc]
                exact ints_of (Blk.new wr _ _))
              have HO := Lib.hid (OwnInts.make wr wr.heap.size 4 (Nat.le_refl _) (by omega))
              have HO1 := Lib.hid (HO.out.set 0 0)
              have c1 := HO.out.cell 0 (by omega)
              have f1 := HO.out.frozen 0
              have c2 := HO1.out.cell 1 (by omega)
              have f2 := HO1.out.frozen 1
              have x1 : wr.cell? ⟨w2.heap.size, 1, none⟩ = some (.slice A 4 4) := (HB6.out.keeps HKR.out).cell 1
              have x2 : wr.cell? ⟨w2.heap.size, 2, none⟩ = some (.slice B 4 4) := (HB6.out.keeps HKR.out).cell 2
              have hxz : w2.heap.size < wr.heap.size := (HB6.out.keeps HKR.out).lt
              go_wp2_with fail
              clear HO HO1 c1 f1 c2 f2 x0 x1 x2 hxz
              generalize (wr.alloc (.cells (((madeCells #[.int .i64 0] 4).setIfInBounds 0 (.int .i64 0)).setIfInBounds 1 (.int .i64 3)) 3)) = w7 at *
              have CV := Lib.hid (iVerdictOf_any S A B (some ⟨wr.heap.size, 0, none⟩) 4 4 4 4 4 4 4 (lsI [0, 0, 0, 1]) (hdrR R1) (hdrR R2) (lsII [[0, 1, 2, 3], [1, 2, 3, 3], [2, 3, 3, 3], [3, 3, 3, 3]]) (lsII [[0, 0, 0, 3], [0, 0, 3, 3], [0, 3, 3, 3], [3, 3, 3, 3]]) [0, 3, 0, 0] w7 (HR.out w7 (HKR.out.step HKS.out)) HOL.out (by decide))
              rw [verd_three_03 (hdrR R1) (hdrR R2) HLN.out.1 HLN.out.2] at CV
              clear HOL
              refine CV.out.mono ?_
              rintro e w8 ⟨rfl, hk8⟩
              have HKN := Lib.hid (HKR.out.step (HKS.out.step hk8))
              clear hk8
              go_wp2_with fail
              go_roundw
              case rel => exact ⟨by simp, HKN⟩
              case measure => first | (simp [intOf]; done) | (simp [intOf]; omega)
            · go_wp2_with fail
              go_roundw
              case rel => exact ⟨by simp, HKR⟩
              case measure => first | (simp [intOf]; done) | (simp [intOf]; omega)
        · as_aux_lemma =>
          go_wp2_with fail
          go_loopw [9] (fun i wr => (i = .int .i64 0 ∨ i = .int .i64 1 ∨ i = .int .i64 2 ∨ i = .int .i64 3 ∨ i = .int .i64 4) ∧ Hid (Keeps w6 wr)) (fun i _ => 4 - (intOf i).toNat)
          case atStart => exact ⟨.inl rfl, HKR⟩
          case round =>
            clear HKR
            obtain ⟨hi, HKR⟩ := hrel
            have hmk : ∀ w : World, (Instr.makeSlice 23 (.int .i64 4) (.int .i64 4)).run Try.prog w = .ok (.slice (some ⟨w.heap.size, 0, none⟩) 4 4) (w.alloc (.cells (madeCells #[.int .i64 0] 4) 3)) := make_ints 4 (by omega)
            have hm0 : (madeCells #[Value.int .i64 0] 4)[0]? = some (.int .i64 0) := by rw [← Array.getElem?_toList, toList_madeCells_one]; rfl
            have hm1 : (madeCells #[Value.int .i64 0] 4)[1]? = some (.int .i64 0) := by rw [← Array.getElem?_toList, toList_madeCells_one]; rfl
            have x0 : wr.cell? ⟨w2.heap.size, 0, none⟩ = some (.slice S 4 4) := (HB6.out.keeps HKR.out).cell 0
            rcases hi with rfl | rfl | rfl | rfl | rfl
            · as_aux_lemma =>
              have HKS := Lib.hid (Keeps.alloc wr (.cells (((madeCells #[.int .i64 0] 4).setIfInBounds 0 (.int .i64 1)).setIfInBounds 1 (.int .i64 0)) 3))
              have HOL : Hid (Ints (wr.alloc (.cells (((madeCells #[.int .i64 0] 4).setIfInBounds 0 (.int .i64 1)).setIfInBounds 1 (.int .i64 0)) 3)) (some ⟨wr.heap.size, 0, none⟩) 4 (lsI [1, 0, 0, 0])) := Lib.hid (by
                have hcc : (((madeCells #[.int .i64 0] 4).setIfInBounds 0 (.int .i64 1)).setIfInBounds 1 (.int .i64 0)) = (List.map (Value.int .i64) [1, 0, 0, 0]).toArray := Array.ext' (by rw [Array.toList_setIfInBounds, Array.toList_setIfInBounds, toList_madeCells_one]; rfl)
                rw [hcc]
                exact ints_of (Blk.new wr _ _))
              have HO := Lib.hid (OwnInts.make wr wr.heap.size 4 (Nat.le_refl _) (by omega))
              have HO1 := Lib.hid (HO.out.set 0 1)
              have c1 := HO.out.cell 0 (by omega)
              have f1 := HO.out.frozen 0
              have c2 := HO1.out.cell 1 (by omega)
              have f2 := HO1.out.frozen 1
              have x1 : wr.cell? ⟨w2.heap.size, 1, none⟩ = some (.slice A 4 4) := (HB6.out.keeps HKR.out).cell 1
              have x2 : wr.cell? ⟨w2.heap.size, 2, none⟩ = some (.slice B 4 4) := (HB6.out.keeps HKR.out).cell 2
              have hxz : w2.heap.size < wr.heap.size := (HB6.out.keeps HKR.out).lt
              go_wp2_with fail
              clear HO HO1 c1 f1 c2 f2 x0 x1 x2 hxz
              generalize (wr.alloc (.cells (((madeCells #[.int .i64 0] 4).setIfInBounds 0 (.int .i64 1)).setIfInBounds 1 (.int .i64 0)) 3)) = w7 at *
              have CV := Lib.hid (iVerdictOf_any S A B (some ⟨wr.heap.size, 0, none⟩) 4 4 4 4 4 4 4 (lsI [0, 0, 0, 1]) (hdrR R1) (hdrR R2) (lsII [[0, 1, 2, 3], [1, 2, 3, 3], [2, 3, 3, 3], [3, 3, 3, 3]]) (lsII [[0, 0, 0, 3], [0, 0, 3, 3], [0, 3, 3, 3], [3, 3, 3, 3]]) [1, 0, 0, 0] w7 (HR.out w7 (HKR.out.step HKS.out)) HOL.out (by decide))
              rw [verd_three_10 (hdrR R1) (hdrR R2) HLN.out.1 HLN.out.2] at CV
              clear HOL
              refine CV.out.mono ?_
              rintro e w8 ⟨rfl, hk8⟩
              have HKN := Lib.hid (HKR.out.step (HKS.out.step hk8))
              clear hk8
              go_wp2_with fail
              go_roundw
              case rel => exact ⟨by simp, HKN⟩
              case measure => first | (simp [intOf]; done) | (simp [intOf]; omega)
            · as_aux_lemma =>
              have HKS := Lib.hid (Keeps.alloc wr (.cells (((madeCells #[.int .i64 0] 4).setIfInBounds 0 (.int .i64 1)).setIfInBounds 1 (.int .i64 1)) 3))
              have HOL : Hid (Ints (wr.alloc (.cells (((madeCells #[.int .i64 0] 4).setIfInBounds 0 (.int .i64 1)).setIfInBounds 1 (.int .i64 1)) 3)) (some ⟨wr.heap.size, 0, none⟩) 4 (lsI [1, 1, 0, 0])) := Lib.hid (by
                have hcc : (((madeCells #[.int .i64 0] 4).setIfInBounds 0 (.int .i64 1)).setIfInBounds 1 (.int .i64 1)) = (List.map (Value.int .i64) [1, 1, 0, 0]).toArray := Array.ext' (by rw [Array.toList_setIfInBounds, Array.toList_setIfInBounds, toList_madeCells_one]; rfl)
                rw [hcc]
                exact ints_of (Blk.new wr _ _))
              have HO := Lib.hid (OwnInts.make wr wr.heap.size 4 (Nat.le_refl _) (by omega))
              have HO1 := Lib.hid (HO.out.set 0 1)
              have c1 := HO.out.cell 0 (by omega)
              have f1 := HO.out.frozen 0
              have c2 := HO1.out.cell 1 (by omega)
              have f2 := HO1.out.frozen 1
              have x1 : wr.cell? ⟨w2.heap.size, 1, none⟩ = some (.slice A 4 4) := (HB6.out.keeps HKR.out).cell 1
              have x2 : wr.cell? ⟨w2.heap.size, 2, none⟩ = some (.slice B 4 4) := (HB6.out.keeps HKR.out).cell 2
              have hxz : w2.heap.size < wr.heap.size := (HB6.out.keeps HKR.out).lt
              go_wp2_with fail
              clear HO HO1 c1 f1 c2 f2 x0 x1 x2 hxz
              generalize (wr.alloc (.cells (((madeCells #[.int .i64 0] 4).setIfInBounds 0 (.int .i64 1)).setIfInBounds 1 (.int .i64 1)) 3)) = w7 at *
              have CV := Lib.hid (iVerdictOf_any S A B (some ⟨wr.heap.size, 0, none⟩) 4 4 4 4 4 4 4 (lsI [0, 0, 0, 1]) (hdrR R1) (hdrR R2) (lsII [[0, 1, 2, 3], [1, 2, 3, 3], [2, 3, 3, 3], [3, 3, 3, 3]]) (lsII [[0, 0, 0, 3], [0, 0, 3, 3], [0, 3, 3, 3], [3, 3, 3, 3]]) [1, 1, 0, 0] w7 (HR.out w7 (HKR.out.step HKS.out)) HOL.out (by decide))
              rw [verd_three_11 (hdrR R1) (hdrR R2) HLN.out.1 HLN.out.2] at CV
              clear HOL
              refine CV.out.mono ?_
              rintro e w8 ⟨rfl, hk8⟩
              have HKN := Lib.hid (HKR.out.step (HKS.out.step hk8))
              clear hk8
              go_wp2_with fail
              go_roundw
              case rel => exact ⟨by simp, HKN⟩
              case measure => first | (simp [intOf]; done) | (simp [intOf]; omega)
            · as_aux_lemma =>
              have HKS := Lib.hid (Keeps.alloc wr (.cells (((madeCells #[.int .i64 0] 4).setIfInBounds 0 (.int .i64 1)).setIfInBounds 1 (.int .i64 2)) 3))
              have HOL : Hid (Ints (wr.alloc (.cells (((madeCells #[.int .i64 0] 4).setIfInBounds 0 (.int .i64 1)).setIfInBounds 1 (.int .i64 2)) 3)) (some ⟨wr.heap.size, 0, none⟩) 4 (lsI [1, 2, 0, 0])) := Lib.hid (by
                have hcc : (((madeCells #[.int .i64 0] 4).setIfInBounds 0 (.int .i64 1)).setIfInBounds 1 (.int .i64 2)) = (List.map (Value.int .i64) [1, 2, 0, 0]).toArray := Array.ext' (by rw [Array.toList_setIfInBounds, Array.toList_setIfInBounds, toList_madeCells_one]; rfl)
                rw [hcc]
                exact ints_of (Blk.new wr _ _))
              have HO := Lib.hid (OwnInts.make wr wr.heap.size 4 (Nat.le_refl _) (by omega))
              have HO1 := Lib.hid (HO.out.set 0 1)
              have c1 := HO.out.cell 0 (by omega)
              have f1 := HO.out.frozen 0
              have c2 := HO1.out.cell 1 (by omega)
              have f2 := HO1.out.frozen 1
              have x1 : wr.cell? ⟨w2.heap.size, 1, none⟩ = some (.slice A 4 4) := (HB6.out.keeps HKR.out).cell 1
              have x2 : wr.cell? ⟨w2.heap.size, 2, none⟩ = some (.slice B 4 4) := (HB6.out.keeps HKR.out).cell 2
              have hxz : w2.heap.size < wr.heap.size := (HB6.out.keeps HKR.out).lt
              go_wp2_with fail
              clear HO HO1 c1 f1 c2 f2 x0 x1 x2 hxz
              generalize (wr.alloc (.cells (((madeCells #[.int .i64 0] 4).setIfInBounds 0 (.int .i64 1)).setIfInBounds 1 (.int .i64 2)) 3)) = w7 at *
              have CV := Lib.hid (iVerdictOf_any S A B (some ⟨wr.heap.size, 0, none⟩) 4 4 4 4 4 4 4 (lsI [0, 0, 0, 1]) (hdrR R1) (hdrR R2) (lsII [[0, 1, 2, 3], [1, 2, 3, 3], [2, 3, 3, 3], [3, 3, 3, 3]]) (lsII [[0, 0, 0, 3], [0, 0, 3, 3], [0, 3, 3, 3], [3, 3, 3, 3]]) [1, 2, 0, 0] w7 (HR.out w7 (HKR.out.step HKS.out)) HOL.out (by decide))
              rw [verd_three_12 (hdrR R1) (hdrR R2) HLN.out.1 HLN.out.2] at CV
              clear HOL
              refine CV.out.mono ?_
              rintro e w8 ⟨rfl, hk8⟩
              have HKN := Lib.hid (HKR.out.step (HKS.out.step hk8))
              clear hk8
              go_wp2_with fail
              go_roundw
              case rel => exact ⟨by simp, HKN⟩
              case measure => first | (simp [intOf]; done) | (simp [intOf]; omega)
            · go_wp2_with fail
              go_roundw
              case rel => exact ⟨by simp, HKR⟩
              case measure => first | (simp [intOf]; done) | (simp [intOf]; omega)
            · go_wp2_with fail
              go_roundw
              case rel => exact ⟨by simp, HKR⟩
              case measure => first | (simp [intOf]; done) | (simp [intOf]; omega)
        · as_aux_lemma =>
          go_wp2_with fail
          go_loopw [9] (fun i wr => (i = .int .i64 0 ∨ i = .int .i64 1 ∨ i = .int .i64 2 ∨ i = .int .i64 3 ∨ i = .int .i64 4) ∧ Hid (Keeps w6 wr)) (fun i _ => 4 - (intOf i).toNat)
          case atStart => exact ⟨.inl rfl, HKR⟩
          case round =>
            clear HKR
            obtain ⟨hi, HKR⟩ := hrel
            have hmk : ∀ w : World, (Instr.makeSlice 23 (.int .i64 4) (.int .i64 4)).run Try.prog w = .ok (.slice (some ⟨w.heap.size, 0, none⟩) 4 4) (w.alloc (.cells (madeCells #[.int .i64 0] 4) 3)) := make_ints 4 (by omega)
            have hm0 : (madeCells #[Value.int .i64 0] 4)[0]? = some (.int .i64 0) := by rw [← Array.getElem?_toList, toList_madeCells_one]; rfl
            have hm1 : (madeCells #[Value.int .i64 0] 4)[1]? = some (.int .i64 0) := by rw [← Array.getElem?_toList, toList_madeCells_one]; rfl
            have x0 : wr.cell? ⟨w2.heap.size, 0, none⟩ = some (.slice S 4 4) := (HB6.out.keeps HKR.out).cell 0
            rcases hi with rfl | rfl | rfl | rfl | rfl
            · as_aux_lemma =>
              have HKS := Lib.hid (Keeps.alloc wr (.cells (((madeCells #[.int .i64 0] 4).setIfInBounds 0 (.int .i64 2)).setIfInBounds 1 (.int .i64 0)) 3))
              have HOL : Hid (Ints (wr.alloc (.cells (((madeCells #[.int .i64 0] 4).setIfInBounds 0 (.int .i64 2)).setIfInBounds 1 (.int .i64 0)) 3)) (some ⟨wr.heap.size, 0, none⟩) 4 (lsI [2, 0, 0, 0])) := Lib.hid (by
                have hcc : (((madeCells #[.int .i64 0] 4).setIfInBounds 0 (.int .i64 2)).setIfInBounds 1 (.int .i64 0)) = (List.map (Value.int .i64) [2, 0, 0, 0]).toArray := Array.ext' (by rw [Array.toList_setIfInBounds, Array.toList_setIfInBounds, toList_madeCells_one]; rfl)
                rw [hcc]
                exact ints_of (Blk.new wr _ _))
              have HO := Lib.hid (OwnInts.make wr wr.heap.size 4 (Nat.le_refl _) (by omega))
              have HO1 := Lib.hid (HO.out.set 0 2)
              have c1 := HO.out.cell 0 (by omega)
              have f1 := HO.out.frozen 0
              have c2 := HO1.out.cell 1 (by omega)
              have f2 := HO1.out.frozen 1
              have x1 : wr.cell? ⟨w2.heap.size, 1, none⟩ = some (.slice A 4 4) := (HB6.out.keeps HKR.out).cell 1
              have x2 : wr.cell? ⟨w2.heap.size, 2, none⟩ = some (.slice B 4 4) := (HB6.out.keeps HKR.out).cell 2
              have hxz : w2.heap.size < wr.heap.size := (HB6.out.keeps HKR.out).lt
              go_wp2_with fail
              clear HO HO1 c1 f1 c2 f2 x0 x1 x2 hxz
              generalize (wr.alloc (.cells (((madeCells #[.int .i64 0] 4).setIfInBounds 0 (.int .i64 2)).setIfInBounds 1 (.int .i64 0)) 3)) = w7 at *
              have CV := Lib.hid (iVerdictOf_any S A B (some ⟨wr.heap.size, 0, none⟩) 4 4 4 4 4 4 4 (lsI [0, 0, 0, 1]) (hdrR R1) (hdrR R2) (lsII [[0, 1, 2, 3], [1, 2, 3, 3], [2, 3, 3, 3], [3, 3, 3, 3]]) (lsII [[0, 0, 0, 3], [0, 0, 3, 3], [0, 3, 3, 3], [3, 3, 3, 3]]) [2, 0, 0, 0] w7 (HR.out w7 (HKR.out.step HKS.out)) HOL.out (by decide))
              rw [verd_three_20 (hdrR R1) (hdrR R2) HLN.out.1 HLN.out.2] at CV
              clear HOL
              refine CV.out.mono ?_
              rintro e w8 ⟨rfl, hk8⟩
              have HKN := Lib.hid (HKR.out.step (HKS.out.step hk8))
              clear hk8
              go_wp2_with fail
              go_roundw
              case rel => exact ⟨by simp, HKN⟩
              case measure => first | (simp [intOf]; done) | (simp [intOf]; omega)
            · as_aux_lemma =>
              have HKS := Lib.hid (Keeps.alloc wr (.cells (((madeCells #[.int .i64 0] 4).setIfInBounds 0 (.int .i64 2)).setIfInBounds 1 (.int .i64 1)) 3))
              have HOL : Hid (Ints (wr.alloc (.cells (((madeCells #[.int .i64 0] 4).setIfInBounds 0 (.int .i64 2)).setIfInBounds 1 (.int .i64 1)) 3)) (some ⟨wr.heap.size, 0, none⟩) 4 (lsI [2, 1, 0, 0])) := Lib.hid (by
                have hcc : (((madeCells #[.int .i64 0] 4).setIfInBounds 0 (.int .i64 2)).setIfInBounds 1 (.int .i64 1)) = (List.map (Value.int .i64) [2, 1, 0, 0]).toArray := Array.ext' (by rw [Array.toList_setIfInBounds, Array.toList_setIfInBounds, toList_madeCells_one]; rfl)
                rw [hcc]
                exact ints_of (Blk.new wr _ _))
              have HO := Lib.hid (OwnInts.make wr wr.heap.size 4 (Nat.le_refl _) (by omega))
              have HO1 := Lib.hid (HO.out.set 0 2)
              have c1 := HO.out.cell 0 (by omega)
              have f1 := HO.out.frozen 0
              have c2 := HO1.out.cell 1 (by omega)
              have f2 := HO1.out.frozen 1
              have x1 : wr.cell? ⟨w2.heap.size, 1, none⟩ = some (.slice A 4 4) := (HB6.out.keeps HKR.out).cell 1
              have x2 : wr.cell? ⟨w2.heap.size, 2, none⟩ = some (.slice B 4 4) := (HB6.out.keeps HKR.out).cell 2
              have hxz : w2.heap.size < wr.heap.size := (HB6.out.keeps HKR.out).lt
              go_wp2_with fail
              clear HO HO1 c1 f1 c2 f2 x0 x1 x2 hxz
              generalize (wr.alloc (.cells (((madeCells #[.int .i64 0] 4).setIfInBounds 0 (.int .i64 2)).setIfInBounds 1 (.int .i64 1)) 3)) = w7 at *
              have CV := Lib.hid (iVerdictOf_any S A B (some ⟨wr.heap.size, 0, none⟩) 4 4 4 4 4 4 4 (lsI [0, 0, 0, 1]) (hdrR R1) (hdrR R2) (lsII [[0, 1, 2, 3], [1, 2, 3, 3], [2, 3, 3, 3], [3, 3, 3, 3]]) (lsII [[0, 0, 0, 3], [0, 0, 3, 3], [0, 3, 3, 3], [3, 3, 3, 3]]) [2, 1, 0, 0] w7 (HR.out w7 (HKR.out.step HKS.out)) HOL.out (by decide))
              rw [verd_three_21 (hdrR R1) (hdrR R2) HLN.out.1 HLN.out.2] at CV
              clear HOL
              refine CV.out.mono ?_
              rintro e w8 ⟨rfl, hk8⟩
              have HKN := Lib.hid (HKR.out.step (HKS.out.step hk8))
              clear hk8
              go_wp2_with fail
              go_roundw
              case rel => exact ⟨by simp, HKN⟩
              case measure => first | (simp [intOf]; done) | (simp [intOf]; omega)
            · go_wp2_with fail
              go_roundw
              case rel => exact ⟨by simp, HKR⟩
              case measure => first | (simp [intOf]; done) | (simp [intOf]; omega)
            · go_wp2_with fail
              go_roundw
              case rel => exact ⟨by simp, HKR⟩
              case measure => first | (simp [intOf]; done) | (simp [intOf]; omega)
            · go_wp2_with fail
              go_roundw
              case rel => exact ⟨by simp, HKR⟩
              case measure => first | (simp [intOf]; done) | (simp [intOf]; omega)
        · as_aux_lemma =>
            have x0 : wr.cell? ⟨w2.heap.size, 0, none⟩ = some (.slice S 4 4) := (HB6.out.keeps HKR.out).cell 0
            have x1 : wr.cell? ⟨w2.heap.size, 1, none⟩ = some (.slice A 4 4) := (HB6.out.keeps HKR.out).cell 1
            have x2 : wr.cell? ⟨w2.heap.size, 2, none⟩ = some (.slice B 4 4) := (HB6.out.keeps HKR.out).cell 2
            have CV := Lib.hid (validRules_any S A B 4 4 4 4 4 4 (lsI [0, 0, 0, 1]) (hdrR R1) (hdrR R2) (lsII [[0, 1, 2, 3], [1, 2, 3, 3], [2, 3, 3, 3], [3, 3, 3, 3]]) (lsII [[0, 0, 0, 3], [0, 0, 3, 3], [0, 3, 3, 3], [3, 3, 3, 3]]) wr (HR.out wr HKR.out))
            rw [rulT (by decide +kernel) (by omega) (hdrR R1) (hdrR R2) HLN.out.1 HLN.out.2] at CV
            go_wp2_with fail
            refine CV.out.mono ?_
            rintro e w7 ⟨rfl, hk7⟩
            have HKF := Lib.hid (HK2.out.step (HK6.out.step (HKR.out.step hk7)))
            clear hk7
            go_wp2_with fail
            go_ret
            exact ⟨rfl, HKF.out⟩
    · as_aux_lemma =>
      go_wp2_with fail
      refine (iRulesOf_most w1).mono ?_
      rintro e w2 ⟨S, A, B, R1, R2, rfl, ht1, ht2, hi, hc1, hc2', hk2⟩
      have HT := Lib.hid (And.intro ht1 ht2)
      have HI := Lib.hid hi
      have HC1 := Lib.hid hc1
      have HC2 := Lib.hid hc2'
      have HK2 := Lib.hid (HK1.out.step hk2)
      have HBX := Lib.hid (Blk.new w2 #[.slice S 4 4, .slice A 4 4, .slice B 4 4] 26)
      have HK3 := Lib.hid (Keeps.alloc w2 (.cells #[.slice S 4 4, .slice A 4 4, .slice B 4 4] 26))
      clear ht1 ht2 hi hc1 hc2' hk2 HK1
      go_wp2_with fail
      generalize (w2.alloc (.cells #[.slice S 4 4, .slice A 4 4, .slice B 4 4] 26)) = w3 at *
      refine (sRulesOf_of _ 4 [0, 1, 0, 1] (lsII [[0, 2, 0, 0], [2, 1, 1, 1], [2, 3, 2, 2], [2, 3, 2, 3]]) (lsII [[0, 2, 2, 2], [2, 1, 3, 3], [0, 1, 2, 2], [0, 1, 2, 3]]) rulesOf_most w3).mono ?_
      rintro e w4 ⟨S', A', B', rA, rB, rfl, hat, hla, hlb, hk4⟩
      have HAT := Lib.hid hat
      have HL := Lib.hid (And.intro hla hlb)
      have HK4 := Lib.hid (HK3.out.step hk4)
      have HB4 := Lib.hid (HBX.out.keeps hk4)
      have x0 : w4.cell? ⟨w2.heap.size, 0, none⟩ = some (.slice S 4 4) := HB4.out.cell 0
      have x1 : w4.cell? ⟨w2.heap.size, 1, none⟩ = some (.slice A 4 4) := HB4.out.cell 1
      have x2 : w4.cell? ⟨w2.heap.size, 2, none⟩ = some (.slice B 4 4) := HB4.out.cell 2
      have hxz := HB4.out.lt
      have HE := Lib.hid (eqRules_true S A B S' A' B' 4 4 4 4 4 4 4 (lsI [0, 1, 0, 1]) (hdrR R1) (hdrR R2) rA rB (lsII [[0, 2, 0, 0], [2, 1, 1, 1], [2, 3, 2, 2], [2, 3, 2, 3]]) (lsII [[0, 2, 2, 2], [2, 1, 3, 3], [0, 1, 2, 2], [0, 1, 2, 3]]) (lsII [[0, 2, 0, 0], [2, 1, 1, 1], [2, 3, 2, 2], [2, 3, 2, 3]]) (lsII [[0, 2, 2, 2], [2, 1, 3, 3], [0, 1, 2, 2], [0, 1, 2, 3]]) (w4.alloc (.cells #[.slice S' 4 4, .slice A' 4 4, .slice B' 4 4] 26)) (by omega) (HI.out.keeps (HK4.out.step (Keeps.alloc _ _))) (crnTab (HC1.out.keeps (HK4.out.step (Keeps.alloc _ _))) HT.out.1).1 (crnTab (HC2.out.keeps (HK4.out.step (Keeps.alloc _ _))) HT.out.2).1 (HAT.out.says.keeps (Keeps.alloc _ _)) (HAT.out.first.keeps (Keeps.alloc _ _)) (HAT.out.second.keeps (Keeps.alloc _ _)) (fun i hi => ⟨(crnTab HC1.out HT.out.1).2 i hi, (crnTab HC2.out HT.out.2).2 i hi, HL.out.1 i hi, HL.out.2 i hi⟩) (fun _ _ _ _ => ⟨rfl, rfl⟩))
      have HK5 := Lib.hid (HK4.out.step (Keeps.alloc w4 (.cells #[.slice S' 4 4, .slice A' 4 4, .slice B' 4 4] 26)))
      have HB5 := Lib.hid (HB4.out.keeps (Keeps.alloc w4 (.cells #[.slice S' 4 4, .slice A' 4 4, .slice B' 4 4] 26)))
      clear hat hla hlb hk4 HBX HK3 HAT HL HB4
      go_wp2_with fail
      generalize (w4.alloc (.cells #[.slice S' 4 4, .slice A' 4 4, .slice B' 4 4] 26)) = w5 at *
      clear x0 x1 x2 hxz HK4
      refine HE.out.mono ?_
      rintro e w6 ⟨rfl, hk6⟩
      have HK6 := Lib.hid (HK5.out.step hk6)
      have HB6 := Lib.hid (HB5.out.keeps hk6)
      have HR := Lib.hid (fun (W : World) (hK : Keeps w6 W) => toldRul (w := w) (W := W) (by omega) HT.out.1 HT.out.2 (HI.out.keeps (HK6.out.step hK)) (HC1.out.keeps (HK6.out.step hK)) (HC2.out.keeps (HK6.out.step hK)))
      have HLN := Lib.hid (And.intro (crnTab HC1.out HT.out.1).2 (crnTab HC2.out HT.out.2).2)
      clear hk6 HE HB5 HK5 HT HI HC1 HC2
      go_wp2_with fail
      go_loopw [8] (fun i wr => (i = .int .i64 0 ∨ i = .int .i64 1 ∨ i = .int .i64 2 ∨ i = .int .i64 3) ∧ Hid (Keeps w6 wr)) (fun i _ => 3 - (intOf i).toNat)
      case atStart => exact ⟨.inl rfl, Lib.hid (Keeps.refl _)⟩
      case round =>
        obtain ⟨hi, HKR⟩ := hrel
        rcases hi with rfl | rfl | rfl | rfl
        · as_aux_lemma =>
          go_wp2_with fail
          go_loopw [9] (fun i wr => (i = .int .i64 0 ∨ i = .int .i64 1 ∨ i = .int .i64 2 ∨ i = .int .i64 3 ∨ i = .int .i64 4) ∧ Hid (Keeps w6 wr)) (fun i _ => 4 - (intOf i).toNat)
          case atStart => exact ⟨.inl rfl, HKR⟩
          case round =>
            clear HKR
            obtain ⟨hi, HKR⟩ := hrel
            have hmk : ∀ w : World, (Instr.makeSlice 23 (.int .i64 4) (.int .i64 4)).run Try.prog w = .ok (.slice (some ⟨w.heap.size, 0, none⟩) 4 4) (w.alloc (.cells (madeCells #[.int .i64 0] 4) 3)) := make_ints 4 (by omega)
            have hm0 : (madeCells #[Value.int .i64 0] 4)[0]? = some (.int .i64 0) := by rw [← Array.getElem?_toList, toList_madeCells_one]; rfl
            have hm1 : (madeCells #[Value.int .i64 0] 4)[1]? = some (.int .i64 0) := by rw [← Array.getElem?_toList, toList_madeCells_one]; rfl
            have x0 : wr.cell? ⟨w2.heap.size, 0, none⟩ = some (.slice S 4 4) := (HB6.out.keeps HKR.out).cell 0
            rcases hi with rfl | rfl | rfl | rfl | rfl
            · go_wp2_with fail
              go_roundw
              case rel => exact ⟨by simp, HKR⟩
              case measure => first | (simp [intOf]; done) | (simp [intOf]; omega)
            · as_aux_lemma =>
              have HKS := Lib.hid (Keeps.alloc wr (.cells (((madeCells #[.int .i64 0] 4).setIfInBounds 0 (.int .i64 0)).setIfInBounds 1 (.int .i64 1)) 3))
              have HOL : Hid (Ints (wr.alloc (.cells (((madeCells #[.int .i64 0] 4).setIfInBounds 0 (.int .i64 0)).setIfInBounds 1 (.int .i64 1)) 3)) (some ⟨wr.heap.size, 0, none⟩) 4 (lsI [0, 1, 0, 0])) := Lib.hid (by
                have hcc : (((madeCells #[.int .i64 0] 4).setIfInBounds 0 (.int .i64 0)).setIfInBounds 1 (.int .i64 1)) = (List.map (Value.int .i64) [0, 1, 0, 0]).toArray := Array.ext' (by rw [Array.toList_setIfInBounds, Array.toList_setIfInBounds, toList_madeCells_one]; rfl)
                rw [hcc]
                exact ints_of (Blk.new wr _ _))
              have HO := Lib.hid (OwnInts.make wr wr.heap.size 4 (Nat.le_refl _) (by omega))
              have HO1 := Lib.hid (HO.out.set 0 0)
              have c1 := HO.out.cell 0 (by omega)
              have f1 := HO.out.frozen 0
              have c2 := HO1.out.cell 1 (by omega)
              have f2 := HO1.out.frozen 1
              have x1 : wr.cell? ⟨w2.heap.size, 1, none⟩ = some (.slice A 4 4) := (HB6.out.keeps HKR.out).cell 1
              have x2 : wr.cell? ⟨w2.heap.size, 2, none⟩ = some (.slice B 4 4) := (HB6.out.keeps HKR.out).cell 2
              have hxz : w2.heap.size < wr.heap.size := (HB6.out.keeps HKR.out).lt
              go_wp2_with fail
              clear HO HO1 c1 f1 c2 f2 x0 x1 x2 hxz
              generalize (wr.alloc (.cells (((madeCells #[.int .i64 0] 4).setIfInBounds 0 (.int .i64 0)).setIfInBounds 1 (.int .i64 1)) 3)) = w7 at *
              have CV := Lib.hid (iVerdictOf_any S A B (some ⟨wr.heap.size, 0, none⟩) 4 4 4 4 4 4 4 (lsI [0, 1, 0, 1]) (hdrR R1) (hdrR R2) (lsII [[0, 2, 0, 0], [2, 1, 1, 1], [2, 3, 2, 2], [2, 3, 2, 3]]) (lsII [[0, 2, 2, 2], [2, 1, 3, 3], [0, 1, 2, 2], [0, 1, 2, 3]]) [0, 1, 0, 0] w7 (HR.out w7 (HKR.out.step HKS.out)) HOL.out (by decide))
              rw [verd_most_01 (hdrR R1) (hdrR R2) HLN.out.1 HLN.out.2] at CV
              clear HOL
              refine CV.out.mono ?_
              rintro e w8 ⟨rfl, hk8⟩
              have HKN := Lib.hid (HKR.out.step (HKS.out.step hk8))
              clear hk8
              go_wp2_with fail
              go_roundw
              case rel => exact ⟨by simp, HKN⟩
              case measure => first | (simp [intOf]; done) | (simp [intOf]; omega)
            · as_aux_lemma =>
              have HKS := Lib.hid (Keeps.alloc wr (.cells (((madeCells #[.int .i64 0] 4).setIfInBounds 0 (.int .i64 0)).setIfInBounds 1 (.int .i64 2)) 3))
              have HOL : Hid (Ints (wr.alloc (.cells (((madeCells #[.int .i64 0] 4).setIfInBounds 0 (.int .i64 0)).setIfInBounds 1 (.int .i64 2)) 3)) (some ⟨wr.heap.size, 0, none⟩) 4 (lsI [0, 2, 0, 0])) := Lib.hid (by
                have hcc : (((madeCells #[.int .i64 0] 4).setIfInBounds 0 (.int .i64 0)).setIfInBounds 1 (.int .i64 2)) = (List.map (Value.int .i64) [0, 2, 0, 0]).toArray := Array.ext' (by rw [Array.toList_setIfInBounds, Array.toList_setIfInBounds, toList_madeCells_one]; rfl)
                rw [hcc]
                exact ints_of (Blk.new wr _ _))
              have HO := Lib.hid (OwnInts.make wr wr.heap.size 4 (Nat.le_refl _) (by omega))
              have HO1 := Lib.hid (HO.out.set 0 0)
              have c1 := HO.out.cell 0 (by omega)
              have f1 := HO.out.frozen 0
              have c2 := HO1.out.cell 1 (by omega)
              have f2 := HO1.out.frozen 1
              have x1 : wr.cell? ⟨w2.heap.size, 1, none⟩ = some (.slice A 4 4) := (HB6.out.keeps HKR.out).cell 1
              have x2 : wr.cell? ⟨w2.heap.size, 2, none⟩ = some (.slice B 4 4) := (HB6.out.keeps HKR.out).cell 2
              have hxz : w2.heap.size < wr.heap.size := (HB6.out.keeps HKR.out).lt
              go_wp2_with fail
              clear HO HO1 c1 f1 c2 f2 x0 x1 x2 hxz
              generalize (wr.alloc (.cells (((madeCells #[.int .i64 0] 4).setIfInBounds 0 (.int .i64 0)).setIfInBounds 1 (.int .i64 2)) 3)) = w7 at *
              have CV := Lib.hid (iVerdictOf_any S A B (some ⟨wr.heap.size, 0, none⟩) 4 4 4 4 4 4 4 (lsI [0, 1, 0, 1]) (hdrR R1) (hdrR R2) (lsII [[0, 2, 0, 0], [2, 1, 1, 1], [2, 3, 2, 2], [2, 3, 2, 3]]) (lsII [[0, 2, 2, 2], [2, 1, 3, 3], [0, 1, 2, 2], [0, 1, 2, 3]]) [0, 2, 0, 0] w7 (HR.out w7 (HKR.out.step HKS.out)) HOL.out (by decide))
              rw [verd_most_02 (hdrR R1) (hdrR R2) HLN.out.1 HLN.out.2] at CV
              clear HOL
              refine CV.out.mono ?_
              rintro e w8 ⟨rfl, hk8⟩
              have HKN := Lib.hid (HKR.out.step (HKS.out.step hk8))
              clear hk8
              go_wp2_with fail
              go_roundw
              case rel => exact ⟨by simp, HKN⟩
              case measure => first | (simp [intOf]; done) | (simp [intOf]; omega)
            · as_aux_lemma =>
              have HKS := Lib.hid (Keeps.alloc wr (.cells (((madeCells #[.int .i64 0] 4).setIfInBounds 0 (.int .i64 0)).setIfInBounds 1 (.int .i64 3)) 3))
              have HOL : Hid (Ints (wr.alloc (.cells (((madeCells #[.int .i64 0] 4).setIfInBounds 0 (.int .i64 0)).setIfInBounds 1 (.int .i64 3)) 3)) (some ⟨wr.heap.size, 0, none⟩) 4 (lsI [0, 3, 0, 0])) := Lib.hid (by
                have hcc : (((madeCells #[.int .i64 0] 4).setIfInBounds 0 (.int .i64 0)).setIfInBounds 1 (.int .i64 3)) = (List.map (Value.int .i64) [0, 3, 0, 0]).toArray := Array.ext' (by rw [Array.toList_setIfInBounds, Array.toList_setIfInBounds, toList_madeCells_one]; rfl)
                rw [hcc]
                exact ints_of (Blk.new wr _ _))
              have HO := Lib.hid (OwnInts.make wr wr.heap.size 4 (Nat.le_refl _) (by omega))
              have HO1 := Lib.hid (HO.out.set 0 0)
              have c1 := HO.out.cell 0 (by omega)
              have f1 := HO.out.frozen 0
              have c2 := HO1.out.cell 1 (by omega)
              have f2 := HO1.out.frozen 1
              have x1 : wr.cell? ⟨w2.heap.size, 1, none⟩ = some (.slice A 4 4) := (HB6.out.keeps HKR.out).cell 1
              have x2 : wr.cell? ⟨w2.heap.size, 2, none⟩ = some (.slice B 4 4) := (HB6.out.keeps HKR.out).cell 2
              have hxz : w2.heap.size < wr.heap.size := (HB6.out.keeps HKR.out).lt
              go_wp2_with fail
              clear HO HO1 c1 f1 c2 f2 x0 x1 x2 hxz
              generalize (wr.alloc (.cells (((madeCells #[.int .i64 0] 4).setIfInBounds 0 (.int .i64 0)).setIfInBounds 1 (.int .i64 3)) 3)) = w7 at *
              have CV := Lib.hid (iVerdictOf_any S A B (some ⟨wr.heap.size, 0, none⟩) 4 4 4 4 4 4 4 (lsI [0, 1, 0, 1]) (hdrR R1) (hdrR R2) (lsII [[0, 2, 0, 0], [2, 1, 1, 1], [2, 3, 2, 2], [2, 3, 2, 3]]) (lsII [[0, 2, 2, 2], [2, 1, 3, 3], [0, 1, 2, 2], [0, 1, 2, 3]]) [0, 3, 0, 0] w7 (HR.out w7 (HKR.out.step HKS.out)) HOL.out (by decide))
              rw [verd_most_03 (hdrR R1) (hdrR R2) HLN.out.1 HLN.out.2] at CV
              clear HOL
              refine CV.out.mono ?_
              rintro e w8 ⟨rfl, hk8⟩
              have HKN := Lib.hid (HKR.out.step (HKS.out.step hk8))
              clear hk8
              go_wp2_with fail
              go_roundw
              case rel => exact ⟨by simp, HKN⟩
              case measure => first | (simp [intOf]; done) | (simp [intOf]; omega)
            · go_wp2_with fail
              go_roundw
              case rel => exact ⟨by simp, HKR⟩
              case measure => first | (simp [intOf]; done) | (simp [intOf]; omega)
        · as_aux_lemma =>
          go_wp2_with fail
          go_loopw [9] (fun i wr => (i = .int .i64 0 ∨ i = .int .i64 1 ∨ i = .int .i64 2 ∨ i = .int .i64 3 ∨ i = .int .i64 4) ∧ Hid (Keeps w6 wr)) (fun i _ => 4 - (intOf i).toNat)
          case atStart => exact ⟨.inl rfl, HKR⟩
          case round =>
            clear HKR
            obtain ⟨hi, HKR⟩ := hrel
            have hmk : ∀ w : World, (Instr.makeSlice 23 (.int .i64 4) (.int .i64 4)).run Try.prog w = .ok (.slice (some ⟨w.heap.size, 0, none⟩) 4 4) (w.alloc (.cells (madeCells #[.int .i64 0] 4) 3)) := make_ints 4 (by omega)
            have hm0 : (madeCells #[Value.int .i64 0] 4)[0]? = some (.int .i64 0) := by rw [← Array.getElem?_toList, toList_madeCells_one]; rfl
            have hm1 : (madeCells #[Value.int .i64 0] 4)[1]? = some (.int .i64 0) := by rw [← Array.getElem?_toList, toList_madeCells_one]; rfl
            have x0 : wr.cell? ⟨w2.heap.size, 0, none⟩ = some (.slice S 4 4) := (HB6.out.keeps HKR.out).cell 0
            rcases hi with rfl | rfl | rfl | rfl | rfl
            · as_aux_lemma =>
              have HKS := Lib.hid (Keeps.alloc wr (.cells (((madeCells #[.int .i64 0] 4).setIfInBounds 0 (.int .i64 1)).setIfInBounds 1 (.int .i64 0)) 3))
              have HOL : Hid (Ints (wr.alloc (.cells (((madeCells #[.int .i64 0] 4).setIfInBounds 0 (.int .i64 1)).setIfInBounds 1 (.int .i64 0)) 3)) (some ⟨wr.heap.size, 0, none⟩) 4 (lsI [1, 0, 0, 0])) := Lib.hid (by
                have hcc : (((madeCells #[.int .i64 0] 4).setIfInBounds 0 (.int .i64 1)).setIfInBounds 1 (.int .i64 0)) = (List.map (Value.int .i64) [1, 0, 0, 0]).toArray := Array.ext' (by rw [Array.toList_setIfInBounds, Array.toList_setIfInBounds, toList_madeCells_one]; rfl)
                rw [hcc]
                exact ints_of (Blk.new wr _ _))
              have HO := Lib.hid (OwnInts.make wr wr.heap.size 4 (Nat.le_refl _) (by omega))
              have HO1 := Lib.hid (HO.out.set 0 1)
              have c1 := HO.out.cell 0 (by omega)
              have f1 := HO.out.frozen 0
              have c2 := HO1.out.cell 1 (by omega)
              have f2 := HO1.out.frozen 1
              have x1 : wr.cell? ⟨w2.heap.size, 1, none⟩ = some (.slice A 4 4) := (HB6.out.keeps HKR.out).cell 1
              have x2 : wr.cell? ⟨w2.heap.size, 2, none⟩ = some (.slice B 4 4) := (HB6.out.keeps HKR.out).cell 2
              have hxz : w2.heap.size < wr.heap.size := (HB6.out.keeps HKR.out).lt
              go_wp2_with fail
              clear HO HO1 c1 f1 c2 f2 x0 x1 x2 hxz
              generalize (wr.alloc (.cells (((madeCells #[.int .i64 0] 4).setIfInBounds 0 (.int .i64 1)).setIfInBounds 1 (.int .i64 0)) 3)) = w7 at *
              have CV := Lib.hid (iVerdictOf_any S A B (some ⟨wr.heap.size, 0, none⟩) 4 4 4 4 4 4 4 (lsI [0, 1, 0, 1]) (hdrR R1) (hdrR R2) (lsII [[0, 2, 0, 0], [2, 1, 1, 1], [2, 3, 2, 2], [2, 3, 2, 3]]) (lsII [[0, 2, 2, 2], [2, 1, 3, 3], [0, 1, 2, 2], [0, 1, 2, 3]]) [1, 0, 0, 0] w7 (HR.out w7 (HKR.out.step HKS.out)) HOL.out (by decide))
              rw [verd_most_10 (hdrR R1) (hdrR R2) HLN.out.1 HLN.out.2] at CV
              clear HOL
              refine CV.out.mono ?_
              rintro e w8 ⟨rfl, hk8⟩
              have HKN := Lib.hid (HKR.out.step (HKS.out.step hk8))
              clear hk8
              go_wp2_with fail
              go_roundw
              case rel => exact ⟨by simp, HKN⟩
              case measure => first | (simp [intOf]; done) | (simp [intOf]; omega)
            · as_aux_lemma =>
              have HKS := Lib.hid (Keeps.alloc wr (.cells (((madeCells #[.int .i64 0] 4).setIfInBounds 0 (.int .i64 1)).setIfInBounds 1 (.int .i64 1)) 3))
              have HOL : Hid (Ints (wr.alloc (.cells (((madeCells #[.int .i64 0] 4).setIfInBounds 0 (.int .i64 1)).setIfInBounds 1 (.int .i64 1)) 3)) (some ⟨wr.heap.size, 0, none⟩) 4 (lsI [1, 1, 0, 0])) := Lib.hid (by
                have hcc : (((madeCells #[.int .i64 0] 4).setIfInBounds 0 (.int .i64 1)).setIfInBounds 1 (.int .i64 1)) = (List.map (Value.int .i64) [1, 1, 0, 0]).toArray := Array.ext' (by rw [Array.toList_setIfInBounds, Array.toList_setIfInBounds, toList_madeCells_one]; rfl)
                rw [hcc]
                exact ints_of (Blk.new wr _ _))
              have HO := Lib.hid (OwnInts.make wr wr.heap.size 4 (Nat.le_refl _) (by omega))
              have HO1 := Lib.hid (HO.out.set 0 1)
              have c1 := HO.out.cell 0 (by omega)
              have f1 := HO.out.frozen 0
              have c2 := HO1.out.cell 1 (by omega)
              have f2 := HO1.out.frozen 1
              have x1 : wr.cell? ⟨w2.heap.size, 1, none⟩ = some (.slice A 4 4) := (HB6.out.keeps HKR.out).cell 1
              have x2 : wr.cell? ⟨w2.heap.size, 2, none⟩ = some (.slice B 4 4) := (HB6.out.keeps HKR.out).cell 2
              have hxz : w2.heap.size < wr.heap.size := (HB6.out.keeps HKR.out).lt
              go_wp2_with fail
              clear HO HO1 c1 f1 c2 f2 x0 x1 x2 hxz
              generalize (wr.alloc (.cells (((madeCells #[.int .i64 0] 4).setIfInBounds 0 (.int .i64 1)).setIfInBounds 1 (.int .i64 1)) 3)) = w7 at *
              have CV := Lib.hid (iVerdictOf_any S A B (some ⟨wr.heap.size, 0, none⟩) 4 4 4 4 4 4 4 (lsI [0, 1, 0, 1]) (hdrR R1) (hdrR R2) (lsII [[0, 2, 0, 0], [2, 1, 1, 1], [2, 3, 2, 2], [2, 3, 2, 3]]) (lsII [[0, 2, 2, 2], [2, 1, 3, 3], [0, 1, 2, 2], [0, 1, 2, 3]]) [1, 1, 0, 0] w7 (HR.out w7 (HKR.out.step HKS.out)) HOL.out (by decide))
              rw [verd_most_11 (hdrR R1) (hdrR R2) HLN.out.1 HLN.out.2] at CV
              clear HOL
              refine CV.out.mono ?_
              rintro e w8 ⟨rfl, hk8⟩
              have HKN := Lib.hid (HKR.out.step (HKS.out.step hk8))
              clear hk8
              go_wp2_with fail
              go_roundw
              case rel => exact ⟨by simp, HKN⟩
              case measure => first | (simp [intOf]; done) | (simp [intOf]; omega)
            · as_aux_lemma =>
              have HKS := Lib.hid (Keeps.alloc wr (.cells (((madeCells #[.int .i64 0] 4).setIfInBounds 0 (.int .i64 1)).setIfInBounds 1 (.int .i64 2)) 3))
              have HOL : Hid (Ints (wr.alloc (.cells (((madeCells #[.int .i64 0] 4).setIfInBounds 0 (.int .i64 1)).setIfInBounds 1 (.int .i64 2)) 3)) (some ⟨wr.heap.size, 0, none⟩) 4 (lsI [1, 2, 0, 0])) := Lib.hid (by
                have hcc : (((madeCells #[.int .i64 0] 4).setIfInBounds 0 (.int .i64 1)).setIfInBounds 1 (.int .i64 2)) = (List.map (Value.int .i64) [1, 2, 0, 0]).toArray := Array.ext' (by rw [Array.toList_setIfInBounds, Array.toList_setIfInBounds, toList_madeCells_one]; rfl)
                rw [hcc]
                exact ints_of (Blk.new wr _ _))
              have HO := Lib.hid (OwnInts.make wr wr.heap.size 4 (Nat.le_refl _) (by omega))
              have HO1 := Lib.hid (HO.out.set 0 1)
              have c1 := HO.out.cell 0 (by omega)
              have f1 := HO.out.frozen 0
              have c2 := HO1.out.cell 1 (by omega)
              have f2 := HO1.out.frozen 1
              have x1 : wr.cell? ⟨w2.heap.size, 1, none⟩ = some (.slice A 4 4) := (HB6.out.keeps HKR.out).cell 1
              have x2 : wr.cell? ⟨w2.heap.size, 2, none⟩ = some (.slice B 4 4) := (HB6.out.keeps HKR.out).cell 2
              have hxz : w2.heap.size < wr.heap.size := (HB6.out.keeps HKR.out).lt
              go_wp2_with fail
              clear HO HO1 c1 f1 c2 f2 x0 x1 x2 hxz
              generalize (wr.alloc (.cells (((madeCells #[.int .i64 0] 4).setIfInBounds 0 (.int .i64 1)).setIfInBounds 1 (.int .i64 2)) 3)) = w7 at *
              have CV := Lib.hid (iVerdictOf_any S A B (some ⟨wr.heap.size, 0, none⟩) 4 4 4 4 4 4 4 (lsI [0, 1, 0, 1]) (hdrR R1) (hdrR R2) (lsII [[0, 2, 0, 0], [2, 1, 1, 1], [2, 3, 2, 2], [2, 3, 2, 3]]) (lsII [[0, 2, 2, 2], [2, 1, 3, 3], [0, 1, 2, 2], [0, 1, 2, 3]]) [1, 2, 0, 0] w7 (HR.out w7 (HKR.out.step HKS.out)) HOL.out (by decide))
              rw [verd_most_12 (hdrR R1) (hdrR R2) HLN.out.1 HLN.out.2] at CV
              clear HOL
              refine CV.out.mono ?_
              rintro e w8 ⟨rfl, hk8⟩
              have HKN := Lib.hid (HKR.out.step (HKS.out.step hk8))
              clear hk8
              go_wp2_with fail
              go_roundw
              case rel => exact ⟨by simp, HKN⟩
              case measure => first | (simp [intOf]; done) | (simp [intOf]; omega)
            · go_wp2_with fail
              go_roundw
              case rel => exact ⟨by simp, HKR⟩
              case measure => first | (simp [intOf]; done) | (simp [intOf]; omega)
            · go_wp2_with fail
              go_roundw
              case rel => exact ⟨by simp, HKR⟩
              case measure => first | (simp [intOf]; done) | (simp [intOf]; omega)
        · as_aux_lemma =>
          go_wp2_with fail
          go_loopw [9] (fun i wr => (i = .int .i64 0 ∨ i = .int .i64 1 ∨ i = .int .i64 2 ∨ i = .int .i64 3 ∨ i = .int .i64 4) ∧ Hid (Keeps w6 wr)) (fun i _ => 4 - (intOf i).toNat)
          case atStart => exact ⟨.inl rfl, HKR⟩
          case round =>
            clear HKR
            obtain ⟨hi, HKR⟩ := hrel
            have hmk : ∀ w : World, (Instr.makeSlice 23 (.int .i64 4) (.int .i64 4)).run Try.prog w = .ok (.slice (some ⟨w.heap.size, 0, none⟩) 4 4) (w.alloc (.cells (madeCells #[.int .i64 0] 4) 3)) := make_ints 4 (by omega)
            have hm0 : (madeCells #[Value.int .i64 0] 4)[0]? = some (.int .i64 0) := by rw [← Array.getElem?_toList, toList_madeCells_one]; rfl
            have hm1 : (madeCells #[Value.int .i64 0] 4)[1]? = some (.int .i64 0) := by rw [← Array.getElem?_toList, toList_madeCells_one]; rfl
            have x0 : wr.cell? ⟨w2.heap.size, 0, none⟩ = some (.slice S 4 4) := (HB6.out.keeps HKR.out).cell 0
            rcases hi with rfl | rfl | rfl | rfl | rfl
            · as_aux_lemma =>
              have HKS := Lib.hid (Keeps.alloc wr (.cells (((madeCells #[.int .i64 0] 4).setIfInBounds 0 (.int .i64 2)).setIfInBounds 1 (.int .i64 0)) 3))
              have HOL : Hid (Ints (wr.alloc (.cells (((madeCells #[.int .i64 0] 4).setIfInBounds 0 (.int .i64 2)).setIfInBounds 1 (.int .i64 0)) 3)) (some ⟨wr.heap.size, 0, none⟩) 4 (lsI [2, 0, 0, 0])) := Lib.hid (by
                have hcc : (((madeCells #[.int .i64 0] 4).setIfInBounds 0 (.int .i64 2)).setIfInBounds 1 (.int .i64 0)) = (List.map (Value.int .i64) [2, 0, 0, 0]).toArray := Array.ext' (by rw [Array.toList_setIfInBounds, Array.toList_setIfInBounds, toList_madeCells_one]; rfl)
                rw [hcc]
                exact ints_of (Blk.new wr _ _))
              have HO := Lib.hid (OwnInts.make wr wr.heap.size 4 (Nat.le_refl _) (by omega))
              have HO1 := Lib.hid (HO.out.set 0 2)
              have c1 := HO.out.cell 0 (by omega)
              have f1 := HO.out.frozen 0
              have c2 := HO1.out.cell 1 (by omega)
              have f2 := HO1.out.frozen 1
              have x1 : wr.cell? ⟨w2.heap.size, 1, none⟩ = some (.slice A 4 4) := (HB6.out.keeps HKR.out).cell 1
              have x2 : wr.cell? ⟨w2.heap.size, 2, none⟩ = some (.slice B 4 4) := (HB6.out.keeps HKR.out).cell 2
              have hxz : w2.heap.size < wr.heap.size := (HB6.out.keeps HKR.out).lt
              go_wp2_with fail
              clear HO HO1 c1 f1 c2 f2 x0 x1 x2 hxz
              generalize (wr.alloc (.cells (((madeCells #[.int .i64 0] 4).setIfInBounds 0 (.int .i64 2)).setIfInBounds 1 (.int .i64 0)) 3)) = w7 at *
              have CV := Lib.hid (iVerdictOf_any S A B (some ⟨wr.heap.size, 0, none⟩) 4 4 4 4 4 4 4 (lsI [0, 1, 0, 1]) (hdrR R1) (hdrR R2) (lsII [[0, 2, 0, 0], [2, 1, 1, 1], [2, 3, 2, 2], [2, 3, 2, 3]]) (lsII [[0, 2, 2, 2], [2, 1, 3, 3], [0, 1, 2, 2], [0, 1, 2, 3]]) [2, 0, 0, 0] w7 (HR.out w7 (HKR.out.step HKS.out)) HOL.out (by decide))
              rw [verd_most_20 (hdrR R1) (hdrR R2) HLN.out.1 HLN.out.2] at CV
              clear HOL
              refine CV.out.mono ?_
              rintro e w8 ⟨rfl, hk8⟩
              have HKN := Lib.hid (HKR.out.step (HKS.out.step hk8))
              clear hk8
              go_wp2_with fail
              go_roundw
              case rel => exact ⟨by simp, HKN⟩
              case measure => first | (simp [intOf]; done) | (simp [intOf]; omega)
            · as_aux_lemma =>
              have HKS := Lib.hid (Keeps.alloc wr (.cells (((madeCells #[.int .i64 0] 4).setIfInBounds 0 (.int .i64 2)).setIfInBounds 1 (.int .i64 1)) 3))
              have HOL : Hid (Ints (wr.alloc (.cells (((madeCells #[.int .i64 0] 4).setIfInBounds 0 (.int .i64 2)).setIfInBounds 1 (.int .i64 1)) 3)) (some ⟨wr.heap.size, 0, none⟩) 4 (lsI [2, 1, 0, 0])) := Lib.hid (by
                have hcc : (((madeCells #[.int .i64 0] 4).setIfInBounds 0 (.int .i64 2)).setIfInBounds 1 (.int .i64 1)) = (List.map (Value.int .i64) [2, 1, 0, 0]).toArray := Array.ext' (by rw [Array.toList_setIfInBounds, Array.toList_setIfInBounds, toList_madeCells_one]; rfl)
                rw [hcc]
                exact ints_of (Blk.new wr _ _))
              have HO := Lib.hid (OwnInts.make wr wr.heap.size 4 (Nat.le_refl _) (by omega))
              have HO1 := Lib.hid (HO.out.set 0 2)
              have c1 := HO.out.cell 0 (by omega)
              have f1 := HO.out.frozen 0
              have c2 := HO1.out.cell 1 (by omega)
              have f2 := HO1.out.frozen 1
              have x1 : wr.cell? ⟨w2.heap.size, 1, none⟩ = some (.slice A 4 4) := (HB6.out.keeps HKR.out).cell 1
              have x2 : wr.cell? ⟨w2.heap.size, 2, none⟩ = some (.slice B 4 4) := (HB6.out.keeps HKR.out).cell 2
              have hxz : w2.heap.size < wr.heap.size := (HB6.out.keeps HKR.out).lt
              go_wp2_with fail
              clear HO HO1 c1 f1 c2 f2 x0 x1 x2 hxz
              generalize (wr.alloc (.cells (((madeCells #[.int .i64 0] 4).setIfInBounds 0 (.int .i64 2)).setIfInBounds 1 (.int .i64 1)) 3)) = w7 at *
              have CV := Lib.hid (iVerdictOf_any S A B (some ⟨wr.heap.size, 0, none⟩) 4 4 4 4 4 4 4 (lsI [0, 1, 0, 1]) (hdrR R1) (hdrR R2) (lsII [[0, 2, 0, 0], [2, 1, 1, 1], [2, 3, 2, 2], [2, 3, 2, 3]]) (lsII [[0, 2, 2, 2], [2, 1, 3, 3], [0, 1, 2, 2], [0, 1, 2, 3]]) [2, 1, 0, 0] w7 (HR.out w7 (HKR.out.step HKS.out)) HOL.out (by decide))
              rw [verd_most_21 (hdrR R1) (hdrR R2) HLN.out.1 HLN.out.2] at CV
              clear HOL
              refine CV.out.mono ?_
              rintro e w8 ⟨rfl, hk8⟩
              have HKN := Lib.hid (HKR.out.step (HKS.out.step hk8))
              clear hk8
              go_wp2_with fail
              go_roundw
              case rel => exact ⟨by simp, HKN⟩
              case measure => first | (simp [intOf]; done) | (simp [intOf]; omega)
            · go_wp2_with fail
              go_roundw
              case rel => exact ⟨by simp, HKR⟩
              case measure => first | (simp [intOf]; done) | (simp [intOf]; omega)
            · go_wp2_with fail
              go_roundw
              case rel => exact ⟨by simp, HKR⟩
              case measure => first | (simp [intOf]; done) | (simp [intOf]; omega)
            · go_wp2_with fail
              go_roundw
              case rel => exact ⟨by simp, HKR⟩
              case measure => first | (simp [intOf]; done) | (simp [intOf]; omega)
        · as_aux_lemma =>
            have x0 : wr.cell? ⟨w2.heap.size, 0, none⟩ = some (.slice S 4 4) := (HB6.out.keeps HKR.out).cell 0
            have x1 : wr.cell? ⟨w2.heap.size, 1, none⟩ = some (.slice A 4 4) := (HB6.out.keeps HKR.out).cell 1
            have x2 : wr.cell? ⟨w2.heap.size, 2, none⟩ = some (.slice B 4 4) := (HB6.out.keeps HKR.out).cell 2
            have CV := Lib.hid (validRules_any S A B 4 4 4 4 4 4 (lsI [0, 1, 0, 1]) (hdrR R1) (hdrR R2) (lsII [[0, 2, 0, 0], [2, 1, 1, 1], [2, 3, 2, 2], [2, 3, 2, 3]]) (lsII [[0, 2, 2, 2], [2, 1, 3, 3], [0, 1, 2, 2], [0, 1, 2, 3]]) wr (HR.out wr HKR.out))
            rw [rulT (by decide +kernel) (by omega) (hdrR R1) (hdrR R2) HLN.out.1 HLN.out.2] at CV
            go_wp2_with fail
            refine CV.out.mono ?_
            rintro e w7 ⟨rfl, hk7⟩
            have HKF := Lib.hid (HK2.out.step (HK6.out.step (HKR.out.step hk7)))
            clear hk7
            go_wp2_with fail
            go_ret
            exact ⟨rfl, HKF.out⟩
    · as_aux_lemma =>
      go_wp2_with fail
      refine (iRulesOf_odd w1).mono ?_
      rintro e w2 ⟨S, A, B, R1, R2, rfl, ht1, ht2, hi, hc1, hc2', hk2⟩
      have HT := Lib.hid (And.intro ht1 ht2)
      have HI := Lib.hid hi
      have HC1 := Lib.hid hc1
      have HC2 := Lib.hid hc2'
      have HK2 := Lib.hid (HK1.out.step hk2)
      have HBX := Lib.hid (Blk.new w2 #[.slice S 4 4, .slice A 4 4, .slice B 4 4] 26)
      have HK3 := Lib.hid (Keeps.alloc w2 (.cells #[.slice S 4 4, .slice A 4 4, .slice B 4 4] 26))
      clear ht1 ht2 hi hc1 hc2' hk2 HK1
      go_wp2_with fail
      generalize (w2.alloc (.cells #[.slice S 4 4, .slice A 4 4, .slice B 4 4] 26)) = w3 at *
      refine (sRulesOf_of _ 4 [0, 1, 0, 1] (lsII [[0, 1, 0, 0], [1, 0, 1, 1], [2, 3, 2, 2], [2, 3, 3, 3]]) (lsII [[2, 3, 2, 2], [3, 2, 3, 3], [0, 1, 2, 3], [0, 1, 2, 3]]) rulesOf_odd w3).mono ?_
      rintro e w4 ⟨S', A', B', rA, rB, rfl, hat, hla, hlb, hk4⟩
      have HAT := Lib.hid hat
      have HL := Lib.hid (And.intro hla hlb)
      have HK4 := Lib.hid (HK3.out.step hk4)
      have HB4 := Lib.hid (HBX.out.keeps hk4)
      have x0 : w4.cell? ⟨w2.heap.size, 0, none⟩ = some (.slice S 4 4) := HB4.out.cell 0
      have x1 : w4.cell? ⟨w2.heap.size, 1, none⟩ = some (.slice A 4 4) := HB4.out.cell 1
      have x2 : w4.cell? ⟨w2.heap.size, 2, none⟩ = some (.slice B 4 4) := HB4.out.cell 2
      have hxz := HB4.out.lt
      have HE := Lib.hid (eqRules_true S A B S' A' B' 4 4 4 4 4 4 4 (lsI [0, 1, 0, 1]) (hdrR R1) (hdrR R2) rA rB (lsII [[0, 1, 0, 0], [1, 0, 1, 1], [2, 3, 2, 2], [2, 3, 3, 3]]) (lsII [[2, 3, 2, 2], [3, 2, 3, 3], [0, 1, 2, 3], [0, 1, 2, 3]]) (lsII [[0, 1, 0, 0], [1, 0, 1, 1], [2, 3, 2, 2], [2, 3, 3, 3]]) (lsII [[2, 3, 2, 2], [3, 2, 3, 3], [0, 1, 2, 3], [0, 1, 2, 3]]) (w4.alloc (.cells #[.slice S' 4 4, .slice A' 4 4, .slice B' 4 4] 26)) (by omega) (HI.out.keeps (HK4.out.step (Keeps.alloc _ _))) (crnTab (HC1.out.keeps (HK4.out.step (Keeps.alloc _ _))) HT.out.1).1 (crnTab (HC2.out.keeps (HK4.out.step (Keeps.alloc _ _))) HT.out.2).1 (HAT.out.says.keeps (Keeps.alloc _ _)) (HAT.out.first.keeps (Keeps.alloc _ _)) (HAT.out.second.keeps (Keeps.alloc _ _)) (fun i hi => ⟨(crnTab HC1.out HT.out.1).2 i hi, (crnTab HC2.out HT.out.2).2 i hi, HL.out.1 i hi, HL.out.2 i hi⟩) (fun _ _ _ _ => ⟨rfl, rfl⟩))
      have HK5 := Lib.hid (HK4.out.step (Keeps.alloc w4 (.cells #[.slice S' 4 4, .slice A' 4 4, .slice B' 4 4] 26)))
      have HB5 := Lib.hid (HB4.out.keeps (Keeps.alloc w4 (.cells #[.slice S' 4 4, .slice A' 4 4, .slice B' 4 4] 26)))
      clear hat hla hlb hk4 HBX HK3 HAT HL HB4
      go_wp2_with fail
      generalize (w4.alloc (.cells #[.slice S' 4 4, .slice A' 4 4, .slice B' 4 4] 26)) = w5 at *
      clear x0 x1 x2 hxz HK4
      refine HE.out.mono ?_
      rintro e w6 ⟨rfl, hk6⟩
      have HK6 := Lib.hid (HK5.out.step hk6)
      have HB6 := Lib.hid (HB5.out.keeps hk6)
      have HR := Lib.hid (fun (W : World) (hK : Keeps w6 W) => toldRul (w := w) (W := W) (by omega) HT.out.1 HT.out.2 (HI.out.keeps (HK6.out.step hK)) (HC1.out.keeps (HK6.out.step hK)) (HC2.out.keeps (HK6.out.step hK)))
      have HLN := Lib.hid (And.intro (crnTab HC1.out HT.out.1).2 (crnTab HC2.out HT.out.2).2)
      clear hk6 HE HB5 HK5 HT HI HC1 HC2
      go_wp2_with fail
      go_loopw [8] (fun i wr => (i = .int .i64 0 ∨ i = .int .i64 1 ∨ i = .int .i64 2 ∨ i = .int .i64 3) ∧ Hid (Keeps w6 wr)) (fun i _ => 3 - (intOf i).toNat)
      case atStart => exact ⟨.inl rfl, Lib.hid (Keeps.refl _)⟩
      case round =>
        obtain ⟨hi, HKR⟩ := hrel
        rcases hi with rfl | rfl | rfl | rfl
        · as_aux_lemma =>
          go_wp2_with fail
          go_loopw [9] (fun i wr => (i = .int .i64 0 ∨ i = .int .i64 1 ∨ i = .int .i64 2 ∨ i = .int .i64 3 ∨ i = .int .i64 4) ∧ Hid (Keeps w6 wr)) (fun i _ => 4 - (intOf i).toNat)
          case atStart => exact ⟨.inl rfl, HKR⟩
          case round =>
            clear HKR
            obtain ⟨hi, HKR⟩ := hrel
            have hmk : ∀ w : World, (Instr.makeSlice 23 (.int .i64 4) (.int .i64 4)).run Try.prog w = .ok (.slice (some ⟨w.heap.size, 0, none⟩) 4 4) (w.alloc (.cells (madeCells #[.int .i64 0] 4) 3)) := make_ints 4 (by omega)
            have hm0 : (madeCells #[Value.int .i64 0] 4)[0]? = some (.int .i64 0) := by rw [← Array.getElem?_toList, toList_madeCells_one]; rfl
            have hm1 : (madeCells #[Value.int .i64 0] 4)[1]? = some (.int .i64 0) := by rw [← Array.getElem?_toList, toList_madeCells_one]; rfl
            have x0 : wr.cell? ⟨w2.heap.size, 0, none⟩ = some (.slice S 4 4) := (HB6.out.keeps HKR.out).cell 0
            rcases hi with rfl | rfl | rfl | rfl | rfl
            · go_wp2_with fail
              go_roundw
              case rel => exact ⟨by simp, HKR⟩
              case measure => first | (simp [intOf]; done) | (simp [intOf]; omega)
            · as_aux_lemma =>
              have HKS := Lib.hid (Keeps.alloc wr (.cells (((madeCells #[.int .i64 0] 4).setIfInBounds 0 (.int .i64 0)).setIfInBounds 1 (.int .i64 1)) 3))
              have HOL : Hid (Ints (wr.alloc (.cells (((madeCells #[.int .i64 0] 4).setIfInBounds 0 (.int .i64 0)).setIfInBounds 1 (.int .i64 1)) 3)) (some ⟨wr.heap.size, 0, none⟩) 4 (lsI [0, 1, 0, 0])) := Lib.hid (by
                have hcc : (((madeCells #[.int .i64 0] 4).setIfInBounds 0 (.int .i64 0)).setIfInBounds 1 (.int .i64 1)) = (List.map (Value.int .i64) [0, 1, 0, 0]).toArray := Array.ext' (by rw [Array.toList_setIfInBounds, Array.toList_setIfInBounds, toList_madeCells_one]; rfl)
                rw [hcc]
                exact ints_of (Blk.new wr _ _))
              have HO := Lib.hid (OwnInts.make wr wr.heap.size 4 (Nat.le_refl _) (by omega))
              have HO1 := Lib.hid (HO.out.set 0 0)
              have c1 := HO.out.cell 0 (by omega)
              have f1 := HO.out.frozen 0
              have c2 := HO1.out.cell 1 (by omega)
              have f2 := HO1.out.frozen 1
              have x1 : wr.cell? ⟨w2.heap.size, 1, none⟩ = some (.slice A 4 4) := (HB6.out.keeps HKR.out).cell 1
              have x2 : wr.cell? ⟨w2.heap.size, 2, none⟩ = some (.slice B 4 4) := (HB6.out.keeps HKR.out).cell 2
              have hxz : w2.heap.size < wr.heap.size := (HB6.out.keeps HKR.out).lt
              go_wp2_with fail
              clear HO HO1 c1 f1 c2 f2 x0 x1 x2 hxz
              generalize (wr.alloc (.cells (((madeCells #[.int .i64 0] 4).setIfInBounds 0 (.int .i64 0)).setIfInBounds 1 (.int .i64 1)) 3)) = w7 at *
              have CV := Lib.hid (iVerdictOf_any S A B (some ⟨wr.heap.size, 0, none⟩) 4 4 4 4 4 4 4 (lsI [0, 1, 0, 1]) (hdrR R1) (hdrR R2) (lsII [[0, 1, 0, 0], [1, 0, 1, 1], [2, 3, 2, 2], [2, 3, 3, 3]]) (lsII [[2, 3, 2, 2], [3, 2, 3, 3], [0, 1, 2, 3], [0, 1, 2, 3]]) [0, 1, 0, 0] w7 (HR.out w7 (HKR.out.step HKS.out)) HOL.out (by decide))
              rw [verd_odd_01 (hdrR R1) (hdrR R2) HLN.out.1 HLN.out.2] at CV
              clear HOL
              refine CV.out.mono ?_
              rintro e w8 ⟨rfl, hk8⟩
              have HKN := Lib.hid (HKR.out.step (HKS.out.step hk8))
              clear hk8
              go_wp2_with fail
              go_roundw
              case rel => exact ⟨by simp, HKN⟩
              case measure => first | (simp [intOf]; done) | (simp [intOf]; omega)
            · as_aux_lemma =>
              have HKS := Lib.hid (Keeps.alloc wr (.cells (((madeCells #[.int .i64 0] 4).setIfInBounds 0 (.int .i64 0)).setIfInBounds 1 (.int .i64 2)) 3))
              have HOL : Hid (Ints (wr.alloc (.cells (((madeCells #[.int .i64 0] 4).setIfInBounds 0 (.int .i64 0)).setIfInBounds 1 (.int .i64 2)) 3)) (some ⟨wr.heap.size, 0, none⟩) 4 (lsI [0, 2, 0, 0])) := Lib.hid (by
                have hcc : (((madeCells #[.int .i64 0] 4).setIfInBounds 0 (.int .i64 0)).setIfInBounds 1 (.int .i64 2)) = (List.map (Value.int .i64) [0, 2, 0, 0]).toArray := Array.ext' (by rw [Array.toList_setIfInBounds, Array.toList_setIfInBounds, toList_madeCells_one]; rfl)
                rw [hcc]
                exact ints_of (Blk.new wr _ _))
              have HO := Lib.hid (OwnInts.make wr wr.heap.size 4 (Nat.le_refl _) (by omega))
              have HO1 := Lib.hid (HO.out.set 0 0)
              have c1 := HO.out.cell 0 (by omega)
              have f1 := HO.out.frozen 0
              have c2 := HO1.out.cell 1 (by omega)
              have f2 := HO1.out.frozen 1
              have x1 : wr.cell? ⟨w2.heap.size, 1, none⟩ = some (.slice A 4 4) := (HB6.out.keeps HKR.out).cell 1
              have x2 : wr.cell? ⟨w2.heap.size, 2, none⟩ = some (.slice B 4 4) := (HB6.out.keeps HKR.out).cell 2
              have hxz : w2.heap.size < wr.heap.size := (HB6.out.keeps HKR.out).lt
              go_wp2_with fail
              clear HO HO1 c1 f1 c2 f2 x0 x1 x2 hxz
              generalize (wr.alloc (.cells (((madeCells #[.int .i64 0] 4).setIfInBounds 0 (.int .i64 0)).setIfInBounds 1 (.int .i64 2)) 3)) = w7 at *
              have CV := Lib.hid (iVerdictOf_any S A B (some ⟨wr.heap.size, 0, none⟩) 4 4 4 4 4 4 4 (lsI [0, 1, 0, 1]) (hdrR R1) (hdrR R2) (lsII [[0, 1, 0, 0], [1, 0, 1, 1], [2, 3, 2, 2], [2, 3, 3, 3]]) (lsII [[2, 3, 2, 2], [3, 2, 3, 3], [0, 1, 2, 3], [0, 1, 2, 3]]) [0, 2, 0, 0] w7 (HR.out w7 (HKR.out.step HKS.out)) HOL.out (by decide))
              rw [verd_odd_02 (hdrR R1) (hdrR R2) HLN.out.1 HLN.out.2] at CV
              clear HOL
              refine CV.out.mono ?_
              rintro e w8 ⟨rfl, hk8⟩
              have HKN := Lib.hid (HKR.out.step (HKS.out.step hk8))
              clear hk8
              go_wp2_with fail
              go_roundw
              case rel => exact ⟨by simp, HKN⟩
              case measure => first | (simp [intOf]; done) | (simp [intOf]; omega)
            · as_aux_lemma =>
              have HKS := Lib.hid (Keeps.alloc wr (.cells (((madeCells #[.int .i64 0] 4).setIfInBounds 0 (.int .i64 0)).setIfInBounds 1 (.int .i64 3)) 3))
              have HOL : Hid (Ints (wr.alloc (.cells (((madeCells #[.int .i64 0] 4).setIfInBounds 0 (.int .i64 0)).setIfInBounds 1 (.int .i64 3)) 3)) (some ⟨wr.heap.size, 0, none⟩) 4 (lsI [0, 3, 0, 0])) := Lib.hid (by
                have hcc : (((madeCells #[.int .i64 0] 4).setIfInBounds 0 (.int .i64 0)).setIfInBounds 1 (.int .i64 3)) = (List.map (Value.int .i64) [0, 3, 0, 0]).toArray := Array.ext' (by rw [Array.toList_setIfInBounds, Array.toList_setIfInBounds, toList_madeCells_one]; rfl)
                rw [hcc]
                exact ints_of (Blk.new wr _ _))
              have HO := Lib.hid (OwnInts.make wr wr.heap.size 4 (Nat.le_refl _) (by omega))
              have HO1 := Lib.hid (HO.out.set 0 0)
              have c1 := HO.out.cell 0 (by omega)
              have f1 := HO.out.frozen 0
              have c2 := HO1.out.cell 1 (by omega)
              have f2 := HO1.out.frozen 1
              have x1 : wr.cell? ⟨w2.heap.size, 1, none⟩ = some (.slice A 4 4) := (HB6.out.keeps HKR.out).cell 1
              have x2 : wr.cell? ⟨w2.heap.size, 2, none⟩ = some (.slice B 4 4) := (HB6.out.keeps HKR.out).cell 2
              have hxz : w2.heap.size < wr.heap.size := (HB6.out.keeps HKR.out).lt
              go_wp2_with fail
              clear HO HO1 c1 f1 c2 f2 x0 x1 x2 hxz
              generalize (wr.alloc (.cells (((madeCells #[.int .i64 0] 4).setIfInBounds 0 (.int .i64 0)).setIfInBounds 1 (.int .i64 3)) 3)) = w7 at *
              have CV := Lib.hid (iVerdictOf_any S A B (some ⟨wr.heap.size, 0, none⟩) 4 4 4 4 4 4 4 (lsI [0, 1, 0, 1]) (hdrR R1) (hdrR R2) (lsII [[0, 1, 0, 0], [1, 0, 1, 1], [2, 3, 2, 2], [2, 3, 3, 3]]) (lsII [[2, 3, 2, 2], [3, 2, 3, 3], [0, 1, 2, 3], [0, 1, 2, 3]]) [0, 3, 0, 0] w7 (HR.out w7 (HKR.out.step HKS.out)) HOL.out (by decide))
              rw [verd_odd_03 (hdrR R1) (hdrR R2) HLN.out.1 HLN.out.2] at CV
              clear HOL
              refine CV.out.mono ?_
              rintro e w8 ⟨rfl, hk8⟩
              have HKN := Lib.hid (HKR.out.step (HKS.out.step hk8))
              clear hk8
              go_wp2_with fail
              go_roundw
              case rel => exact ⟨by simp, HKN⟩
              case measure => first | (simp [intOf]; done) | (simp [intOf]; omega)
            · go_wp2_with fail
              go_roundw
              case rel => exact ⟨by simp, HKR⟩
              case measure => first | (simp [intOf]; done) | (simp [intOf]; omega)
        · as_aux_lemma =>
          go_wp2_with fail
          go_loopw [9] (fun i wr => (i = .int .i64 0 ∨ i = .int .i64 1 ∨ i = .int .i64 2 ∨ i = .int .i64 3 ∨ i = .int .i64 4) ∧ Hid (Keeps w6 wr)) (fun i _ => 4 - (intOf i).toNat)
          case atStart => exact ⟨.inl rfl, HKR⟩
          case round =>
            clear HKR
            obtain ⟨hi, HKR⟩ := hrel
            have hmk : ∀ w : World, (Instr.makeSlice 23 (.int .i64 4) (.int .i64 4)).run Try.prog w = .ok (.slice (some ⟨w.heap.size, 0, none⟩) 4 4) (w.alloc (.cells (madeCells #[.int .i64 0] 4) 3)) := make_ints 4 (by omega)
            have hm0 : (madeCells #[Value.int .i64 0] 4)[0]? = some (.int .i64 0) := by rw [← Array.getElem?_toList, toList_madeCells_one]; rfl
            have hm1 : (madeCells #[Value.int .i64 0] 4)[1]? = some (.int .i64 0) := by rw [← Array.getElem?_toList, toList_madeCells_one]; rfl
            have x0 : wr.cell? ⟨w2.heap.size, 0, none⟩ = some (.slice S 4 4) := (HB6.out.keeps HKR.out).cell 0
            rcases hi with rfl | rfl | rfl | rfl | rfl
            · as_aux_lemma =>
              have HKS := Lib.hid (Keeps.alloc wr (.cells (((madeCells #[.int .i64 0] 4).setIfInBounds 0 (.int .i64 1)).setIfInBounds 1 (.int .i64 0)) 3))
              have HOL : Hid (Ints (wr.alloc (.cells (((madeCells #[.int .i64 0] 4).setIfInBounds 0 (.int .i64 1)).setIfInBounds 1 (.int .i64 0)) 3)) (some ⟨wr.heap.size, 0, none⟩) 4 (lsI [1, 0, 0, 0])) := Lib.hid (by
                have hcc : (((madeCells #[.int .i64 0] 4).setIfInBounds 0 (.int .i64 1)).setIfInBounds 1 (.int .i64 0)) = (List.map (Value.int .i64) [1, 0, 0, 0]).toArray := Array.ext' (by rw [Array.toList_setIfInBounds, Array.toList_setIfInBounds, toList_madeCells_one]; rfl)
                rw [hcc]
                exact ints_of (Blk.new wr _ _))
              have HO := Lib.hid (OwnInts.make wr wr.heap.size 4 (Nat.le_refl _) (by omega))
              have HO1 := Lib.hid (HO.out.set 0 1)
              have c1 := HO.out.cell 0 (by omega)
              have f1 := HO.out.frozen 0
              have c2 := HO1.out.cell 1 (by omega)
              have f2 := HO1.out.frozen 1
              have x1 : wr.cell? ⟨w2.heap.size, 1, none⟩ = some (.slice A 4 4) := (HB6.out.keeps HKR.out).cell 1
              have x2 : wr.cell? ⟨w2.heap.size, 2, none⟩ = some (.slice B 4 4) := (HB6.out.keeps HKR.out).cell 2
              have hxz : w2.heap.size < wr.heap.size := (HB6.out.keeps HKR.out).lt
              go_wp2_with fail
              clear HO HO1 c1 f1 c2 f2 x0 x1 x2 hxz
              generalize (wr.alloc (.cells (((madeCells #[.int .i64 0] 4).setIfInBounds 0 (.int .i64 1)).setIfInBounds 1 (.int .i64 0)) 3)) = w7 at *
              have CV := Lib.hid (iVerdictOf_any S A B (some ⟨wr.heap.size, 0, none⟩) 4 4 4 4 4 4 4 (lsI [0, 1, 0, 1]) (hdrR R1) (hdrR R2) (lsII [[0, 1, 0, 0], [1, 0, 1, 1], [2, 3, 2, 2], [2, 3, 3, 3]]) (lsII [[2, 3, 2, 2], [3, 2, 3, 3], [0, 1, 2, 3], [0, 1, 2, 3]]) [1, 0, 0, 0] w7 (HR.out w7 (HKR.out.step HKS.out)) HOL.out (by decide))
              rw [verd_odd_10 (hdrR R1) (hdrR R2) HLN.out.1 HLN.out.2] at CV
              clear HOL
              refine CV.out.mono ?_
              rintro e w8 ⟨rfl, hk8⟩
              have HKN := Lib.hid (HKR.out.step (HKS.out.step hk8))
              clear hk8
              go_wp2_with fail
              go_roundw
              case rel => exact ⟨by simp, HKN⟩
              case measure => first | (simp [intOf]; done) | (simp [intOf]; omega)
            · as_aux_lemma =>
              have HKS := Lib.hid (Keeps.alloc wr (.cells (((madeCells #[.int .i64 0] 4).setIfInBounds 0 (.int .i64 1)).setIfInBounds 1 (.int .i64 1)) 3))
              have HOL : Hid (Ints (wr.alloc (.cells (((madeCells #[.int .i64 0] 4).setIfInBounds 0 (.int .i64 1)).setIfInBounds 1 (.int .i64 1)) 3)) (some ⟨wr.heap.size, 0, none⟩) 4 (lsI [1, 1, 0, 0])) := Lib.hid (by
                have hcc : (((madeCells #[.int .i64 0] 4).setIfInBounds 0 (.int .i64 1)).setIfInBounds 1 (.int .i64 1)) = (List.map (Value.int .i64) [1, 1, 0, 0]).toArray := Array.ext' (by rw [Array.toList_setIfInBounds, Array.toList_setIfInBounds, toList_madeCells_one]; rfl)
                rw [hcc]
                exact ints_of (Blk.new wr _ _))
              have HO := Lib.hid (OwnInts.make wr wr.heap.size 4 (Nat.le_refl _) (by omega))
              have HO1 := Lib.hid (HO.out.set 0 1)
              have c1 := HO.out.cell 0 (by omega)
              have f1 := HO.out.frozen 0
              have c2 := HO1.out.cell 1 (by omega)
              have f2 := HO1.out.frozen 1
              have x1 : wr.cell? ⟨w2.heap.size, 1, none⟩ = some (.slice A 4 4) := (HB6.out.keeps HKR.out).cell 1
              have x2 : wr.cell? ⟨w2.heap.size, 2, none⟩ = some (.slice B 4 4) := (HB6.out.keeps HKR.out).cell 2
              have hxz : w2.heap.size < wr.heap.size := (HB6.out.keeps HKR.out).lt
              go_wp2_with fail
              clear HO HO1 c1 f1 c2 f2 x0 x1 x2 hxz
              generalize (wr.alloc (.cells (((madeCells #[.int .i64 0] 4).setIfInBounds 0 (.int .i64 1)).setIfInBounds 1 (.int .i64 1)) 3)) = w7 at *
              have CV := Lib.hid (iVerdictOf_any S A B (some ⟨wr.heap.size, 0, none⟩) 4 4 4 4 4 4 4 (lsI [0, 1, 0, 1]) (hdrR R1) (hdrR R2) (lsII [[0, 1, 0, 0], [1, 0, 1, 1], [2, 3, 2, 2], [2, 3, 3, 3]]) (lsII [[2, 3, 2, 2], [3, 2, 3, 3], [0, 1, 2, 3], [0, 1, 2, 3]]) [1, 1, 0, 0] w7 (HR.out w7 (HKR.out.step HKS.out)) HOL.out (by decide))
              rw [verd_odd_11 (hdrR R1) (hdrR R2) HLN.out.1 HLN.out.2] at CV
              clear HOL
              refine CV.out.mono ?_
              rintro e w8 ⟨rfl, hk8⟩
              have HKN := Lib.hid (HKR.out.step (HKS.out.step hk8))
              clear hk8
              go_wp2_with fail
              go_roundw
              case rel => exact ⟨by simp, HKN⟩
              case measure => first | (simp [intOf]; done) | (simp [intOf]; omega)
            · as_aux_lemma =>
              have HKS := Lib.hid (Keeps.alloc wr (.cells (((madeCells #[.int .i64 0] 4).setIfInBounds 0 (.int .i64 1)).setIfInBounds 1 (.int .i64 2)) 3))
              have HOL : Hid (Ints (wr.alloc (.cells (((madeCells #[.int .i64 0] 4).setIfInBounds 0 (.int .i64 1)).setIfInBounds 1 (.int .i64 2)) 3)) (some ⟨wr.heap.size, 0, none⟩) 4 (lsI [1, 2, 0, 0])) := Lib.hid (by
                have hcc : (((madeCells #[.int .i64 0] 4).setIfInBounds 0 (.int .i64 1)).setIfInBounds 1 (.int .i64 2)) = (List.map (Value.int .i64) [1, 2, 0, 0]).toArray := Array.ext' (by rw [Array.toList_setIfInBounds, Array.toList_setIfInBounds, toList_madeCells_one]; rfl)
                rw [hcc]
                exact ints_of (Blk.new wr _ _))
              have HO := Lib.hid (OwnInts.make wr wr.heap.size 4 (Nat.le_refl _) (by omega))
              have HO1 := Lib.hid (HO.out.set 0 1)
              have c1 := HO.out.cell 0 (by omega)
              have f1 := HO.out.frozen 0
              have c2 := HO1.out.cell 1 (by omega)
              have f2 := HO1.out.frozen 1
              have x1 : wr.cell? ⟨w2.heap.size, 1, none⟩ = some (.slice A 4 4) := (HB6.out.keeps HKR.out).cell 1
              have x2 : wr.cell? ⟨w2.heap.size, 2, none⟩ = some (.slice B 4 4) := (HB6.out.keeps HKR.out).cell 2
              have hxz : w2.heap.size < wr.heap.size := (HB6.out.keeps HKR.out).lt
              go_wp2_with fail
              clear HO HO1 c1 f1 c2 f2 x0 x1 x2 hxz
              generalize (wr.alloc (.cells (((madeCells #[.int .i64 0] 4).setIfInBounds 0 (.int .i64 1)).setIfInBounds 1 (.int .i64 2)) 3)) = w7 at *
              have CV := Lib.hid (iVerdictOf_any S A B (some ⟨wr.heap.size, 0, none⟩) 4 4 4 4 4 4 4 (lsI [0, 1, 0, 1]) (hdrR R1) (hdrR R2) (lsII [[0, 1, 0, 0], [1, 0, 1, 1], [2, 3, 2, 2], [2, 3, 3, 3]]) (lsII [[2, 3, 2, 2], [3, 2, 3, 3], [0, 1, 2, 3], [0, 1, 2, 3]]) [1, 2, 0, 0] w7 (HR.out w7 (HKR.out.step HKS.out)) HOL.out (by decide))
              rw [verd_odd_12 (hdrR R1) (hdrR R2) HLN.out.1 HLN.out.2] at CV
              clear HOL
              refine CV.out.mono ?_
              rintro e w8 ⟨rfl, hk8⟩
              have HKN := Lib.hid (HKR.out.step (HKS.out.step hk8))
              clear hk8
              go_wp2_with fail
              go_roundw
              case rel => exact ⟨by simp, HKN⟩
              case measure => first | (simp [intOf]; done) | (simp [intOf]; omega)
            · go_wp2_with fail
              go_roundw
              case rel => exact ⟨by simp, HKR⟩
              case measure => first | (simp [intOf]; done) | (simp [intOf]; omega)
            · go_wp2_with fail
              go_roundw
              case rel => exact ⟨by simp, HKR⟩
              case measure => first | (simp [intOf]; done) | (simp [intOf]; omega)
        · as_aux_lemma =>
          go_wp2_with fail
          go_loopw [9] (fun i wr => (i = .int .i64 0 ∨ i = .int .i64 1 ∨ i = .int .i64 2 ∨ i = .int .i64 3 ∨ i = .int .i64 4) ∧ Hid (Keeps w6 wr)) (fun i _ => 4 - (intOf i).toNat)
          case atStart => exact ⟨.inl rfl, HKR⟩
          case round =>
            clear HKR
            obtain ⟨hi, HKR⟩ := hrel
            have hmk : ∀ w : World, (Instr.makeSlice 23 (.int .i64 4) (.int .i64 4)).run Try.prog w = .ok (.slice (some ⟨w.heap.size, 0, none⟩) 4 4) (w.alloc (.cells (madeCells #[.int .i64 0] 4) 3)) := make_ints 4 (by omega)
            have hm0 : (madeCells #[Value.int .i64 0] 4)[0]? = some (.int .i64 0) := by rw [← Array.getElem?_toList, toList_madeCells_one]; rfl
            have hm1 : (madeCells #[Value.int .i64 0] 4)[1]? = some (.int .i64 0) := by rw [← Array.getElem?_toList, toList_madeCells_one]; rfl
            have x0 : wr.cell? ⟨w2.heap.size, 0, none⟩ = some (.slice S 4 4) := (HB6.out.keeps HKR.out).cell 0
            rcases hi with rfl | rfl | rfl | rfl | rfl
            · as_aux_lemma =>
              have HKS := Lib.hid (Keeps.alloc wr (.cells (((madeCells #[.int .i64 0] 4).setIfInBounds 0 (.int .i64 2)).setIfInBounds 1 (.int .i64 0)) 3))
              have HOL : Hid (Ints (wr.alloc (.cells (((madeCells #[.int .i64 0] 4).setIfInBounds 0 (.int .i64 2)).setIfInBounds 1 (.int .i64 0)) 3)) (some ⟨wr.heap.size, 0, none⟩) 4 (lsI [2, 0, 0, 0])) := Lib.hid (by
                have hcc : (((madeCells #[.int .i64 0] 4).setIfInBounds 0 (.int .i64 2)).setIfInBounds 1 (.int .i64 0)) = (List.map (Value.int .i64) [2, 0, 0, 0]).toArray := Array.ext' (by rw [Array.toList_setIfInBounds, Array.toList_setIfInBounds, toList_madeCells_one]; rfl)
                rw [hcc]
                exact ints_of (Blk.new wr _ _))
              have HO := Lib.hid (OwnInts.make wr wr.heap.size 4 (Nat.le_refl _) (by omega))
              have HO1 := Lib.hid (HO.out.set 0 2)
              have c1 := HO.out.cell 0 (by omega)
              have f1 := HO.out.frozen 0
              have c2 := HO1.out.cell 1 (by omega)
              have f2 := HO1.out.frozen 1
              have x1 : wr.cell? ⟨w2.heap.size, 1, none⟩ = some (.slice A 4 4) := (HB6.out.keeps HKR.out).cell 1
              have x2 : wr.cell? ⟨w2.heap.size, 2, none⟩ = some (.slice B 4 4) := (HB6.out.keeps HKR.out).cell 2
              have hxz : w2.heap.size < wr.heap.size := (HB6.out.keeps HKR.out).lt
              go_wp2_with fail
              clear HO HO1 c1 f1 c2 f2 x0 x1 x2 hxz
              generalize (wr.alloc (.cells (((madeCells #[.int .i64 0] 4).setIfInBounds 0 (.int .i64 2)).setIfInBounds 1 (.int .i64 0)) 3)) = w7 at *
              have CV := Lib.hid (iVerdictOf_any S A B (some ⟨wr.heap.size, 0, none⟩) 4 4 4 4 4 4 4 (lsI [0, 1, 0, 1]) (hdrR R1) (hdrR R2) (lsII [[0, 1, 0, 0], [1, 0, 1, 1], [2, 3, 2, 2], [2, 3, 3, 3]]) (lsII [[2, 3, 2, 2], [3, 2, 3, 3], [0, 1, 2, 3], [0, 1, 2, 3]]) [2, 0, 0, 0] w7 (HR.out w7 (HKR.out.step HKS.out)) HOL.out (by decide))
              rw [verd_odd_20 (hdrR R1) (hdrR R2) HLN.out.1 HLN.out.2] at CV
              clear HOL
              refine CV.out.mono ?_
              rintro e w8 ⟨rfl, hk8⟩
              have HKN := Lib.hid (HKR.out.step (HKS.out.step hk8))
              clear hk8
              go_wp2_with fail
              go_roundw
              case rel => exact ⟨by simp, HKN⟩
              case measure => first | (simp [intOf]; done) | (simp [intOf]; omega)
            · as_aux_lemma =>
              have HKS := Lib.hid (Keeps.alloc wr (.cells (((madeCells #[.int .i64 0] 4).setIfInBounds 0 (.int .i64 2)).setIfInBounds 1 (.int .i64 1)) 3))
              have HOL : Hid (Ints (wr.alloc (.cells (((madeCells #[.int .i64 0] 4).setIfInBounds 0 (.int .i64 2)).setIfInBounds 1 (.int .i64 1)) 3)) (some ⟨wr.heap.size, 0, none⟩) 4 (lsI [2, 1, 0, 0])) := Lib.hid (by
                have hcc : (((madeCells #[.int .i64 0] 4).setIfInBounds 0 (.int .i64 2)).setIfInBounds 1 (.int .i64 1)) = (List.map (Value.int .i64) [2, 1, 0, 0]).toArray := Array.ext' (by rw [Array.toList_setIfInBounds, Array.toList_setIfInBounds, toList_madeCells_one]; rfl)
                rw [hcc]
                exact ints_of (Blk.new wr _ _))
              have HO := Lib.hid (OwnInts.make wr wr.heap.size 4 (Nat.le_refl _) (by omega))
              have HO1 := Lib.hid (HO.out.set 0 2)
              have c1 := HO.out.cell 0 (by omega)
              have f1 := HO.out.frozen 0
              have c2 := HO1.out.cell 1 (by omega)
              have f2 := HO1.out.frozen 1
              have x1 : wr.cell? ⟨w2.heap.size, 1, none⟩ = some (.slice A 4 4) := (HB6.out.keeps HKR.out).cell 1
              have x2 : wr.cell? ⟨w2.heap.size, 2, none⟩ = some (.slice B 4 4) := (HB6.out.keeps HKR.out).cell 2
              have hxz : w2.heap.size < wr.heap.size := (HB6.out.keeps HKR.out).lt
              go_wp2_with fail
              clear HO HO1 c1 f1 c2 f2 x0 x1 x2 hxz
              generalize (wr.alloc (.cells (((madeCells #[.int .i64 0] 4).setIfInBounds 0 (.int .i64 2)).setIfInBounds 1 (.int .i64 1)) 3)) = w7 at *
              have CV := Lib.hid (iVerdictOf_any S A B (some ⟨wr.heap.size, 0, none⟩) 4 4 4 4 4 4 4 (lsI [0, 1, 0, 1]) (hdrR R1) (hdrR R2) (lsII [[0, 1, 0, 0], [1, 0, 1, 1], [2, 3, 2, 2], [2, 3, 3, 3]]) (lsII [[2, 3, 2, 2], [3, 2, 3, 3], [0, 1, 2, 3], [0, 1, 2, 3]]) [2, 1, 0, 0] w7 (HR.out w7 (HKR.out.step HKS.out)) HOL.out (by decide))
              rw [verd_odd_21 (hdrR R1) (hdrR R2) HLN.out.1 HLN.out.2] at CV
              clear HOL
              refine CV.out.mono ?_
              rintro e w8 ⟨rfl, hk8⟩
              have HKN := Lib.hid (HKR.out.step (HKS.out.step hk8))
              clear hk8
              go_wp2_with fail
              go_roundw
              case rel => exact ⟨by simp, HKN⟩
              case measure => first | (simp [intOf]; done) | (simp [intOf]; omega)
            · go_wp2_with fail
              go_roundw
              case rel => exact ⟨by simp, HKR⟩
              case measure => first | (simp [intOf]; done) | (simp [intOf]; omega)
            · go_wp2_with fail
              go_roundw
              case rel => exact ⟨by simp, HKR⟩
              case measure => first | (simp [intOf]; done) | (simp [intOf]; omega)
            · go_wp2_with fail
              go_roundw
              case rel => exact ⟨by simp, HKR⟩
              case measure => first | (simp [intOf]; done) | (simp [intOf]; omega)
        · as_aux_lemma =>
            have x0 : wr.cell? ⟨w2.heap.size, 0, none⟩ = some (.slice S 4 4) := (HB6.out.keeps HKR.out).cell 0
            have x1 : wr.cell? ⟨w2.heap.size, 1, none⟩ = some (.slice A 4 4) := (HB6.out.keeps HKR.out).cell 1
            have x2 : wr.cell? ⟨w2.heap.size, 2, none⟩ = some (.slice B 4 4) := (HB6.out.keeps HKR.out).cell 2
            have CV := Lib.hid (validRules_any S A B 4 4 4 4 4 4 (lsI [0, 1, 0, 1]) (hdrR R1) (hdrR R2) (lsII [[0, 1, 0, 0], [1, 0, 1, 1], [2, 3, 2, 2], [2, 3, 3, 3]]) (lsII [[2, 3, 2, 2], [3, 2, 3, 3], [0, 1, 2, 3], [0, 1, 2, 3]]) wr (HR.out wr HKR.out))
            rw [rulT (by decide +kernel) (by omega) (hdrR R1) (hdrR R2) HLN.out.1 HLN.out.2] at CV
            go_wp2_with fail
            refine CV.out.mono ?_
            rintro e w7 ⟨rfl, hk7⟩
            have HKF := Lib.hid (HK2.out.step (HK6.out.step (HKR.out.step hk7)))
            clear hk7
            go_wp2_with fail
            go_ret
            exact ⟨rfl, HKF.out⟩
    · as_aux_lemma =>
      go_wp2_with fail
      refine (iRulesOf_none w1).mono ?_
      rintro e w2 ⟨rfl, hk2⟩
      have HK2 := Lib.hid (HK1.out.step hk2)
      have HBX := Lib.hid (Blk.new w2 #[.slice none 0 0, .slice none 0 0, .slice none 0 0] 26)
      have HK3 := Lib.hid (HK2.out.step (Keeps.alloc w2 (.cells #[.slice none 0 0, .slice none 0 0, .slice none 0 0] 26)))
      clear hk2
      go_wp2_with fail
      generalize (w2.alloc (.cells #[.slice none 0 0, .slice none 0 0, .slice none 0 0] 26)) = w3 at *
      refine (sRulesOf_none w3).mono ?_
      rintro e w4 ⟨rfl, hk4⟩
      have HB4 := Lib.hid (HBX.out.keeps hk4)
      have HK4 := Lib.hid (HK3.out.step hk4)
      have x0 : w4.cell? ⟨w2.heap.size, 0, none⟩ = some (.slice none 0 0) := HB4.out.cell 0
      have x1 : w4.cell? ⟨w2.heap.size, 1, none⟩ = some (.slice none 0 0) := HB4.out.cell 1
      have x2 : w4.cell? ⟨w2.heap.size, 2, none⟩ = some (.slice none 0 0) := HB4.out.cell 2
      have hxz := HB4.out.lt
      have HE := Lib.hid (fun W => eqRules_true none none none none none none 0 0 0 0 0 0 0 (fun _ => 0) (fun _ => (none, 0, 0)) (fun _ => (none, 0, 0)) (fun _ => (none, 0, 0)) (fun _ => (none, 0, 0)) (fun _ _ => 0) (fun _ _ => 0) (fun _ _ => 0) (fun _ _ => 0) W (by omega) (fun i hi => absurd hi (Nat.not_lt_zero _)) (fun i hi => absurd hi (Nat.not_lt_zero _)) (fun i hi => absurd hi (Nat.not_lt_zero _)) (fun i hi => absurd hi (Nat.not_lt_zero _)) (fun i hi => absurd hi (Nat.not_lt_zero _)) (fun i hi => absurd hi (Nat.not_lt_zero _)) (fun i hi => absurd hi (Nat.not_lt_zero _)) (fun i j hi => absurd hi (Nat.not_lt_zero _)))
      have HB5 := Lib.hid (HB4.out.keeps (Keeps.alloc w4 (.cells #[.slice none 0 0, .slice none 0 0, .slice none 0 0] 26)))
      have HBY := Lib.hid (Blk.new w4 #[.slice none 0 0, .slice none 0 0, .slice none 0 0] 26)
      have HK5 := Lib.hid (HK4.out.step (Keeps.alloc w4 (.cells #[.slice none 0 0, .slice none 0 0, .slice none 0 0] 26)))
      clear hk4 HBX HK3 HB4
      go_wp2_with fail
      generalize (w4.alloc (.cells #[.slice none 0 0, .slice none 0 0, .slice none 0 0] 26)) = w5 at *
      clear x0 x1 x2 hxz HK4
      refine (HE.out _).mono ?_
      rintro e w6 ⟨rfl, hk6⟩
      have HK6 := Lib.hid (HK5.out.step hk6)
      have HB6 := Lib.hid (HB5.out.keeps hk6)
      have HB7 := Lib.hid (HBY.out.keeps hk6)
      have x0 : w6.cell? ⟨w2.heap.size, 0, none⟩ = some (.slice none 0 0) := HB6.out.cell 0
      have x1 : w6.cell? ⟨w2.heap.size, 1, none⟩ = some (.slice none 0 0) := HB6.out.cell 1
      have x2 : w6.cell? ⟨w2.heap.size, 2, none⟩ = some (.slice none 0 0) := HB6.out.cell 2
      have y0 : w6.cell? ⟨w4.heap.size, 0, none⟩ = some (.slice none 0 0) := HB7.out.cell 0
      have y1 : w6.cell? ⟨w4.heap.size, 1, none⟩ = some (.slice none 0 0) := HB7.out.cell 1
      have y2 : w6.cell? ⟨w4.heap.size, 2, none⟩ = some (.slice none 0 0) := HB7.out.cell 2
      clear hk6 HB5 HBY HK5
      go_wp2_with fail
      refine (HE.out _).mono ?_
      rintro e w7 ⟨rfl, hk7⟩
      have HKF := Lib.hid (HK6.out.step hk7)
      clear hk7
      go_wp2_with fail
      go_ret
      exact ⟨rfl, HKF.out⟩
end Go.Proofs.Ytaejakejnllimaa
