/-
  The contracts of KnowsOf, AllKnow, CommonOf, DepthOf of the program. Condition: lengths at most 2^40.
-/
import Derived.Test.YtalafojkmomolaaValid
namespace Go.Proofs.Ytalafojkmomolaa
open Go.RowKit

/-- From s on, s & f s again and again until it stays. -/
def comF (f : Nat → Nat) : Nat → Nat → Nat
  | 0, s => s
  | k + 1, s => if s &&& f s = s then s else comF f k (s &&& f s)
def comB (f : Nat → Nat) (s : Nat) : Nat := comF f s s
theorem comF_more (f : Nat → Nat) (k : Nat) : ∀ (j s : Nat), s ≤ k → s ≤ j → comF f k s = comF f j s := by
  induction k with
  | zero =>
    intro j s hk hj
    have : s = 0 := by omega
    subst this
    cases j with
    | zero => rfl
    | succ j => simp [comF]
  | succ k ih =>
    intro j s hk hj
    cases j with
    | zero =>
      have : s = 0 := by omega
      subst this
      simp [comF]
    | succ j =>
      simp only [comF]
      split
      · rfl
      · rename_i h
        have : s &&& f s ≤ s := Nat.and_le_left
        exact ih j _ (by omega) (by omega)
theorem comB_stay (f : Nat → Nat) (s : Nat) (h : s &&& f s = s) : comB f s = s := by
  unfold comB
  cases s with
  | zero => rfl
  | succ s => simp [comF, h]
theorem comB_step (f : Nat → Nat) (s : Nat) : comB f (s &&& f s) = comB f s := by
  by_cases h : s &&& f s = s
  · rw [h]
  · have hl : s &&& f s ≤ s := Nat.and_le_left
    unfold comB
    cases s with
    | zero => simp at h
    | succ s =>
      rw [show comF f (s + 1) (s + 1) = comF f s ((s + 1) &&& f (s + 1)) from by simp only [comF]; rw [if_neg h]]
      exact comF_more f _ _ _ (Nat.le_refl _) (by omega)
/-- How often f may be asked so that w is in the answer each time, at most k times. -/
def depF (f : Nat → Nat) (w : Nat) : Nat → Nat → Nat
  | 0, _ => 0
  | k + 1, s => if (f s).testBit w then depF f w k (f s) + 1 else 0

def allAns (W : Int) (n : Nat) (r : Nat → Option Addr × Nat × Nat) (x : Nat → Nat → Int) (s : Int) : Int :=
  if setB W n r x s then ((allB x W.toNat s.toNat n : Nat) : Int) else -1
def knowsAns (W : Int) (n : Nat) (r : Nat → Option Addr × Nat × Nat) (x : Nat → Nat → Int) (a s : Int) : Int :=
  if setB W n r x s && inB a 0 ((n : Int) - 1) then ((knowsB x W.toNat a.toNat s.toNat : Nat) : Int) else -1
def comAns (W : Int) (n : Nat) (r : Nat → Option Addr × Nat × Nat) (x : Nat → Nat → Int) (s : Int) : Int :=
  if setB W n r x s then ((comB (fun s => allB x W.toNat s n) s.toNat : Nat) : Int) else -1
def depAns (W : Int) (n : Nat) (r : Nat → Option Addr × Nat × Nat) (x : Nat → Nat → Int) (v s : Int) : Int :=
  if setB W n r x s && inB v 0 (W - 1) then ((depF (fun s => allB x W.toNat s n) v.toNat 20 s.toNat : Nat) : Int) else -1

set_option maxHeartbeats 400000 in
theorem iAllKnow_any (A : Option Addr) (n c : Nat) (r : Nat → Option Addr × Nat × Nat) (x : Nat → Nat → Int) (W s : Int) (w : World) (hn : n ≤ 1099511627776) (hr : Rows w A n r x) (hl : ∀ i, i < n → (r i).2.1 ≤ 1099511627776) :
    Calls Try.prog 9 #[.agg #[.int .i64 W, .slice A n c], .int .i64 s] w fun e w' => e = .returned (.int .i64 (allAns W n r x s)) ∧ Keeps w w' := by
  have HR := Lib.hid hr
  have HL := Lib.hid hl
  clear hr hl
  cases hv : setB W n r x s
  · have HV : Hid (-1 = allAns W n r x s) := Lib.hid (by unfold allAns; rw [hv]; rfl)
    have H1 := Lib.hid hv
    clear hv
    go_enter Try.func9, Try.ntmps9
    go_wp2_with fail
    refine (setOk_any A n c r x W s _ hn (HR.out.keeps (Keeps.alloc _ _)) HL.out).mono ?_
    rintro e w1 ⟨rfl, hk1⟩
    rw [H1.out]
    go_wp2
    go_ret
    exact ⟨ret_int HV.out, (Keeps.alloc _ _).step hk1⟩
  · obtain ⟨V, S, rfl, rfl, hV1, hV2, hn4, hS, hS2, hrow⟩ := setB_iff W n r x s hv
    have HV : Hid (((allB x V S n : Nat) : Int) = allAns V n r x S) := Lib.hid (by unfold allAns; rw [hv]; simp)
    have H1 := Lib.hid hv
    have HW := Lib.hid hrow
    clear hv hrow
    go_enter Try.func9, Try.ntmps9
    go_wp2_with fail
    refine (setOk_any A n c r x V S _ hn (HR.out.keeps (Keeps.alloc _ _)) HL.out).mono ?_
    rintro e w1 ⟨rfl, hk1⟩
    have hc0 := cell_keeps hk1 (show (w.alloc (.cells #[.int .i64 (V : Int), .slice A n c] 25)).cell? ⟨w.heap.size, 0, none⟩ = some (.int .i64 V) by rw [World.cell?_alloc_at _ _ _ _ rfl]; rfl)
    have hc1 := cell_keeps hk1 (show (w.alloc (.cells #[.int .i64 (V : Int), .slice A n c] 25)).cell? ⟨w.heap.size, 1, none⟩ = some (.slice A n c) by rw [World.cell?_alloc_at _ _ _ _ rfl]; rfl)
    rw [H1.out]
    go_wp2_with fail
    refine (lookOf_any A n c V _).mono ?_
    rintro e w2 ⟨rfl, hk2⟩
    go_wp2_with fail
    refine (all_any A n c V r x S _ hV2 hn4.2 (((HR.out.keeps (Keeps.alloc _ _)).keeps hk1).keeps hk2) (fun a ha => (HW.out a ha).1) hS2).mono ?_
    rintro e w3 ⟨rfl, hk3⟩
    go_wp2
    go_ret
    exact ⟨ret_int HV.out, (((Keeps.alloc _ _).step hk1).step hk2).step hk3⟩

set_option maxHeartbeats 400000 in
theorem iKnowsOf_any (A : Option Addr) (n c : Nat) (r : Nat → Option Addr × Nat × Nat) (x : Nat → Nat → Int) (W a s : Int) (w : World) (hn : n ≤ 1099511627776) (hr : Rows w A n r x) (hl : ∀ i, i < n → (r i).2.1 ≤ 1099511627776) :
    Calls Try.prog 12 #[.agg #[.int .i64 W, .slice A n c], .int .i64 a, .int .i64 s] w fun e w' => e = .returned (.int .i64 (knowsAns W n r x a s)) ∧ Keeps w w' := by
  have HR := Lib.hid hr
  have HL := Lib.hid hl
  clear hr hl
  cases hv : setB W n r x s
  · have HV : Hid (-1 = knowsAns W n r x a s) := Lib.hid (by unfold knowsAns; rw [hv]; rfl)
    have H1 := Lib.hid hv
    clear hv
    go_enter Try.func12, Try.ntmps12
    go_wp2_with fail
    refine (setOk_any A n c r x W s _ hn (HR.out.keeps (Keeps.alloc _ _)) HL.out).mono ?_
    rintro e w1 ⟨rfl, hk1⟩
    rw [H1.out]
    go_wp2
    go_ret
    exact ⟨ret_int HV.out, (Keeps.alloc _ _).step hk1⟩
  · obtain ⟨V, S, rfl, rfl, hV1, hV2, hn4, hS, hS2, hrow⟩ := setB_iff W n r x s hv
    cases ha : inB a 0 ((n : Int) - 1)
    · have HV : Hid (-1 = knowsAns V n r x a S) := Lib.hid (by unfold knowsAns; rw [hv, ha]; rfl)
      have H1 := Lib.hid hv
      have H2 := Lib.hid ha
      clear hv ha hrow
      go_enter Try.func12, Try.ntmps12
      go_wp2_with fail
      refine (setOk_any A n c r x V S _ hn (HR.out.keeps (Keeps.alloc _ _)) HL.out).mono ?_
      rintro e w1 ⟨rfl, hk1⟩
      have hc0 := cell_keeps hk1 (box0 w (.int .i64 V) (.slice A n c) 25)
      have hc1 := cell_keeps hk1 (box1 w (.int .i64 V) (.slice A n c) 25)
      rw [H1.out]
      go_wp2_with fail
      refine (within_any _ _ _ _).mono ?_
      rintro e w2 ⟨rfl, rfl⟩
      rw [H2.out]
      go_wp2
      go_ret
      exact ⟨ret_int HV.out, (Keeps.alloc _ _).step hk1⟩
    · obtain ⟨ha0, ha1⟩ := inB_true ha
      obtain ⟨k, rfl⟩ := Int.eq_ofNat_of_zero_le ha0
      have HV : Hid (((knowsB x V k S : Nat) : Int) = knowsAns V n r x k S) := Lib.hid (by unfold knowsAns; rw [hv, ha]; simp)
      have H1 := Lib.hid hv
      have H2 := Lib.hid ha
      have HW := Lib.hid hrow
      clear hv ha hrow
      go_enter Try.func12, Try.ntmps12
      go_wp2_with fail
      refine (setOk_any A n c r x V S _ hn (HR.out.keeps (Keeps.alloc _ _)) HL.out).mono ?_
      rintro e w1 ⟨rfl, hk1⟩
      have hc0 := cell_keeps hk1 (box0 w (.int .i64 V) (.slice A n c) 25)
      have hc1 := cell_keeps hk1 (box1 w (.int .i64 V) (.slice A n c) 25)
      rw [H1.out]
      go_wp2_with fail
      refine (within_any _ _ _ _).mono ?_
      rintro e w2 ⟨rfl, rfl⟩
      rw [H2.out]
      go_wp2_with fail
      refine (lookOf_any A n c V _).mono ?_
      rintro e w2 ⟨rfl, hk2⟩
      go_wp2_with fail
      refine (knows_any A n c V r x k S _ hV2 (((HR.out.keeps (Keeps.alloc _ _)).keeps hk1).keeps hk2) (by omega) (HW.out k (by omega)).1 hS2).mono ?_
      rintro e w3 ⟨rfl, hk3⟩
      go_wp2
      go_ret
      exact ⟨ret_int HV.out, (((Keeps.alloc _ _).step hk1).step hk2).step hk3⟩

set_option maxHeartbeats 400000 in
theorem iCommonOf_any (A : Option Addr) (n c : Nat) (r : Nat → Option Addr × Nat × Nat) (x : Nat → Nat → Int) (W s : Int) (w : World) (hn : n ≤ 1099511627776) (hr : Rows w A n r x) (hl : ∀ i, i < n → (r i).2.1 ≤ 1099511627776) :
    Calls Try.prog 14 #[.agg #[.int .i64 W, .slice A n c], .int .i64 s] w fun e w' => e = .returned (.int .i64 (comAns W n r x s)) ∧ Keeps w w' := by
  have HR := Lib.hid hr
  have HL := Lib.hid hl
  clear hr hl
  cases hv : setB W n r x s
  · have HV : Hid (-1 = comAns W n r x s) := Lib.hid (by unfold comAns; rw [hv]; rfl)
    have H1 := Lib.hid hv
    clear hv
    go_enter Try.func14, Try.ntmps14
    go_wp2_with fail
    refine (setOk_any A n c r x W s _ hn (HR.out.keeps (Keeps.alloc _ _)) HL.out).mono ?_
    rintro e w1 ⟨rfl, hk1⟩
    rw [H1.out]
    go_wp2
    go_ret
    exact ⟨ret_int HV.out, (Keeps.alloc _ _).step hk1⟩
  · obtain ⟨V, S, rfl, rfl, hV1, hV2, hn4, hS, hS2, hrow⟩ := setB_iff W n r x s hv
    have HV : Hid (((comB (fun s => allB x V s n) S : Nat) : Int) = comAns V n r x S) := Lib.hid (by unfold comAns; rw [hv]; simp)
    have H1 := Lib.hid hv
    have HW := Lib.hid hrow
    clear hv hrow
    go_enter Try.func14, Try.ntmps14
    go_wp2_with fail
    refine (setOk_any A n c r x V S _ hn (HR.out.keeps (Keeps.alloc _ _)) HL.out).mono ?_
    rintro e w1 ⟨rfl, hk1⟩
    have hc0 := cell_keeps hk1 (box0 w (.int .i64 V) (.slice A n c) 25)
    have hc1 := cell_keeps hk1 (box1 w (.int .i64 V) (.slice A n c) 25)
    rw [H1.out]
    go_wp2_with fail
    refine (lookOf_any A n c V _).mono ?_
    rintro e w2 ⟨rfl, hk2⟩
    have HR2 := Lib.hid (((HR.out.keeps (Keeps.alloc _ _)).keeps hk1).keeps hk2)
    go_wp2_with fail
    go_loopw [1, 6] (fun s _ wr => ∃ k : Nat, k < 131072 ∧ s = .int .i64 k ∧ Hid (comB (fun s => allB x V s n) k = comB (fun s => allB x V s n) S) ∧ Keeps (w2.alloc (.cells #[.int .i64 V, .slice A n c] 49)) wr) (fun s _ _ => (intOf s).toNat)
    case atStart => exact ⟨S, by omega, rfl, Lib.hid rfl, Keeps.refl _⟩
    case round =>
      obtain ⟨k, hk, rfl, HC, hKr⟩ := hrel
      have hd0 := cell_keeps hKr (box0 w2 (.int .i64 V) (.slice A n c) 49)
      have hd1 := cell_keeps hKr (box1 w2 (.int .i64 V) (.slice A n c) 49)
      have hal := allB_lt x V k n hV2
      have HB := Lib.hid (bits_and k (allB x V k n) (by omega) (by omega))
      have hle : k &&& allB x V k n ≤ k := Nat.and_le_left
      go_wp2_with fail
      refine (all_any A n c V r x k _ hV2 hn4.2 ((HR2.out.keeps (Keeps.alloc _ _)).keeps hKr) (fun a ha => (HW.out a ha).1) hk).mono ?_
      rintro e w3 ⟨rfl, hk3⟩
      by_cases hf : k &&& allB x V k n = k
      · have HF := Lib.hid hf
        have ht : (bits .and .i64 (k : Int) ((allB x V k n : Nat) : Int) == (k : Int)) = true := by rw [HB.out, hf]; simp
        clear hf
        go_wp2
        go_ret
        exact ⟨ret_int (by rw [← HV.out, ← HC.out, comB_stay _ _ HF.out]), ((((Keeps.alloc _ _).step hk1).step hk2).step (Keeps.alloc _ _)).step (hKr.step hk3)⟩
      · have ht : (bits .and .i64 (k : Int) ((allB x V k n : Nat) : Int) == (k : Int)) = false := by rw [HB.out]; simp; omega
        have hlt : k &&& allB x V k n < k := by omega
        clear hf
        go_wp2
        go_roundw
        case rel => exact ⟨k &&& allB x V k n, by omega, by rw [HB.out], Lib.hid ((comB_step (fun s => allB x V s n) k).trans HC.out), hKr.step hk3⟩
        case measure => rw [HB.out]; simp [intOf]; omega

set_option maxHeartbeats 400000 in
theorem iDepthOf_any (A : Option Addr) (n c : Nat) (r : Nat → Option Addr × Nat × Nat) (x : Nat → Nat → Int) (W v s : Int) (w : World) (hn : n ≤ 1099511627776) (hr : Rows w A n r x) (hl : ∀ i, i < n → (r i).2.1 ≤ 1099511627776) :
    Calls Try.prog 24 #[.agg #[.int .i64 W, .slice A n c], .int .i64 v, .int .i64 s] w fun e w' => e = .returned (.int .i64 (depAns W n r x v s)) ∧ Keeps w w' := by
  have HR := Lib.hid hr
  have HL := Lib.hid hl
  clear hr hl
  cases hv : setB W n r x s
  · have HV : Hid (-1 = depAns W n r x v s) := Lib.hid (by unfold depAns; rw [hv]; rfl)
    have H1 := Lib.hid hv
    clear hv
    go_enter Try.func24, Try.ntmps24
    go_wp2_with fail
    refine (setOk_any A n c r x W s _ hn (HR.out.keeps (Keeps.alloc _ _)) HL.out).mono ?_
    rintro e w1 ⟨rfl, hk1⟩
    rw [H1.out]
    go_wp2
    go_ret
    exact ⟨ret_int HV.out, (Keeps.alloc _ _).step hk1⟩
  · obtain ⟨V, S, rfl, rfl, hV1, hV2, hn4, hS, hS2, hrow⟩ := setB_iff W n r x s hv
    cases ha : inB v 0 ((V : Int) - 1)
    · have HV : Hid (-1 = depAns V n r x v S) := Lib.hid (by unfold depAns; rw [hv, ha]; rfl)
      have H1 := Lib.hid hv
      have H2 := Lib.hid ha
      clear hv ha hrow
      go_enter Try.func24, Try.ntmps24
      go_wp2_with fail
      refine (setOk_any A n c r x V S _ hn (HR.out.keeps (Keeps.alloc _ _)) HL.out).mono ?_
      rintro e w1 ⟨rfl, hk1⟩
      have hc0 := cell_keeps hk1 (box0 w (.int .i64 V) (.slice A n c) 25)
      have hc1 := cell_keeps hk1 (box1 w (.int .i64 V) (.slice A n c) 25)
      rw [H1.out]
      go_wp2_with fail
      refine (within_any _ _ _ _).mono ?_
      rintro e w2 ⟨rfl, rfl⟩
      rw [H2.out]
      go_wp2
      go_ret
      exact ⟨ret_int HV.out, (Keeps.alloc _ _).step hk1⟩
    · obtain ⟨ha0, ha1⟩ := inB_true ha
      obtain ⟨v, rfl⟩ := Int.eq_ofNat_of_zero_le ha0
      have HV : Hid (((depF (fun s => allB x V s n) v 20 S : Nat) : Int) = depAns V n r x v S) := Lib.hid (by unfold depAns; rw [hv, ha]; simp)
      have H1 := Lib.hid hv
      have H2 := Lib.hid ha
      have HW := Lib.hid hrow
      clear hv ha hrow
      go_enter Try.func24, Try.ntmps24
      go_wp2_with fail
      refine (setOk_any A n c r x V S _ hn (HR.out.keeps (Keeps.alloc _ _)) HL.out).mono ?_
      rintro e w1 ⟨rfl, hk1⟩
      have hc0 := cell_keeps hk1 (box0 w (.int .i64 V) (.slice A n c) 25)
      have hc1 := cell_keeps hk1 (box1 w (.int .i64 V) (.slice A n c) 25)
      rw [H1.out]
      go_wp2_with fail
      refine (within_any _ _ _ _).mono ?_
      rintro e w2 ⟨rfl, rfl⟩
      rw [H2.out]
      go_wp2_with fail
      refine (lookOf_any A n c V _).mono ?_
      rintro e w2 ⟨rfl, hk2⟩
      have HR2 := Lib.hid (((HR.out.keeps (Keeps.alloc _ _)).keeps hk1).keeps hk2)
      go_wp2_with fail
      go_loopw [2, 8] (fun s d wr => ∃ k j : Nat, k < 131072 ∧ j ≤ 20 ∧ s = .int .i64 k ∧ d = .int .i64 j ∧ Hid (depF (fun s => allB x V s n) v (20 - j) k + j = depF (fun s => allB x V s n) v 20 S) ∧ Keeps (w2.alloc (.cells #[.int .i64 V, .slice A n c] 49)) wr) (fun _ d _ => 20 - (intOf d).toNat)
      case atStart => exact ⟨S, 0, by omega, by omega, rfl, rfl, Lib.hid rfl, Keeps.refl _⟩
      case round =>
        obtain ⟨k, j, hk, hj, rfl, rfl, HC, hKr⟩ := hrel
        have hd0 := cell_keeps hKr (box0 w2 (.int .i64 V) (.slice A n c) 49)
        have hd1 := cell_keeps hKr (box1 w2 (.int .i64 V) (.slice A n c) 49)
        have hal := allB_lt x V k n hV2
        by_cases hlt : j < 20
        · have HS : Hid (depF (fun s => allB x V s n) v (20 - j) k = if (allB x V k n).testBit v then depF (fun s => allB x V s n) v (20 - (j + 1)) (allB x V k n) + 1 else 0) := Lib.hid (by rw [show 20 - j = (20 - (j + 1)) + 1 from by omega]; rfl)
          go_wp2_with fail
          refine (all_any A n c V r x k _ hV2 hn4.2 ((HR2.out.keeps (Keeps.alloc _ _)).keeps hKr) (fun a ha => (HW.out a ha).1) hk).mono ?_
          rintro e w3 ⟨rfl, hk3⟩
          go_wp2_with fail
          refine (has_any _ v _ (by omega) (by omega)).mono ?_
          rintro e w4 ⟨rfl, rfl⟩
          cases ht : (allB x V k n).testBit v
          · have HT := Lib.hid ht
            clear ht
            go_wp2
            go_ret
            refine ⟨ret_int ?_, ((((Keeps.alloc _ _).step hk1).step hk2).step (Keeps.alloc _ _)).step (hKr.step hk3)⟩
            rw [← HV.out, ← HC.out, HS.out, HT.out]; simp
          · have HT := Lib.hid ht
            clear ht
            go_wp2
            go_roundw
            case rel => exact ⟨allB x V k n, j + 1, by omega, by omega, rfl, by go_num, Lib.hid (by rw [← HC.out, HS.out, HT.out]; simp; omega), hKr.step hk3⟩
            case measure => simp [intOf]; omega
        · have : j = 20 := by omega
          subst this
          go_wp2
          go_ret
          refine ⟨ret_int ?_, ((((Keeps.alloc _ _).step hk1).step hk2).step (Keeps.alloc _ _)).step hKr⟩
          rw [← HV.out, ← HC.out]; simp [depF]
end Go.Proofs.Ytalafojkmomolaa
