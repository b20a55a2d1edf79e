/-
  The walk of FnExactBrokenBy: whatever the numbers are, it returns true, and nothing that was there turns. No condition.
-/
import Derived.Test.YtepgogaoppdllaaSBrokenBy
import Derived.Test.YtepgogaoppdllaaExact
import Derived.Test.YtepgogaoppdllaaWExact
namespace Go.Proofs.Ytepgogaoppdllaa
open Go.RowKit

theorem ansI_len (n order liar : Int) : (ansI n order liar).2.length ≤ 1048576 ∧ True := by
  refine ⟨?_, trivial⟩
  cases hok : brkOk n order liar
  · unfold ansI; rw [hok]; simp
  · have hok' := hok
    unfold brkOk at hok'
    rw [Bool.and_eq_true, Bool.and_eq_true] at hok'
    have h1 := inB_true hok'.1.1
    have h3 := inB_true hok'.2
    obtain ⟨n, rfl⟩ := Int.eq_ofNat_of_zero_le (show 0 ≤ n by omega)
    obtain ⟨liar, rfl⟩ := Int.eq_ofNat_of_zero_le h3.1
    rw [ansI_eq n liar order hok]
    have hnn : n * n ≤ 25 := Nat.le_trans (Nat.mul_le_mul (show n ≤ 5 by omega) (show n ≤ 5 by omega)) (by omega)
    have hsl : ∀ x q, (slA n liar x q).length = n * n := fun x q => by
      induction q with
      | zero => simp [slA]
      | succ q ih => simp [slA, ih]
    have hf : ∀ f x, (finS n liar order f x).2.length ≤ n * n := fun f => by
      induction f with
      | zero => intro x; simp [finS]
      | succ f ih =>
        intro x
        simp only [finS]
        split
        · rw [hsl]; exact Nat.le_refl _
        · exact ih (x + 1)
    exact Nat.le_trans (hf _ _) (by omega)
set_option maxRecDepth 100000 in
set_option maxHeartbeats 8000000 in
theorem FnExactBrokenBy_walk (n order liar : Int) (w : World) :
    Calls Try.prog 4 #[.int .i64 n, .int .i64 order, .int .i64 liar] w fun e w' => e = .returned (.bool true) ∧ Keeps w w' := by
  obtain ⟨N, hN, hNe⟩ : ∃ N, N ≤ 1048576 ∧ (ansI n order liar).2.length = N := ⟨_, (ansI_len n order liar).1, rfl⟩
  have HSP := Lib.hid (fun w => sbrokenBy_any n order liar w)
  have HIM := Lib.hid (fun w => brokenBy_any n order liar w)
  obtain ⟨L, hL⟩ : ∃ L, L = (ansI n order liar).2 := ⟨_, rfl⟩
  obtain ⟨b, hb⟩ : ∃ b, b = (ansI n order liar).1 := ⟨_, rfl⟩
  have HFI : Hid (∀ w' e w'', BrkAns w' (ansI n order liar) e w'' → ∃ C cc, e = .returned (.tuple #[.slice C N cc, .bool b]) ∧ OwnInts w'' w'.heap.size C N cc L ∧ Keeps w' w'') := Lib.hid (fun w' e w'' h => by
    obtain ⟨C, cc, e1, e2, e3⟩ := h
    rw [hNe, ← hb] at e1
    rw [hNe, ← hL] at e2
    exact ⟨C, cc, e1, e2, e3⟩)
  have hbb : (b != b) = false := by simp
  clear hNe hL hb
  go_enter Try.func4, Try.ntmps4
  go_wp2_with fail
  refine (HSP.out _).mono ?_
  intro e w1 hA
  obtain ⟨B, cb, rfl, hOw, hk1⟩ := HFI.out _ _ _ hA
  have HOW := Lib.hid hOw
  have HWB : Hid (∀ k, B.map (·.block) = some k → k < w1.heap.size) := Lib.hid (fun k hk => (own_block hOw k hk).2)
  clear hA hOw
  go_wp2_with fail
  refine (HIM.out _).mono ?_
  intro e w2 hA
  obtain ⟨C, cc, rfl, hOg, hk2⟩ := HFI.out _ _ _ hA
  have HOG := Lib.hid hOg
  have HGB : Hid (∀ k, C.map (·.block) = some k → w1.heap.size ≤ k) := Lib.hid (fun k hk => (own_block hOg k hk).1)
  have HOW2 := Lib.hid (HOW.out.keeps hk2)
  have hK2 := hk1.step hk2
  have hz1 := hk1.size
  clear hA hOg HOW hk1 hk2
  go_wp2_with fail
  refine (xOwn_true C B N cc cb _ _ (by omega) HOG.out HOW2.out).mono ?_
  rintro e w3 ⟨rfl, hk3⟩
  have hK3 := hK2.step hk3
  have HOG3 := Lib.hid (HOG.out.keeps hk3)
  have HOW3 := Lib.hid (HOW2.out.keeps hk3)
  clear HOG HOW2 hk3 hK2
  go_wp2_with fail
  refine (markInts_any w1.heap.size C N cc _ 1 _ (by omega) (by omega) (by omega) HOG3.out).mono ?_
  rintro e w4 ⟨rfl, hOm, hG4⟩
  have hOw4 : OwnInts w4 w.heap.size B N cb L := own_kept HOW3.out hG4 (fun k hk e => by have h1 := HWB.out k hk; have h2 := HGB.out k e; omega)
  have hK4 := hK3.grown HOG3.out hz1 hG4
  have HOM := Lib.hid hOm
  have HOW4 := Lib.hid hOw4
  clear hOm hOw4 hG4 hK3 HOG3 HOW3
  go_wp2_with fail
  refine (heldInts_any w1.heap.size C N cc 1 _ (by omega) (by omega) (by omega) HOM.out).mono ?_
  rintro e w5 ⟨rfl, hk5⟩
  have hK5 := hK4.step hk5
  have HOM5 := Lib.hid (HOM.out.keeps hk5)
  have HOW5 := Lib.hid (HOW4.out.keeps hk5)
  have hne2 : ((1 : Int) + N != 1 + N) = false := by simp
  clear hK4 HOM HOW4 hk5
  go_wp2_with fail
  refine (HIM.out _).mono ?_
  intro e w6 hA
  obtain ⟨D, cd, rfl, hOh, hk6⟩ := HFI.out _ _ _ hA
  have HOH := Lib.hid hOh
  have hK6 := hK5.step hk6
  have HOM6 := Lib.hid (HOM5.out.keeps hk6)
  have HOW6 := Lib.hid (HOW5.out.keeps hk6)
  clear hA hOh hK5 HOM5 HOW5 hk6
  go_wp2_with fail
  refine (xOwn_true D B N cd cb _ _ (by omega) HOH.out HOW6.out).mono ?_
  rintro e w7 ⟨rfl, hk7⟩
  have HOM7 := Lib.hid (HOM6.out.keeps hk7)
  have hK7 := hK6.step hk7
  clear hK6 HOM6 HOW6 HOH hk7
  go_wp2_with fail
  refine (heldInts_any w1.heap.size C N cc 1 _ (by omega) (by omega) (by omega) HOM7.out).mono ?_
  rintro e w8 ⟨rfl, hk8⟩
  go_wp2
  go_ret
  exact ⟨rfl, hK7.step hk8⟩
end Go.Proofs.Ytepgogaoppdllaa
