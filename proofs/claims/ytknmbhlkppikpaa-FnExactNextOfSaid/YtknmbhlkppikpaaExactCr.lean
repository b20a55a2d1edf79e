/-
  The exact laws' marks on lists of lists whose shown capacities differ from those of their blocks. Conditions: bounds on lengths and numbers.
-/
import Derived.Test.YtknmbhlkppikpaaExactSS
import Derived.Test.YtknmbhlkppikpaaRchI
namespace Go.Proofs.Ytknmbhlkppikpaa
set_option linter.unusedVariables false
open Go.RowKit

set_option maxHeartbeats 1000000 in
theorem markIntsC_any (lo : Nat) (A : Option Addr) (n c c0 : Nat) (l : List Int) (k : Int) (w : World) (hn : n ≤ 1099511627776) (h0 : 0 ≤ k) (h1 : k ≤ 1099511627776) (hO : OwnInts w lo A n c l) :
    Calls Try.prog 16 #[.slice A n c0, .int .i64 k] w fun e w' => e = .returned (.int .i64 (k + n)) ∧ OwnInts w' lo A n c (il n (fun i => k + i)) ∧ w.grownBy w' (A.map (·.block)) := by
  have HO := Lib.hid hO
  clear hO
  go_enter Try.func16, Try.ntmps16
  go_wp2_with fail
  go_loopw [5, 1] (fun i v wr => ∃ j : Nat, j ≤ n ∧ i = .int .i64 j ∧ v = .int .i64 (k + j) ∧ OwnInts wr lo A n c (il n (fun i => if i < j then k + i else l.getD i 0)) ∧ w.grownBy wr (A.map (·.block))) (fun i _ _ => n - (intOf i).toNat)
  case atStart =>
    refine ⟨0, by omega, rfl, by simp, ?_, grown_refl _ _⟩
    rw [il_congr n _ (fun i => l.getD i 0) (fun i _ => by simp), il_self l n HO.out.len]
    exact HO.out
  case round =>
    obtain ⟨j, hj, rfl, rfl, hO, hG⟩ := hrel
    by_cases hlt : j < n
    · obtain ⟨g, rfl⟩ := hO.at (by omega)
      have hji : (j : Int) < n := by omega
      have hc := hO.cell j hlt
      have hf := hO.frozen j
      have HN := Lib.hid (hO.set j (k + j))
      clear hO HO
      have H2 : Hid (k + (j : Int) + 1 = k + ((j + 1 : Nat) : Int)) := Lib.hid (by omega)
      go_wp2
      go_roundw
      case rel =>
        refine ⟨j + 1, by omega, by go_num, by rw [H2.out], ?_, grown_step hG (grown_set _ _ _ _)⟩
        have h := HN.out
        rw [il_set] at h
        rw [il_congr n _ (fun i => if i = j then k + (j : Int) else if i < j then k + (i : Int) else l.getD i 0) (fun i _ => by
          by_cases h1 : i = j
          · subst h1; simp
          · by_cases h2 : i < j
            · rw [if_pos (by omega), if_neg h1, if_pos h2]
            · rw [if_neg (by omega), if_neg h1, if_neg h2])]
        exact h
      case measure => simp [intOf]; omega
    · obtain rfl : j = n := by omega
      have HO2 := Lib.hid hO
      clear hO HO
      go_wp2
      go_ret
      refine ⟨rfl, ?_, hG⟩
      rw [il_congr j (fun i => k + (i : Int)) (fun i => if i < j then k + (i : Int) else l.getD i 0) (fun i hi => by rw [if_pos hi])]
      exact HO2.out
set_option maxHeartbeats 1000000 in
theorem heldIntsC_any (lo : Nat) (A : Option Addr) (n c c0 : Nat) (k : Int) (w : World) (hn : n ≤ 1099511627776) (h0 : 0 ≤ k) (h1 : k ≤ 1099511627776) (hO : OwnInts w lo A n c (il n (fun i => k + i))) :
    Calls Try.prog 33 #[.slice A n c0, .int .i64 k] w fun e w' => e = .returned (.int .i64 (k + n)) ∧ Keeps w w' := by
  have HO := Lib.hid hO
  clear hO
  go_enter Try.func33, Try.ntmps33
  go_wp2_with fail
  go_loopw [5, 1] (fun i v wr => ∃ j : Nat, j ≤ n ∧ i = .int .i64 j ∧ v = .int .i64 (k + j) ∧ Keeps w wr) (fun i _ _ => n - (intOf i).toNat)
  case atStart => exact ⟨0, by omega, rfl, by simp, Keeps.refl _⟩
  case round =>
    obtain ⟨j, hj, rfl, rfl, hK⟩ := hrel
    by_cases hlt : j < n
    · obtain ⟨g, rfl⟩ := HO.out.at (by omega)
      have hji : (j : Int) < n := by omega
      have hc := (HO.out.keeps hK).cell j hlt
      rw [il_getD _ _ _ hlt] at hc
      have H2 : Hid (k + (j : Int) + 1 = k + ((j + 1 : Nat) : Int)) := Lib.hid (by omega)
      have hne : (k + (j : Int) != k + (j : Int)) = false := by simp
      go_wp2
      go_roundw
      case rel => exact ⟨j + 1, by omega, by go_num, by rw [H2.out], hK⟩
      case measure => simp [intOf]; omega
    · obtain rfl : j = n := by omega
      go_wp2
      go_ret
      exact ⟨rfl, hK⟩
/-- A list of own lists: the top is read, the rows lie in different blocks; shown capacities Cp, real ones Dp. -/
structure OwnCM (w : World) (lo : Nat) (A0 : Option Addr) (n : Nat) (A : Nat → Option Addr) (Ln Cp Dp : Nat → Nat) (X : Nat → Nat → Int) : Prop where
  top : n = 0 ∨ ∃ g cur, A0 = some ⟨g, 0, none⟩ ∧ lo ≤ g ∧ Blk w g 22 cur ∧ ∀ i, i < n → cur[i]? = some (.slice (A i) (Ln i) (Cp i))
  row : ∀ i, i < n → OwnInts w lo (A i) (Ln i) (Dp i) (il (Ln i) (X i))
  apart : ∀ i j, i < n → j < n → ∀ k, (A i).map (·.block) = some k → (A j).map (·.block) = some k → i = j
section
variable {w w' : World} {lo n : Nat} {A0 : Option Addr} {A : Nat → Option Addr} {Ln Cp Dp : Nat → Nat} {X : Nat → Nat → Int}
theorem OwnCM.at (h : OwnCM w lo A0 n A Ln Cp Dp X) (hn : 1 ≤ n) : ∃ g, A0 = some ⟨g, 0, none⟩ := by
  rcases h.top with h0 | ⟨g, _, e, _⟩
  · omega
  · exact ⟨g, e⟩
theorem OwnCM.cell {g : Nat} (h : OwnCM w lo (some ⟨g, 0, none⟩) n A Ln Cp Dp X) (i : Nat) (hi : i < n) : w.cell? ⟨g, i, none⟩ = some (.slice (A i) (Ln i) (Cp i)) := by
  rcases h.top with h0 | ⟨g', cur, e, _, h2, h3⟩
  · omega
  · cases e
    rw [h2.cell]
    exact h3 i hi
theorem OwnCM.rblo (h : OwnCM w lo A0 n A Ln Cp Dp X) (i : Nat) (hi : i < n) : ∀ k, (A i).map (·.block) = some k → lo ≤ k ∧ k < w.heap.size := own_block (h.row i hi)
theorem OwnCM.top_kept {a : Option Addr} {m c : Nat} {l : List Int} (h : OwnCM w lo A0 n A Ln Cp Dp X) (hg : w.grownBy w' (a.map (·.block))) (hr : OwnInts w lo a m c l) : n = 0 ∨ ∃ g cur, A0 = some ⟨g, 0, none⟩ ∧ lo ≤ g ∧ Blk w' g 22 cur ∧ ∀ i, i < n → cur[i]? = some (.slice (A i) (Ln i) (Cp i)) := by
  rcases h.top with h0 | ⟨g, cur, e, h1, h2, h3⟩
  · exact .inl h0
  · exact .inr ⟨g, cur, e, h1, h2.grown hg (own_other' hr h2 (by decide)), h3⟩
theorem OwnCM.keeps (h : OwnCM w lo A0 n A Ln Cp Dp X) (k : Keeps w w') : OwnCM w' lo A0 n A Ln Cp Dp X := by
  refine ⟨?_, fun i hi => (h.row i hi).keeps k, h.apart⟩
  rcases h.top with h0 | ⟨g, cur, e, h1, h2, h3⟩
  · exact .inl h0
  · exact .inr ⟨g, cur, e, h1, h2.keeps k, h3⟩
theorem OwnCM.rows (h : OwnCM w lo A0 n A Ln Cp Dp X) : Rows w A0 n (fun i => (A i, Ln i, Cp i)) X := fun i hi => by
  obtain ⟨g, rfl⟩ := h.at (by omega)
  refine ⟨⟨g, 0, rfl, by rw [Nat.zero_add]; exact h.cell i hi⟩, fun j hj => ?_⟩
  obtain ⟨b, off, e, hc⟩ := (h.row i hi).ints j hj
  exact ⟨b, off, e, by dsimp only at hc; rw [il_getD _ _ _ hj] at hc; exact hc⟩
theorem OwnCM.mid {l1 hi : Nat} (h : OwnCM w lo A0 n A Ln Cp Dp X) (m : Mid l1 hi w w') (hl : hi ≤ lo) : OwnCM w' lo A0 n A Ln Cp Dp X := by
  refine ⟨?_, fun i h2 => m.ints (h.row i h2) (fun k hk => .inr (by have := (h.rblo i h2 k hk).1; omega)), h.apart⟩
  rcases h.top with h0 | ⟨g, cur, e, h1, h2, h3⟩
  · exact .inl h0
  · exact .inr ⟨g, cur, e, h1, (m.2.2.2.2 g h2.lt (.inr (by omega))).trans h2, h3⟩
end
/-- A list as one reads it. -/
def CrA (R : List Hdr) (i : Nat) : Option Addr := some ⟨(R.getD i default).g, 0, none⟩
def CrL (R : List Hdr) (i : Nat) : Nat := (R.getD i default).l.length
def CrC (R : List Hdr) (i : Nat) : Nat := (R.getD i default).c
def CrD (R : List Hdr) (i : Nat) : Nat := (R.getD i default).d
theorem Crn.cm {w : World} {lo m : Nat} {A0 : Option Addr} {R : List Hdr} (h : Crn w lo A0 m R) (hn : (R.map (·.g)).Nodup) : OwnCM w lo A0 m (CrA R) (CrL R) (CrC R) (CrD R) (numR R) := by
  have hl := h.len
  refine ⟨?_, fun i hi => ?_, fun i j hi hj k h1 h2 => ?_⟩
  · rcases h.top with h0 | ⟨g, cur, e, h1, h2, h3⟩
    · exact .inl h0
    · refine .inr ⟨g, cur, e, h1, h2, fun i hi => ?_⟩
      have h4 := congrArg (fun t : List Value => t[i]?) h3
      simp only [List.getElem?_take_of_lt hi, List.getElem?_map] at h4
      rw [Array.getElem?_toList] at h4
      rw [h4, List.getElem?_eq_getElem (by omega)]
      unfold CrA CrL CrC
      rw [List.getD_eq_getElem?_getD, List.getElem?_eq_getElem (by omega)]
      rfl
  · have h2 := h.rowD i hi
    unfold CrA CrL CrD
    rw [show il (R.getD i default).l.length (numR R i) = (R.getD i default).l from il_self _ _ rfl]
    exact h2
  · unfold CrA at h1 h2
    have e : (R.getD i default).g = (R.getD j default).g := by
      simp only [Option.map_some, Option.some.injEq] at h1 h2
      rw [h1, h2]
    have h5 : (R.map (·.g))[i]? = (R.map (·.g))[j]? := by
      rw [List.getElem?_map, List.getElem?_map, List.getElem?_eq_getElem (by omega), List.getElem?_eq_getElem (by omega)]
      rw [List.getD_eq_getElem?_getD, List.getD_eq_getElem?_getD, List.getElem?_eq_getElem (by omega), List.getElem?_eq_getElem (by omega)] at e
      simpa using e
    exact (List.getElem?_inj (by rw [List.length_map]; omega) hn).1 h5
set_option maxHeartbeats 2000000 in
theorem markCM_any (lo hi n c0 : Nat) (A0 : Option Addr) (A : Nat → Option Addr) (Ln Cp Dp : Nat → Nat) (X : Nat → Nat → Int) (k : Int) (w : World) (hn : n ≤ 1048576) (hs : sumTo Ln n ≤ 1048576) (h0 : 0 ≤ k) (h1 : k ≤ 4194304) (hO : OwnCM w lo A0 n A Ln Cp Dp X) (hG : ∀ i, i < n → ∀ d, (A i).map (·.block) = some d → d < hi) :
    Calls Try.prog 17 #[.slice A0 n c0, .int .i64 k] w fun e w' => e = .returned (.int .i64 (k + (sumTo Ln n : Nat))) ∧ OwnCM w' lo A0 n A Ln Cp Dp (fun i j => k + (sumTo Ln i : Nat) + j) ∧ Mid lo hi w w' := by
  have HO := Lib.hid hO
  have HG := Lib.hid hG
  have HSL := Lib.hid (sumTo_le Ln n)
  clear hO hG
  go_enter Try.func17, Try.ntmps17
  go_wp2_with fail
  go_loopw [5, 1] (fun i v wr => ∃ j : Nat, j ≤ n ∧ i = .int .i64 j ∧ v = .int .i64 (k + (sumTo Ln j : Nat)) ∧ Hid (OwnCM wr lo A0 n A Ln Cp Dp (fun i u => if i < j then k + (sumTo Ln i : Nat) + u else X i u)) ∧ Mid lo hi w wr) (fun i _ _ => n - (intOf i).toNat)
  case atStart => exact ⟨0, by omega, rfl, by simp [sumTo], Lib.hid ⟨HO.out.top, fun i hi => by simpa using HO.out.row i hi, HO.out.apart⟩, Mid.refl _ _ _⟩
  case round =>
    clear HO
    obtain ⟨j, hj, rfl, rfl, HM, hMid⟩ := hrel
    by_cases hlt : j < n
    · have hji : (j : Int) < n := by omega
      obtain ⟨g, rfl⟩ := HM.out.at (by omega)
      have hc := HM.out.cell j hlt
      have hlj := sumTo_one Ln n j hlt
      have hsj := HSL.out j hj
      have HS := Lib.hid (show sumTo Ln (j + 1) = sumTo Ln j + Ln j from rfl)
      have HRow := Lib.hid (HM.out.row j hlt)
      have HB := Lib.hid (HM.out.rblo j hlt)
      have H2 : Hid (k + ((sumTo Ln j : Nat) : Int) + (Ln j : Nat) = k + ((sumTo Ln (j + 1) : Nat) : Int)) := Lib.hid (by rw [HS.out]; omega)
      have CM := Lib.hid (markIntsC_any lo (A j) (Ln j) (Dp j) (Cp j) _ (k + (sumTo Ln j : Nat)) wr (by omega) (by omega) (by omega) HRow.out)
      generalize hsv : sumTo Ln j = s at *
      have HSV := Lib.hid hsv
      clear hsv
      go_wp2_with fail
      refine CM.out.mono ?_
      rintro e w1 ⟨rfl, hO1, hg1⟩
      have HO1 := Lib.hid hO1
      have HG1 := Lib.hid hg1
      have HM1 := Lib.hid (hMid.step (Mid.ofGrown hg1 (fun d hd => ⟨(HB.out d hd).1, HG.out j hlt d hd⟩)))
      clear hO1 hg1 hMid
      go_wp2
      go_roundw
      case rel =>
        refine ⟨j + 1, by omega, by go_num, by rw [H2.out], Lib.hid ⟨HM.out.top_kept HG1.out HRow.out, fun i hi => ?_, HM.out.apart⟩, HM1.out⟩
        by_cases h : i = j
        · subst h
          have h3 := HO1.out
          rw [il_congr (Ln i) (fun u => if i < i + 1 then k + (sumTo Ln i : Nat) + (u : Int) else X i u) (fun u => k + (s : Nat) + (u : Int)) (fun u _ => by rw [if_pos (by omega), HSV.out])]
          exact h3
        · have h3 := own_kept (HM.out.row i hi) HG1.out (fun b hb e => h (HM.out.apart i j hi hlt b hb e))
          rw [il_congr (Ln i) (fun u => if i < j + 1 then k + (sumTo Ln i : Nat) + (u : Int) else X i u) (fun u => if i < j then k + (sumTo Ln i : Nat) + (u : Int) else X i u) (fun u _ => by
            by_cases h4 : i < j
            · rw [if_pos (by omega), if_pos h4]
            · rw [if_neg (by omega), if_neg h4])]
          exact h3
      case measure => simp [intOf]; omega
    · obtain rfl : j = n := by omega
      have HFIN : Hid (OwnCM wr lo A0 j A Ln Cp Dp (fun i u => k + (sumTo Ln i : Nat) + u)) := Lib.hid ⟨HM.out.top, fun i hi => by
        have h3 := HM.out.row i hi
        rw [il_congr (Ln i) (fun u => k + (sumTo Ln i : Nat) + (u : Int)) (fun u => if i < j then k + (sumTo Ln i : Nat) + (u : Int) else X i u) (fun u _ => by rw [if_pos hi])]
        exact h3, HM.out.apart⟩
      go_wp2
      go_ret
      exact ⟨rfl, HFIN.out, hMid⟩
set_option maxHeartbeats 2000000 in
theorem heldCM_any (lo n c0 : Nat) (A0 : Option Addr) (A : Nat → Option Addr) (Ln Cp Dp : Nat → Nat) (k : Int) (w : World) (hn : n ≤ 1048576) (hs : sumTo Ln n ≤ 1048576) (h0 : 0 ≤ k) (h1 : k ≤ 1048576) (hO : OwnCM w lo A0 n A Ln Cp Dp (fun i j => k + (sumTo Ln i : Nat) + j)) :
    Calls Try.prog 18 #[.slice A0 n c0, .int .i64 k] w fun e w' => e = .returned (.int .i64 (k + (sumTo Ln n : Nat))) ∧ Keeps w w' := by
  have HO := Lib.hid hO
  have HSL := Lib.hid (sumTo_le Ln n)
  clear hO
  go_enter Try.func18, Try.ntmps18
  go_wp2_with fail
  go_loopw [5, 1] (fun i v wr => ∃ j : Nat, j ≤ n ∧ i = .int .i64 j ∧ v = .int .i64 (k + (sumTo Ln j : Nat)) ∧ Keeps w wr) (fun i _ _ => n - (intOf i).toNat)
  case atStart => exact ⟨0, by omega, rfl, by simp [sumTo], Keeps.refl _⟩
  case round =>
    obtain ⟨j, hj, rfl, rfl, hK⟩ := hrel
    by_cases hlt : j < n
    · have hji : (j : Int) < n := by omega
      obtain ⟨g, rfl⟩ := HO.out.at (by omega)
      have hc := (HO.out.keeps hK).cell j hlt
      have hlj := sumTo_one Ln n j hlt
      have hsj := HSL.out j hj
      have hsj1 := HSL.out (j + 1) hlt
      have HS := Lib.hid (show sumTo Ln (j + 1) = sumTo Ln j + Ln j from rfl)
      have H2 : Hid (k + ((sumTo Ln j : Nat) : Int) + (Ln j : Nat) = k + ((sumTo Ln (j + 1) : Nat) : Int)) := Lib.hid (by rw [HS.out]; omega)
      have CM := Lib.hid (heldIntsC_any lo (A j) (Ln j) (Dp j) (Cp j) (k + (sumTo Ln j : Nat)) wr (by omega) (by omega) (by omega) ((HO.out.row j hlt).keeps hK))
      have hge : 0 ≤ k + ((sumTo Ln j : Nat) : Int) + (Ln j : Nat) := by omega
      have hlj2 : k + ((sumTo Ln j : Nat) : Int) + (Ln j : Nat) ≤ 4000000 := by omega
      generalize sumTo Ln j = s at *
      generalize hs2 : sumTo Ln (j + 1) = s2 at *
      have HS2 := Lib.hid hs2
      clear hs2
      go_wp2_with fail
      refine CM.out.mono ?_
      rintro e w1 ⟨rfl, hk1⟩
      go_wp2
      go_roundw
      case rel => exact ⟨j + 1, by omega, by go_num, by rw [H2.out, HS2.out], hK.step hk1⟩
      case measure => simp [intOf]; omega
    · obtain rfl : j = n := by omega
      go_wp2
      go_ret
      exact ⟨rfl, hK⟩
end Go.Proofs.Ytknmbhlkppikpaa
