/-
  The contract of someMarks of the generator: whatever the code is, at most six numbers in new memory. Condition: at most 1000 picks so far.
-/
import Derived.Test.YtdjilgbcpdlkfaaIsIn
import Derived.Test.YtdjilgbcpdlkfaaDist
import Derived.Test.YtdjilgbcpdlkfaaClass
import Derived.Test.YtdjilgbcpdlkfaaNetOf
import Derived.Deep.CutBlock
import Derived.Deep.DeepCutAuto
namespace Go.Proofs.Ytdjilgbcpdlkfaa
open Go.RowKit

/-- How far the next number is that a list does not have. -/
def freeIn (l : List Int) (k x : Nat) : Nat := leastN (fun j => !anyB (fun i => l.getD i 0 == (((x + j) % 21 : Nat) : Int)) k) 21
theorem leastN_le_at {p : Nat → Bool} {n k : Nat} (h : p k = true) : leastN p n ≤ k := by
  by_cases e : leastN p n ≤ k
  · exact e
  · have := leastN_before p n k (by omega)
    rw [h] at this
    cases this
theorem free_lt (l : List Int) (k x : Nat) (hk : k ≤ 20) : freeIn l k x < 21 := by
  by_cases e : freeIn l k x < 21
  · exact e
  · have hall : ∀ j, j < 21 → ∃ i, i < k ∧ l.getD i 0 = (((x + j) % 21 : Nat) : Int) := fun j hj => by
      have h1 := leastN_before (fun j => !anyB (fun i => l.getD i 0 == (((x + j) % 21 : Nat) : Int)) k) 21 j (by unfold freeIn at e; omega)
      have h2 : anyB (fun i => l.getD i 0 == (((x + j) % 21 : Nat) : Int)) k = true := by simpa using h1
      obtain ⟨i, hi, e2⟩ := (anyB_iff _ _).1 h2
      exact ⟨i, hi, by simpa using e2⟩
    have hf : ∃ f : Nat → Nat, ∀ j, j < 21 → f j < k ∧ l.getD (f j) 0 = (((x + j) % 21 : Nat) : Int) :=
      ⟨fun j => if h : j < 21 then (hall j h).choose else 0, fun j hj => by dsimp only; rw [dif_pos hj]; exact (hall j hj).choose_spec⟩
    obtain ⟨f, hf⟩ := hf
    have := pigeon k 21 f (fun i hi => (hf i hi).1) (fun i j hi hj he => by
      have h1 := (hf i hi).2
      have h2 := (hf j hj).2
      rw [he, h2] at h1
      omega)
    omega
theorem free_step (l : List Int) (k x : Nat) (hk : k ≤ 20) (hx : x < 21) (h : anyB (fun i => l.getD i 0 == (x : Int)) k = true) : freeIn l k ((x + 1) % 21) < freeIn l k x := by
  have hd := free_lt l k x hk
  have hat := leastN_at (fun j => !anyB (fun i => l.getD i 0 == (((x + j) % 21 : Nat) : Int)) k) 21 hd
  have h0 : freeIn l k x ≠ 0 := fun e => by
    have e' : leastN (fun j => !anyB (fun i => l.getD i 0 == (((x + j) % 21 : Nat) : Int)) k) 21 = 0 := e
    rw [e'] at hat
    simp only [Nat.add_zero, Nat.mod_eq_of_lt hx, h] at hat
    cases hat
  have hle : freeIn l k ((x + 1) % 21) ≤ freeIn l k x - 1 := by
    refine leastN_le_at ?_
    have e : ((x + 1) % 21 + (freeIn l k x - 1)) % 21 = (x + freeIn l k x) % 21 := by omega
    rw [e]
    exact hat
  omega
/-- Numbers under way. -/
structure MkB (b q k g c : Nat) (l : List Int) (w wx : World) : Prop where
  own : OwnInts wx w.heap.size (some ⟨g, 0, none⟩) k c l
  rd : Rd wx b q
  gro : Gro b w wx
theorem MkB.keeps {b q k g c : Nat} {l : List Int} {w wx wy : World} (h : MkB b q k g c l w wx) (kk : Keeps wx wy) : MkB b q k g c l w wy := ⟨h.own.keeps kk, h.rd.gro kk, h.gro.step (Gro.ofKeeps kk)⟩
theorem MkB.gro' {b q q' k g c : Nat} {l : List Int} {w wx wy : World} (h : MkB b q k g c l w wx) (gg : Gro b wx wy) (hr : Rd wy b q') : MkB b q' k g c l w wy := ⟨own_gro h.own gg h.rd, hr, h.gro.step gg⟩
def MarksGot (b p j : Nat) (w : World) (e : Ending) (w' : World) : Prop :=
  ∃ (n q g c : Nat) (l : List Int), e = .returned (.slice (some ⟨g, 0, none⟩) n c) ∧ n ≤ 6 ∧ q ≤ p + j ∧ MkB b q n g c l w w'
set_option maxRecDepth 100000 in
set_option maxHeartbeats 8000000 in
theorem someMarks_any (b p : Nat) (w : World) (h : Rd w b p) (hp : p ≤ 1000) :
    Calls Try.prog 46 #[.pointer (some ⟨b, 0, none⟩)] w (MarksGot b p 20 w) := by
  have HR := Lib.hid h
  have hbw := h.lt
  clear h
  have HM0 : Hid (MkB b p 0 w.heap.size 0 [] w (w.alloc (.cells #[] 3))) := Lib.hid ⟨OwnInts.made w w.heap.size (Nat.le_refl _), HR.out.gro (Keeps.alloc _ _), Gro.ofKeeps (Keeps.alloc _ _)⟩
  clear HR
  go_enter Try.func46, Try.ntmps46
  go_wp2_with fail
  refine (one_lit b p [4, 5, 6, 3, 2, 1, 0] 0 6 _ _ _ _ (by decide) (by decide) (by decide) (by omega) HM0.out.rd rfl (by simp) rfl).mono ?_
  rintro e w1 ⟨n, rfl, hn0, hn6, hR1, hG1⟩
  obtain ⟨n, rfl⟩ := Int.eq_ofNat_of_zero_le hn0
  have HM1 := Lib.hid ((HM0.out.keeps (Keeps.alloc _ (.cells #[.int .i64 4, .int .i64 5, .int .i64 6, .int .i64 3, .int .i64 2, .int .i64 1, .int .i64 0] 3))).gro' hG1 hR1)
  clear HM0 hR1 hG1
  go_wp2_with fail
  go_loopw [3] (fun s wr => ∃ (k q g c : Nat) (l : List Int), k ≤ n ∧ s = .slice (some ⟨g, 0, none⟩) k c ∧ q = p + 1 + k ∧ Hid (MkB b q k g c l w wr)) (fun s _ => n - (match s with | .slice _ k _ => k | _ => 0))
  case atStart => exact ⟨0, p + 1, _, 0, [], by omega, rfl, by omega, HM1⟩
  case round =>
    clear HM1
    obtain ⟨k, q, g, c, l, hk, rfl, rfl, HM⟩ := hrel
    have hkc := own_cap HM.out.own
    have hkc1 := hkc.1
    have hc63 := hkc.2
    by_cases hlt : k < n
    · have hki : (k : Int) < n := by omega
      go_wp2_with fail
      refine (pick_any b (p + 1 + k) 21 _ HM.out.rd (by omega)).mono ?_
      rintro e w2 ⟨x, rfl, hx, hR2, hG2⟩
      have HM2 := Lib.hid (HM.out.gro' hG2 hR2)
      have hx21 : x < 21 := by omega
      clear HM hR2 hG2 hx
      go_wp2_with fail
      go_loop [5] (fun i => ∃ y : Nat, y < 21 ∧ i = .int .i64 y) (fun i => freeIn l k (intOf i).toNat)
      case atStart => exact ⟨x, hx21, rfl⟩
      case round =>
        clear hx21
        obtain ⟨y, hy, rfl⟩ := hrel
        have CH := Lib.hid (fun w' (kk : Keeps w2 w') => hasMark_any (some ⟨g, 0, none⟩) k c (fun i => l.getD i 0) (y : Int) w' (by omega) ((HM2.out.own.keeps kk).ints))
        have HST := Lib.hid (free_step l k y (by omega) hy)
        cases hh : anyB (fun i => l.getD i 0 == (y : Int)) k
        · rw [hh] at CH
          clear hh HST
          go_wp2_with (first | (go_at_call 70; refine (CH.out _ (Keeps.refl _)).mono ?_; rintro e w3 ⟨rfl, rfl⟩) | (at_builtin; refine wp_app_int rfl _ _ rfl w.heap.size (some ⟨g, 0, none⟩) k c l _ rfl HM2.out.own _ rfl (by omega) HM2.out.gro.size ?_; intro g6 c6 w6 hO6 hg6))
          have HM6 : Hid (MkB b (p + 1 + (k + 1)) (k + 1) g6 c6 (l ++ [(y : Int)]) w w6) := Lib.hid ⟨hO6, HM2.out.rd.grown hg6 (fun d hd => by have := (own_block HM2.out.own d hd).1; omega), HM2.out.gro.above hg6 (fun d hd => (own_block HM2.out.own d hd).1)⟩
          clear hO6 hg6
          go_wp2_with fail
          go_roundw
          case rel => exact ⟨k + 1, p + 1 + (k + 1), g6, c6, _, by omega, rfl, by omega, HM6⟩
          case measure => show n - (k + 1) < n - k; omega
        · rw [hh] at CH
          have HST2 := Lib.hid (HST.out hh)
          have hy1 : (y : Int) + 1 ≤ 21 := by omega
          have hy0 : (0 : Int) ≤ (y : Int) + 1 := by omega
          clear hh HST
          go_wp2_with (first | (go_at_call 70; refine (CH.out _ (Keeps.refl _)).mono ?_; rintro e w3 ⟨rfl, rfl⟩))
          go_round
          case rel => exact ⟨(y + 1) % 21, Nat.mod_lt _ (by omega), by simp⟩
          case measure =>
            have e1 : (intOf (.int .i64 (((y : Int) + 1) % 21))).toNat = (y + 1) % 21 := by simp [intOf]; omega
            have e2 : (intOf (.int .i64 (y : Int))).toNat = y := by simp [intOf]
            rw [e1, e2]
            exact HST2.out
    · obtain rfl : k = n := by omega
      by_cases hk0 : k = 0
      · subst hk0
        have hg0 : decide ((0 : Int) < ((0 : Nat) : Int)) = false := by decide
        go_wp2
        go_ret
        exact ⟨0, _, g, c, l, rfl, by omega, by omega, HM.out⟩
      · have hk1 : (0 : Int) < (k : Int) := by omega
        have hk1n : 0 < k := by omega
        have hkl : (k : Int) - 1 < k := by omega
        have hkl0 : (0 : Int) ≤ (k : Int) - 1 := by omega
        clear hk0
        go_wp2_with fail
        refine (pick_any b (p + 1 + k) 16 _ HM.out.rd (by omega)).mono ?_
        rintro e w2 ⟨x, rfl, hx, hR2, hG2⟩
        have HM2 := Lib.hid (HM.out.gro' hG2 hR2)
        clear HM hR2 hG2 hx
        by_cases hx0 : x = 0
        · subst hx0
          have hcl := HM2.out.own.cell (k - 1) (by omega)
          have hidx : ((k : Int) - 1).toNat = k - 1 := by omega
          have hgl := HM2.out.own.block.2
          generalize l.getD (k - 1) 0 = z at *
          go_wp2_with fail
          refine (one_lit b (p + 1 + k + 1) [-1, 21, z] (min (-1) z) (max 21 z) _ _ _ _ (fun x hx => by simp at hx; omega) (by simp) (by simp) (by omega) HM2.out.rd rfl (by simp) rfl).mono ?_
          rintro e w3 ⟨v, rfl, _, _, hR3, hG3⟩
          have HM3 := Lib.hid ((HM2.out.keeps (Keeps.alloc w2 (.cells #[.int .i64 (-1), .int .i64 21, .int .i64 z] 3))).gro' hG3 hR3)
          have hc0 := HM3.out.own.cell 0 hk1n
          have hf0 := HM3.out.own.frozen 0
          have hgb := HM3.out.own.block
          have HM4 : Hid (MkB b (p + 1 + k + 1 + 1) k g c (l.set 0 v) w (w3.setCell ⟨g, 0, none⟩ (.int .i64 v))) := Lib.hid ⟨HM3.out.own.set 0 v, HM3.out.rd.set_other (by omega) _, HM3.out.gro.setAbove hgb.1 _⟩
          clear hR3 hG3 hgb hidx
          go_wp2
          go_ret
          exact ⟨k, _, g, c, _, rfl, by omega, by omega, HM4.out⟩
        · have hx0' : ((x : Int) == 0) = false := by simp; omega
          clear hx0
          go_wp2
          go_ret
          exact ⟨k, _, g, c, l, rfl, by omega, by omega, HM2.out⟩
end Go.Proofs.Ytdjilgbcpdlkfaa
