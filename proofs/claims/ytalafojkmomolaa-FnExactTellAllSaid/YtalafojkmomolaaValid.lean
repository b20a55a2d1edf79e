/-
  The contracts of ValidView and setOk (the program) and of validView and good (the reference). Condition: lengths at most 2^40.
-/
import Derived.Test.YtalafojkmomolaaFunc
import Derived.Test.YtalafojkmomolaaLook
namespace Go.Proofs.Ytalafojkmomolaa
open Go.RowKit

/-- A row that is not one of W numbers in 0..W-1. -/
def rowBad (W : Int) (m : Nat) (x : Nat → Int) : Bool := ((m : Int) != W) || anyB (fun j => !inB (x j) 0 (W - 1)) m
/-- Is the view valid? -/
def validB (W : Int) (n : Nat) (r : Nat → Option Addr × Nat × Nat) (x : Nat → Nat → Int) : Bool :=
  inB W 1 16 && inB n 1 4 && !anyB (fun i => rowBad W (r i).2.1 (x i)) n
theorem validB_iff (W : Int) (n : Nat) (r : Nat → Option Addr × Nat × Nat) (x : Nat → Nat → Int) :
    validB W n r x = true ↔ (1 ≤ W ∧ W ≤ 16) ∧ (1 ≤ n ∧ n ≤ 4) ∧ ∀ i, i < n → ((r i).2.1 : Int) = W ∧ ∀ j, j < (r i).2.1 → 0 ≤ x i j ∧ x i j ≤ W - 1 := by
  unfold validB
  simp only [Bool.and_eq_true, Bool.not_eq_true', anyB_false, rowBad, Bool.or_eq_false_iff, bne_eq_false_iff_eq, Bool.not_eq_false']
  constructor
  · rintro ⟨⟨h1, h2⟩, h3⟩
    have a := inB_true h1
    have b := inB_true h2
    exact ⟨a, by omega, fun i hi => ⟨(h3 i hi).1, fun j hj => inB_true ((h3 i hi).2 j hj)⟩⟩
  · rintro ⟨⟨h1, h2⟩, ⟨h3, h4⟩, h5⟩
    exact ⟨⟨inB_mk h1 h2, inB_mk (by omega) (by omega)⟩, fun i hi => ⟨(h5 i hi).1, fun j hj => inB_mk ((h5 i hi).2 j hj).1 ((h5 i hi).2 j hj).2⟩⟩

set_option maxHeartbeats 400000 in
theorem vv11_any (b : Nat) (k W : Int) (w : World) (h1 : 1 ≤ W) (h2 : W ≤ 16) (hc : w.cell? ⟨b, 0, none⟩ = some (.int .i64 W)) :
    Calls Try.prog 57 #[.int .i64 k, .pointer (some ⟨b, 0, none⟩)] w fun e w' => e = .returned (.bool (!inB k 0 (W - 1))) ∧ w = w' := by
  go_enter Try.func57, Try.ntmps57
  go_wp2_with fail
  refine (within_any _ _ _ _).mono ?_
  rintro e w1 ⟨rfl, rfl⟩
  go_wp2
  go_ret
  exact ⟨rfl, rfl⟩
set_option maxHeartbeats 400000 in
theorem vv1_any (b : Nat) (a : Option Addr) (m c : Nat) (x : Nat → Int) (W : Int) (w : World) (h1 : 1 ≤ W) (h2 : W ≤ 16) (hm : m ≤ 1099511627776) (hx : Ints w a m x) (hc : w.cell? ⟨b, 0, none⟩ = some (.int .i64 W)) :
    Calls Try.prog 55 #[.slice a m c, .pointer (some ⟨b, 0, none⟩)] w fun e w' => e = .returned (.bool (rowBad W m x)) ∧ Keeps w w' := by
  have hmf : ∀ (fn : Fn) (first cap : Array Value) (w : World), (Instr.makeFunc fn first cap).run Try.prog w = .ok (.func fn first cap) w := fun _ _ _ _ => rfl
  cases hq : ((m : Int) != W)
  · have HQ : Hid (anyB (fun j => !inB (x j) 0 (W - 1)) m = rowBad W m x) := Lib.hid (by unfold rowBad; rw [hq]; simp)
    have HX := Lib.hid hx
    clear hx
    go_enter Try.func55, Try.ntmps55
    go_wp2_with fail
    refine (intcontains_any 57 #[.pointer (some ⟨b, 0, none⟩)] a m c x (fun j => !inB (x j) 0 (W - 1)) w hm HX.out (fun _ _ => rfl) ?_).mono ?_
    · intro k w1 hk hK
      refine (vv11_any b (x k) W w1 h1 h2 (cell_keeps hK hc)).mono ?_
      rintro e w2 ⟨rfl, rfl⟩
      exact ⟨rfl, Keeps.refl _⟩
    · rintro e w1 ⟨rfl, hk1⟩
      rw [HQ.out]
      go_wp2
      go_ret
      exact ⟨rfl, hk1⟩
  · have HQ : Hid (true = rowBad W m x) := Lib.hid (by unfold rowBad; rw [hq]; rfl)
    go_enter Try.func55, Try.ntmps55
    go_wp2
    go_ret
    exact ⟨ret_bool HQ.out, Keeps.refl _⟩
set_option maxHeartbeats 400000 in
theorem validView_any (A : Option Addr) (n c : Nat) (r : Nat → Option Addr × Nat × Nat) (x : Nat → Nat → Int) (W : Int) (w : World) (hn : n ≤ 1099511627776) (hr : Rows w A n r x) (hl : ∀ i, i < n → (r i).2.1 ≤ 1099511627776) :
    Calls Try.prog 29 #[.agg #[.int .i64 W, .slice A n c]] w fun e w' => e = .returned (.bool (validB W n r x)) ∧ Keeps w w' := by
  have hmf : ∀ (fn : Fn) (first cap : Array Value) (w : World), (Instr.makeFunc fn first cap).run Try.prog w = .ok (.func fn first cap) w := fun _ _ _ _ => rfl
  have HR := Lib.hid hr
  have HL := Lib.hid hl
  clear hr hl
  cases h1 : inB W 1 16
  · have HV : Hid (false = validB W n r x) := Lib.hid (by unfold validB; rw [h1]; simp)
    have H1 := Lib.hid h1
    clear h1
    go_enter Try.func29, Try.ntmps29
    go_wp2_with fail
    refine (within_any _ _ _ _).mono ?_
    rintro e w1 ⟨rfl, rfl⟩
    rw [H1.out]
    go_wp2
    go_ret
    exact ⟨ret_bool HV.out, Keeps.alloc _ _⟩
  · cases h2 : inB n 1 4
    · have HV : Hid (false = validB W n r x) := Lib.hid (by unfold validB; rw [h1, h2]; simp)
      have H1 := Lib.hid h1
      have H2 := Lib.hid h2
      clear h1 h2
      go_enter Try.func29, Try.ntmps29
      go_wp2_with fail
      refine (within_any _ _ _ _).mono ?_
      rintro e w1 ⟨rfl, rfl⟩
      rw [H1.out]
      go_wp2_with fail
      refine (within_any _ _ _ _).mono ?_
      rintro e w1 ⟨rfl, rfl⟩
      rw [H2.out]
      go_wp2
      go_ret
      exact ⟨ret_bool HV.out, Keeps.alloc _ _⟩
    · have HV : Hid ((!anyB (fun i => rowBad W (r i).2.1 (x i)) n) = validB W n r x) := Lib.hid (by unfold validB; rw [h1, h2]; simp)
      obtain ⟨hW1, hW2⟩ := inB_true h1
      have H1 := Lib.hid h1
      have H2 := Lib.hid h2
      clear h1 h2
      go_enter Try.func29, Try.ntmps29
      go_wp2_with fail
      refine (within_any _ _ _ _).mono ?_
      rintro e w1 ⟨rfl, rfl⟩
      rw [H1.out]
      go_wp2_with fail
      refine (within_any _ _ _ _).mono ?_
      rintro e w1 ⟨rfl, rfl⟩
      rw [H2.out]
      go_wp2_with fail
      refine (rowcontains_any 55 #[.pointer (some ⟨w.heap.size, 0, none⟩)] A n c r x (fun i => rowBad W (r i).2.1 (x i)) _ hn (HR.out.keeps (Keeps.alloc _ _)) (fun _ _ => rfl) ?_).mono ?_
      · intro k w1 hk hK
        exact vv1_any w.heap.size _ _ _ (x k) W w1 hW1 hW2 (HL.out k hk) (((HR.out k hk).2.keeps (Keeps.alloc _ _)).keeps hK) (cell_keeps hK (by rw [World.cell?_alloc_at _ _ _ _ rfl]; rfl))
      · rintro e w1 ⟨rfl, hk1⟩
        go_wp2
        go_ret
        exact ⟨ret_bool HV.out, (Keeps.alloc _ _).step hk1⟩

/-- Is the view valid, and s a set of its worlds? -/
def setB (W : Int) (n : Nat) (r : Nat → Option Addr × Nat × Nat) (x : Nat → Nat → Int) (s : Int) : Bool :=
  validB W n r x && inB s 0 (((2 ^ W.toNat : Nat) : Int) - 1)
theorem setB_iff (W : Int) (n : Nat) (r : Nat → Option Addr × Nat × Nat) (x : Nat → Nat → Int) (s : Int) (h : setB W n r x s = true) :
    ∃ V S : Nat, W = V ∧ s = S ∧ 1 ≤ V ∧ V ≤ 16 ∧ (1 ≤ n ∧ n ≤ 4) ∧ S < 2 ^ V ∧ S < 131072 ∧ ∀ i, i < n → (r i).2.1 = V ∧ ∀ j, j < V → 0 ≤ x i j ∧ x i j < V := by
  unfold setB at h
  rw [Bool.and_eq_true] at h
  obtain ⟨hv, hs⟩ := h
  obtain ⟨⟨h1, h2⟩, h3, h4⟩ := (validB_iff W n r x).1 hv
  obtain ⟨h5, h6⟩ := inB_true hs
  obtain ⟨V, rfl⟩ := Int.eq_ofNat_of_zero_le (show 0 ≤ W by omega)
  obtain ⟨S, rfl⟩ := Int.eq_ofNat_of_zero_le h5
  rw [Int.toNat_natCast] at h6
  have hp : 2 ^ V ≤ 2 ^ 16 := Nat.pow_le_pow_right (by omega) (by omega)
  refine ⟨V, S, rfl, rfl, by omega, by omega, h3, by omega, by omega, fun i hi => ?_⟩
  obtain ⟨h7, h8⟩ := h4 i hi
  exact ⟨by omega, fun j hj => by have := h8 j (by omega); omega⟩

set_option maxHeartbeats 400000 in
theorem setOk_any (A : Option Addr) (n c : Nat) (r : Nat → Option Addr × Nat × Nat) (x : Nat → Nat → Int) (W s : Int) (w : World) (hn : n ≤ 1099511627776) (hr : Rows w A n r x) (hl : ∀ i, i < n → (r i).2.1 ≤ 1099511627776) :
    Calls Try.prog 33 #[.agg #[.int .i64 W, .slice A n c], .int .i64 s] w fun e w' => e = .returned (.bool (setB W n r x s)) ∧ Keeps w w' := by
  have HR := Lib.hid hr
  have HL := Lib.hid hl
  clear hr hl
  cases hv : validB W n r x
  · have HV : Hid (false = setB W n r x s) := Lib.hid (by unfold setB; rw [hv]; rfl)
    have H1 := Lib.hid hv
    clear hv
    go_enter Try.func33, Try.ntmps33
    go_wp2_with fail
    refine (validView_any A n c r x W _ hn (HR.out.keeps (Keeps.alloc _ _)) HL.out).mono ?_
    rintro e w1 ⟨rfl, hk1⟩
    rw [H1.out]
    go_wp2
    go_ret
    exact ⟨ret_bool HV.out, (Keeps.alloc _ _).step hk1⟩
  · obtain ⟨⟨hW1, hW2⟩, _⟩ := (validB_iff W n r x).1 hv
    obtain ⟨V, rfl⟩ := Int.eq_ofNat_of_zero_le (show 0 ≤ W by omega)
    have HV : Hid (inB s 0 (((2 ^ V : Nat) : Int) - 1) = setB V n r x s) := Lib.hid (by unfold setB; rw [hv, Int.toNat_natCast]; rfl)
    have H1 := Lib.hid hv
    clear hv
    have hp : 2 ^ V ≤ 2 ^ 16 := Nat.pow_le_pow_right (by omega) (by omega)
    have hp1 : 1 ≤ 2 ^ V := Nat.two_pow_pos V
    have HP := Lib.hid (wrapPow V (by omega))
    generalize hq : 2 ^ V = q at *
    have HQ := Lib.hid hq
    clear hq
    go_enter Try.func33, Try.ntmps33
    go_wp2_with fail
    refine (validView_any A n c r x V _ hn (HR.out.keeps (Keeps.alloc _ _)) HL.out).mono ?_
    rintro e w1 ⟨rfl, hk1⟩
    have hc0 := cell_keeps hk1 (show (w.alloc (.cells #[.int .i64 (V : Int), .slice A n c] 25)).cell? ⟨w.heap.size, 0, none⟩ = some (.int .i64 V) by rw [World.cell?_alloc_at _ _ _ _ rfl]; rfl)
    rw [H1.out]
    go_wp2_with fail
    rw [HP.out, IntWalk.wrap64_in _ (by omega)]
    refine (within_any _ _ _ _).mono ?_
    rintro e w2 ⟨rfl, rfl⟩
    rw [HV.out]
    go_wp2
    go_ret
    exact ⟨rfl, (Keeps.alloc _ _).step hk1⟩
end Go.Proofs.Ytalafojkmomolaa
