/-
  The contracts of ValidRun and roundsOk (the program). Condition: lengths at most 2^40.
-/
import Derived.Test.YtepgogaoppdllaaFunc
import Derived.Test.YtepgogaoppdllaaRun
import Derived.BigQuiet
namespace Go.Proofs.Ytepgogaoppdllaa
open Go.RowKit

/-- The process that the stop ahead of the k-th one stops, -1 if there is none. -/
def lastP (st : Nat → Int × Int × Int) : Nat → Int
  | 0 => -1
  | k + 1 => (st k).1
/-- The k-th stop is not one. -/
def stopBad (n : Nat) (st : Nat → Int × Int × Int) (k : Nat) : Bool :=
  !(inB (st k).1 (lastP st k + 1) ((n : Int) - 1) && inB (st k).2.1 1 4 && inB (st k).2.2 0 (((2 ^ n : Nat) : Int) - 1))
/-- Is the run valid? -/
def runB (n : Nat) (x : Nat → Int) (m : Nat) (st : Nat → Int × Int × Int) : Bool :=
  inB n 1 4 && !anyB (fun i => !inB (x i) 0 3) n && !anyB (stopBad n st) m
theorem lastP_le (n : Nat) (st : Nat → Int × Int × Int) (k : Nat) (h : anyB (stopBad n st) k = false) (hn : n ≤ 4) : -1 ≤ lastP st k ∧ lastP st k ≤ 3 := by
  cases k with
  | zero => simp [lastP]
  | succ k =>
    induction k with
    | zero =>
      have := (anyB_false _ _).1 h 0 (by omega)
      simp only [stopBad, Bool.not_eq_false', Bool.and_eq_true] at this
      have h2 := inB_true this.1.1
      simp only [lastP] at *
      omega
    | succ k ih =>
      have := (anyB_false _ _).1 h (k + 1) (by omega)
      simp only [stopBad, Bool.not_eq_false', Bool.and_eq_true] at this
      have h2 := inB_true this.1.1
      have ih := ih ((anyB_false _ _).2 (fun i hi => (anyB_false _ _).1 h i (by omega)))
      simp only [lastP] at *
      omega

set_option maxHeartbeats 400000 in
theorem vr1_any (k : Int) (w : World) : Calls Try.prog 72 #[.int .i64 k] w fun e w' => e = .returned (.bool (!inB k 0 3)) ∧ w = w' := by
  go_enter Try.func72, Try.ntmps72
  go_wp2_with fail
  refine (within_any _ _ _ _).mono ?_
  rintro e w1 ⟨rfl, rfl⟩
  go_wp2
  go_ret
  exact ⟨rfl, rfl⟩
set_option maxRecDepth 100000 in
set_option maxHeartbeats 2000000 in
theorem validRun_any (I S : Option Addr) (n ci m cs : Nat) (x : Nat → Int) (st : Nat → Int × Int × Int) (w : World) (hn : n ≤ 1099511627776) (hm : m ≤ 1099511627776) (hI : Ints w I n x) (hS : Stops w S m st) :
    Calls Try.prog 39 #[.agg #[.slice I n ci, .slice S m cs]] w fun e w' => e = .returned (.bool (runB n x m st)) ∧ Keeps w w' := by
  have HI := Lib.hid hI
  have HS := Lib.hid hS
  clear hS hI
  cases h1 : inB n 1 4
  · have HV : Hid (false = runB n x m st) := Lib.hid (by unfold runB; rw [h1]; simp)
    have H1 := Lib.hid h1
    clear h1
    go_enter Try.func39, Try.ntmps39
    go_wp2_with fail
    refine (within_any _ _ _ _).mono ?_
    rintro e w1 ⟨rfl, rfl⟩
    rw [H1.out]
    go_wp2
    go_ret
    exact ⟨ret_bool HV.out, Keeps.alloc _ _⟩
  · have hn1 := inB_true h1
    have HP := Lib.hid (wrapPow n (by omega))
    have hp : 2 ^ n ≤ 16 := Nat.le_trans (Nat.pow_le_pow_right (by omega) (show n ≤ 4 by omega)) (by omega)
    have hp1 : 1 ≤ 2 ^ n := Nat.two_pow_pos n
    have H1 := Lib.hid h1
    clear h1
    go_enter Try.func39, Try.ntmps39
    go_wp2_with fail
    refine (within_any _ _ _ _).mono ?_
    rintro e w1 ⟨rfl, rfl⟩
    rw [H1.out]
    go_wp2_with fail
    refine (intcontains_any 72 #[] I n ci x (fun j => !inB (x j) 0 3) _ hn (HI.out.keeps (Keeps.alloc _ _)) (fun _ _ => rfl) ?_).mono ?_
    · intro k w1 hk hK
      refine (vr1_any (x k) w1).mono ?_
      rintro e w2 ⟨rfl, rfl⟩
      exact ⟨rfl, Keeps.refl _⟩
    · rintro e w1 ⟨rfl, hk1⟩
      have c0 := cell_keeps hk1 (box0 w (.slice I n ci) (.slice S m cs) 26)
      have c1 := cell_keeps hk1 (box1 w (.slice I n ci) (.slice S m cs) 26)
      have hK1 := (Keeps.alloc w (.cells #[.slice I n ci, .slice S m cs] 26)).step hk1
      clear hk1
      generalize w.heap.size = V at c0 c1
      cases h2 : anyB (fun i => !inB (x i) 0 3) n
      · have HV : Hid ((!anyB (stopBad n st) m) = runB n x m st) := Lib.hid (by unfold runB; rw [H1.out, h2]; simp)
        have HS1 := Lib.hid (HS.out.keeps hK1)
        clear h2
        go_wp2
        go_loopw [4, 21] (fun l i wr => ∃ k : Nat, k ≤ m ∧ l = .int .i64 (lastP st k) ∧ i = .int .i64 k ∧ anyB (stopBad n st) k = false ∧ Keeps w1 wr) (fun _ i _ => m - (intOf i).toNat)
        case atStart => exact ⟨0, by omega, rfl, rfl, rfl, Keeps.refl _⟩
        case round =>
          obtain ⟨k, hk, rfl, rfl, hA, hK⟩ := hrel
          by_cases hlt : k < m
          · obtain ⟨d, off, rfl, s0, s1, s2⟩ := HS1.out.keeps hK k hlt
            have hlast := lastP_le n st k hA (by omega)
            have HA := Lib.hid hA
            clear hA
            have hT : stopBad n st k = !(inB (st k).1 (lastP st k + 1) ((n : Int) - 1) && inB (st k).2.1 1 4 && inB (st k).2.2 0 (((2 ^ n : Nat) : Int) - 1)) := rfl
            have HF : Hid (stopBad n st k = true → false = runB n x m st) := Lib.hid (fun h => by rw [← HV.out, (anyB_iff _ _).2 ⟨k, hlt, h⟩]; rfl)
            have HG : Hid (stopBad n st k = false → anyB (stopBad n st) (k + 1) = false) := Lib.hid (fun h => by rw [anyB, HA.out, h]; rfl)
            have HL : Hid (lastP st (k + 1) = (st k).1) := Lib.hid rfl
            have W1 : IntKind.i64.wrap (lastP st k + 1) = lastP st k + 1 := by rw [IntKind.wrap_i64]; omega
            have W2 : IntKind.i64.wrap ((n : Int) - 1) = (n : Int) - 1 := by rw [IntKind.wrap_i64]; omega
            have W3 : IntKind.i64.wrap ((2 : Int) ^ n) = ((2 ^ n : Nat) : Int) := by rw [IntKind.wrap_i64, ← castPow]; omega
            have W4 : IntKind.i64.wrap (((2 ^ n : Nat) : Int) - 1) = ((2 ^ n : Nat) : Int) - 1 := by rw [IntKind.wrap_i64]; omega
            generalize 2 ^ n = q at *
            generalize lastP st k = l at *
            cases e1 : inB (st k).1 (l + 1) ((n : Int) - 1)
            · have HV2 := Lib.hid (HF.out (by rw [hT, e1]; rfl))
              clear hT HF HG
              go_wp2
              go_quiet ((go_at_call 53; exact Calls.quiet_of_same ((within_any _ _ _ _).mono fun _ _ h => ⟨h.1, h.2.symm⟩)))
              go_wp2
              go_ret
              exact ⟨ret_bool HV2.out, hK1.step (hK.step ((Keeps.alloc _ _).step (Keeps.drewN _ _)))⟩
            · cases e2 : inB (st k).2.1 1 4
              · have HV2 := Lib.hid (HF.out (by rw [hT, e1, e2]; rfl))
                clear hT HF HG
                go_wp2
                go_quiet ((go_at_call 53; exact Calls.quiet_of_same ((within_any _ _ _ _).mono fun _ _ h => ⟨h.1, h.2.symm⟩)))
                go_wp2
                go_ret
                exact ⟨ret_bool HV2.out, hK1.step (hK.step ((Keeps.alloc _ _).step (Keeps.drewN _ _)))⟩
              · cases e3 : inB (st k).2.2 0 ((q : Int) - 1)
                · have HV2 := Lib.hid (HF.out (by rw [hT, e1, e2, e3]; rfl))
                  clear hT HF HG
                  go_wp2
                  go_quiet ((go_at_call 53; exact Calls.quiet_of_same ((within_any _ _ _ _).mono fun _ _ h => ⟨h.1, h.2.symm⟩)))
                  go_wp2
                  go_ret
                  exact ⟨ret_bool HV2.out, hK1.step (hK.step ((Keeps.alloc _ _).step (Keeps.drewN _ _)))⟩
                · have HV2 := Lib.hid (HG.out (by rw [hT, e1, e2, e3]; rfl))
                  clear hT HF HG
                  go_wp2
                  go_quiet ((go_at_call 53; exact Calls.quiet_of_same ((within_any _ _ _ _).mono fun _ _ h => ⟨h.1, h.2.symm⟩)))
                  go_wp2
                  go_roundw
                  case rel => exact ⟨k + 1, by omega, by rw [HL.out], by go_num, HV2.out, hK.step ((Keeps.alloc _ _).step (Keeps.drewN _ _))⟩
                  case measure => simp [intOf]; omega
          · have : k = m := by omega
            subst this
            rw [hA] at HV
            have HV : Hid (true = runB n x k st) := HV
            clear hA
            go_wp2
            go_ret
            exact ⟨ret_bool HV.out, hK1.step hK⟩
      · have HV : Hid (false = runB n x m st) := Lib.hid (by unfold runB; rw [H1.out, h2]; simp)
        clear h2
        go_wp2
        go_ret
        exact ⟨ret_bool HV.out, hK1⟩
def okB (n : Nat) (x : Nat → Int) (m : Nat) (st : Nat → Int × Int × Int) (r : Int) : Bool := runB n x m st && inB r 0 4
set_option maxHeartbeats 1000000 in
theorem roundsOk_any (I S : Option Addr) (n ci m cs : Nat) (x : Nat → Int) (st : Nat → Int × Int × Int) (r : Int) (w : World) (hn : n ≤ 1099511627776) (hm : m ≤ 1099511627776) (hI : Ints w I n x) (hS : Stops w S m st) :
    Calls Try.prog 44 #[.agg #[.slice I n ci, .slice S m cs], .int .i64 r] w fun e w' => e = .returned (.bool (okB n x m st r)) ∧ Keeps w w' := by
  have HI := Lib.hid hI
  have HS := Lib.hid hS
  clear hS hI
  cases h1 : runB n x m st
  · have HV : Hid (false = okB n x m st r) := Lib.hid (by unfold okB; rw [h1]; rfl)
    have H1 := Lib.hid h1
    clear h1
    go_enter Try.func44, Try.ntmps44
    go_wp2_with fail
    refine (validRun_any I S n ci m cs x st _ hn hm (HI.out.keeps (Keeps.alloc _ _)) (HS.out.keeps (Keeps.alloc _ _))).mono ?_
    rintro e w1 ⟨rfl, hk1⟩
    rw [H1.out]
    go_wp2
    go_ret
    exact ⟨ret_bool HV.out, (Keeps.alloc _ _).step hk1⟩
  · have HV : Hid (inB r 0 4 = okB n x m st r) := Lib.hid (by unfold okB; rw [h1]; rfl)
    have H1 := Lib.hid h1
    clear h1
    go_enter Try.func44, Try.ntmps44
    go_wp2_with fail
    refine (validRun_any I S n ci m cs x st _ hn hm (HI.out.keeps (Keeps.alloc _ _)) (HS.out.keeps (Keeps.alloc _ _))).mono ?_
    rintro e w1 ⟨rfl, hk1⟩
    rw [H1.out]
    go_wp2_with fail
    refine (within_any _ _ _ _).mono ?_
    rintro e w2 ⟨rfl, rfl⟩
    rw [HV.out]
    go_wp2
    go_ret
    exact ⟨rfl, (Keeps.alloc _ _).step hk1⟩
end Go.Proofs.Ytepgogaoppdllaa
