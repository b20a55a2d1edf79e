/-
  The contracts of the reference's validView, good, knows, all, common, AllKnow, CommonOf, DepthOf: they answer what the program's answer. Condition: lengths at most 2^40.
-/
import Derived.Test.YtalafojkmomolaaKnow
namespace Go.Proofs.Ytalafojkmomolaa
open Go.RowKit

theorem sym {P : Program} {f : Nat} {args : Array Value} {w : World} {v : Value} (h : Calls P f args w fun e w' => e = .returned v ∧ w = w') : Calls P f args w fun e w' => e = .returned v ∧ w' = w :=
  h.mono fun _ _ ⟨a, b⟩ => ⟨a, b.symm⟩
theorem validB_row {W : Int} {n : Nat} {r : Nat → Option Addr × Nat × Nat} {x : Nat → Nat → Int} {k : Nat} (hk : k < n) (h : rowBad W (r k).2.1 (x k) = true) : false = validB W n r x := by
  unfold validB
  rw [(anyB_iff _ n).2 ⟨k, hk, h⟩]
  simp
theorem rowBad_len {W : Int} {m : Nat} {x : Nat → Int} (h : ((m : Int) != W) = true) : rowBad W m x = true := by unfold rowBad; rw [h]; rfl
theorem rowBad_el {W : Int} {m : Nat} {x : Nat → Int} {j : Nat} (hj : j < m) (h : inB (x j) 0 (W - 1) = false) : rowBad W m x = true := by
  unfold rowBad; rw [(anyB_iff _ m).2 ⟨j, hj, by simp [h]⟩]; simp
theorem rowBad_not {W : Int} {m : Nat} {x : Nat → Int} (h : ((m : Int) != W) = false) (hj : ∀ j, j < m → inB (x j) 0 (W - 1) = true) : rowBad W m x = false := by
  unfold rowBad; rw [h, (anyB_false _ m).2 fun j h => by simp [hj j h]]; rfl
theorem validB_all {W : Int} {n : Nat} {r : Nat → Option Addr × Nat × Nat} {x : Nat → Nat → Int} (h1 : inB W 1 16 = true) (h2 : inB n 1 4 = true) (h : ∀ k, k < n → rowBad W (r k).2.1 (x k) = false) : true = validB W n r x := by
  unfold validB
  rw [h1, h2, (anyB_false _ n).2 h]
  simp

set_option maxHeartbeats 1000000 in
theorem svalidView_any (A : Option Addr) (n c : Nat) (r : Nat → Option Addr × Nat × Nat) (x : Nat → Nat → Int) (W : Int) (w : World) (hn : n ≤ 1099511627776) (hr : Rows w A n r x) :
    Calls Try.prog 63 #[.agg #[.int .i64 W, .slice A n c]] w fun e w' => e = .returned (.bool (validB W n r x)) ∧ Keeps w w' := by
  have HR := Lib.hid hr
  clear hr
  cases h1 : inB W 1 16
  · have HV : Hid (false = validB W n r x) := Lib.hid (by unfold validB; rw [h1]; simp)
    have H1 := Lib.hid h1
    clear h1
    go_enter Try.func63, Try.ntmps63
    go_wp2_with fail
    refine (inRange_any _ _ _ _).mono ?_
    rintro e w1 ⟨rfl, rfl⟩
    rw [H1.out]
    go_wp2
    go_ret
    exact ⟨ret_bool HV.out, Keeps.alloc _ _⟩
  · cases h2 : inB n 1 4
    · have HV : Hid (false = validB W n r x) := Lib.hid (by unfold validB; rw [h1, h2]; simp)
      have H1 := Lib.hid h1
      have H2 := Lib.hid h2
      clear h1 h2
      go_enter Try.func63, Try.ntmps63
      go_wp2_with fail
      refine (inRange_any _ _ _ _).mono ?_
      rintro e w1 ⟨rfl, rfl⟩
      rw [H1.out]
      go_wp2_with fail
      refine (inRange_any _ _ _ _).mono ?_
      rintro e w1 ⟨rfl, rfl⟩
      rw [H2.out]
      go_wp2
      go_ret
      exact ⟨ret_bool HV.out, Keeps.alloc _ _⟩
    · obtain ⟨hW1, hW2⟩ := inB_true h1
      obtain ⟨W, rfl⟩ := Int.eq_ofNat_of_zero_le (show 0 ≤ W by omega)
      have H1 := Lib.hid h1
      have H2 := Lib.hid h2
      clear h1 h2
      go_enter Try.func63, Try.ntmps63
      go_wp2_with fail
      refine (inRange_any _ _ _ _).mono ?_
      rintro e w1 ⟨rfl, rfl⟩
      rw [H1.out]
      go_wp2_with fail
      refine (inRange_any _ _ _ _).mono ?_
      rintro e w1 ⟨rfl, rfl⟩
      rw [H2.out]
      go_wp2_with fail
      go_loopw [3, 4] (fun i _ wr => ∃ k : Nat, k ≤ n ∧ i = .int .i64 k ∧ Hid (∀ i, i < k → rowBad W (r i).2.1 (x i) = false) ∧ Keeps (w.alloc (.cells #[.int .i64 W, .slice A n c] 25)) wr) (fun i _ _ => n - (intOf i).toNat)
      case atStart => exact ⟨0, by omega, rfl, Lib.hid (fun _ h => absurd h (Nat.not_lt_zero _)), Keeps.refl _⟩
      case round =>
        obtain ⟨k, hk, rfl, HA, hKr⟩ := hrel
        have hd0 := cell_keeps hKr (box0 w (.int .i64 W) (.slice A n c) 25)
        have hd1 := cell_keeps hKr (box1 w (.int .i64 W) (.slice A n c) 25)
        by_cases hlt : k < n
        · have hlt' : (k : Int) < n := by omega
          obtain ⟨⟨bA, oA, e, hc⟩, hi⟩ := HR.out k hlt
          subst e
          have HI := Lib.hid hi
          clear hi
          have hc' := cell_keeps ((Keeps.alloc _ _).step hKr) hc
          clear hc
          have HLEN : Hid ((((r k).2.1 : Int) != W) = true → rowBad W (r k).2.1 (x k) = true) := Lib.hid (fun h => rowBad_len h)
          have HEL : Hid (∀ j, j < (r k).2.1 → inB (x k j) 0 (W - 1) = false → rowBad W (r k).2.1 (x k) = true) := Lib.hid (fun j hj h => rowBad_el hj h)
          have HNO : Hid ((((r k).2.1 : Int) != W) = false → (∀ j, j < (r k).2.1 → inB (x k j) 0 (W - 1) = true) → rowBad W (r k).2.1 (x k) = false) := Lib.hid (fun h hj => rowBad_not h hj)
          have HROW : Hid (rowBad W (r k).2.1 (x k) = true → false = validB W n r x) := Lib.hid (fun h => validB_row hlt h)
          generalize hrk : r k = rk at *
          have HRK := Lib.hid hrk
          clear hrk
          obtain ⟨rA, rn, rc⟩ := rk
          dsimp only at hc' HI HLEN HEL HNO HROW
          go_wp2_with fail
          go_quiet (fail)
          cases hlen : ((rn : Int) != W)
          · have e : rn = W := ne_false hlen
            subst e
            have HL := Lib.hid hlen
            clear hlen
            go_wp2_with fail
            obtain ⟨wo, rfl⟩ : ∃ wo : World, wo = wr := ⟨_, rfl⟩
            go_loopw [4] (fun i wq => ∃ m : Nat, m ≤ rn ∧ i = .int .i64 m ∧ Hid (∀ j, j < m → inB (x k j) 0 ((rn : Int) - 1) = true) ∧ Keeps wo wq) (fun i _ => rn - (intOf i).toNat)
            case atStart => exact ⟨0, by omega, rfl, Lib.hid (fun _ h => absurd h (Nat.not_lt_zero _)), Keeps.drewN _ _⟩
            case round =>
              obtain ⟨m, hm, rfl, HJ, hKq⟩ := hrel
              have hwq := hKq
              have he0 := cell_keeps hwq hd0
              have he1 := cell_keeps hwq hd1
              have hce := cell_keeps hwq hc'
              by_cases hmt : m < rn
              · have hmt' : (m : Int) < rn := by omega
                obtain ⟨bR, oR, e, hcm⟩ := HI.out m hmt
                subst e
                have hcm' := cell_keeps (((Keeps.alloc _ _).step hKr).step hwq) hcm
                clear hcm
                cases hin : inB (x k m) 0 ((rn : Int) - 1)
                · have HIN := Lib.hid hin
                  clear hin
                  go_wp2_with fail
                  go_quiet ((go_at_call 51; exact Calls.quiet_of_same (sym (inRange_any _ _ _ _))))
                  rw [HIN.out]
                  go_wp2
                  go_ret
                  exact ⟨ret_bool (HROW.out (HEL.out m hmt HIN.out)), (((Keeps.alloc _ _).step hKr).step hwq).step (Keeps.drewN _ _)⟩
                · have HIN := Lib.hid hin
                  clear hin
                  go_wp2_with fail
                  go_quiet ((go_at_call 51; exact Calls.quiet_of_same (sym (inRange_any _ _ _ _))))
                  rw [HIN.out]
                  go_wp2
                  go_roundw
                  case rel =>
                    refine ⟨m + 1, by omega, by go_num, Lib.hid (fun j hj => ?_), hKq.step (Keeps.drewN _ _)⟩
                    by_cases hjm : j = m
                    · rw [hjm]; exact HIN.out
                    · exact HJ.out j (by omega)
                  case measure => simp [intOf]; omega
              · have : m = rn := by omega
                subst this
                go_wp2
                go_roundw
                case rel =>
                  refine ⟨k + 1, by omega, by go_num, Lib.hid (fun j hj => ?_), hKr.step hwq⟩
                  by_cases hjk : j = k
                  · rw [hjk, HRK.out]; exact HNO.out HL.out HJ.out
                  · exact HA.out j (by omega)
                case measure => simp [intOf]; omega
          · have HL := Lib.hid hlen
            clear hlen
            go_wp2
            go_ret
            exact ⟨ret_bool (HROW.out (HLEN.out HL.out)), ((Keeps.alloc _ _).step hKr).step (Keeps.drewN _ _)⟩
        · have : k = n := by omega
          subst this
          go_wp2
          go_ret
          exact ⟨ret_bool (validB_all H1.out H2.out HA.out), (Keeps.alloc _ _).step hKr⟩

set_option maxHeartbeats 400000 in
theorem good_any (A : Option Addr) (n c : Nat) (r : Nat → Option Addr × Nat × Nat) (x : Nat → Nat → Int) (W s : Int) (w : World) (hn : n ≤ 1099511627776) (hr : Rows w A n r x) :
    Calls Try.prog 36 #[.agg #[.int .i64 W, .slice A n c], .int .i64 s] w fun e w' => e = .returned (.bool (setB W n r x s)) ∧ Keeps w w' := by
  have HR := Lib.hid hr
  clear hr
  cases hv : validB W n r x
  · have HV : Hid (false = setB W n r x s) := Lib.hid (by unfold setB; rw [hv]; rfl)
    have H1 := Lib.hid hv
    clear hv
    go_enter Try.func36, Try.ntmps36
    go_wp2_with fail
    refine (svalidView_any A n c r x W _ hn (HR.out.keeps (Keeps.alloc _ _))).mono ?_
    rintro e w1 ⟨rfl, hk1⟩
    rw [H1.out]
    go_wp2
    go_ret
    exact ⟨ret_bool HV.out, (Keeps.alloc _ _).step hk1⟩
  · obtain ⟨⟨hW1, hW2⟩, _⟩ := (validB_iff W n r x).1 hv
    obtain ⟨V, rfl⟩ := Int.eq_ofNat_of_zero_le (show 0 ≤ W by omega)
    have HV : Hid (inB s 0 (((2 ^ V : Nat) : Int) - 1) = setB V n r x s) := Lib.hid (by unfold setB; rw [hv, Int.toNat_natCast]; rfl)
    have H1 := Lib.hid hv
    clear hv
    have hp : 2 ^ V ≤ 2 ^ 16 := Nat.pow_le_pow_right (by omega) (by omega)
    have hp1 : 1 ≤ 2 ^ V := Nat.two_pow_pos V
    go_enter Try.func36, Try.ntmps36
    go_wp2_with fail
    refine (svalidView_any A n c r x V _ hn (HR.out.keeps (Keeps.alloc _ _))).mono ?_
    rintro e w1 ⟨rfl, hk1⟩
    have hc0 := cell_keeps hk1 (box0 w (.int .i64 V) (.slice A n c) 25)
    rw [H1.out]
    go_wp2_with fail
    refine (spower_any V _ (by omega)).mono ?_
    rintro e w2 ⟨rfl, rfl⟩
    generalize hq : 2 ^ V = q at *
    have HQ := Lib.hid hq
    clear hq
    go_wp2_with fail
    refine (inRange_any _ _ _ _).mono ?_
    rintro e w2 ⟨rfl, rfl⟩
    rw [show (q : Int) - 1 = ((q : Int) - 1) from rfl, HV.out]
    go_wp2
    go_ret
    exact ⟨rfl, (Keeps.alloc _ _).step hk1⟩

theorem maskB_add (p : Nat → Bool) (k : Nat) : maskB p k + 2 ^ k = maskB p k ||| 2 ^ k := by
  have h := Nat.two_pow_add_eq_or_of_lt (maskB_lt p k) 1
  rw [Nat.mul_one] at h
  rw [Nat.or_comm, ← h, Nat.add_comm]
theorem and_zero_iff (m k : Nat) : ((m &&& k) == 0) = true ↔ ∀ i, m.testBit i = true → k.testBit i = false := by
  rw [beq_iff_eq]
  constructor
  · intro h i hm
    have : (m &&& k).testBit i = false := by rw [h]; simp
    rw [Nat.testBit_and, hm] at this
    simpa using this
  · intro h
    apply Nat.eq_of_testBit_eq
    intro i
    rw [Nat.testBit_and, Nat.zero_testBit]
    cases hm : m.testBit i
    · rfl
    · simp [h i hm]
/-- What stands against a's knowing s in v: a world below W that looks the same and is not in s. -/
def against (x : Nat → Nat → Int) (a s v : Nat) (u : Nat) : Bool := (x a u == x a v) && !s.testBit u
theorem knows_pt (x : Nat → Nat → Int) (W a s v : Nat) (hW : W ≤ 16) (hs : s < 131072) : (sameB x W a v &&& (18446744073709551615 - s) == 0) = !anyB (against x a s v) W := by
  have hl := sameB_lt x W a v hW
  rw [Bool.eq_iff_iff, beq_iff_eq, Bool.not_eq_true', anyB_false]
  constructor
  · intro h i hi
    have h2 : (sameB x W a v &&& (18446744073709551615 - s)).testBit i = false := by rw [h]; simp
    rw [testBit_andNot _ _ _ (by omega) (by omega), sameB, maskB_testBit, decide_eq_true hi] at h2
    simpa [against] using h2
  · intro h
    apply Nat.eq_of_testBit_eq
    intro i
    rw [testBit_andNot _ _ _ (by omega) (by omega), sameB, maskB_testBit, Nat.zero_testBit]
    by_cases hi : i < W
    · have := h i hi
      simpa [against, hi] using this
    · simp [hi]
theorem knowsB_pt (x : Nat → Nat → Int) (W a s : Nat) (hW : W ≤ 16) (hs : s < 131072) : knowsB x W a s = maskB (fun v => !anyB (against x a s v) W) W :=
  maskB_congr fun v _ => knows_pt x W a s v hW hs
theorem any_next {p : Nat → Bool} {m : Nat} {b : Bool} (h : p m = b) : (!anyB p (m + 1)) = (!anyB p m && !b) := by
  rw [← h]; simp [anyB]
set_option maxHeartbeats 1000000 in
theorem sknows_any (A : Option Addr) (n c W : Nat) (r : Nat → Option Addr × Nat × Nat) (x : Nat → Nat → Int) (a s : Nat) (w : World) (hW : W ≤ 16) (hr : Rows w A n r x) (ha : a < n) (hrow : (r a).2.1 = W) (hs : s < 131072) :
    Calls Try.prog 64 #[.agg #[.int .i64 W, .slice A n c], .int .i64 a, .int .i64 s] w fun e w' => e = .returned (.int .i64 (knowsB x W a s : Nat)) ∧ Keeps w w' := by
  have HV := Lib.hid (knowsB_pt x W a s hW hs)
  obtain ⟨⟨bA, oA, e, hc⟩, hi⟩ := hr a ha
  subst e
  clear hr
  generalize r a = ra at *
  obtain ⟨rA, rn, rc⟩ := ra
  dsimp only at hc hi hrow
  subst hrow
  have HI := Lib.hid hi
  clear hi
  have ha' : (a : Int) < n := by omega
  go_enter Try.func64, Try.ntmps64
  go_wp2_with fail
  go_loopw [7, 8, 9, 10] (fun o i _ _ wr => ∃ k : Nat, k ≤ rn ∧ o = .int .i64 (maskB (fun v => !anyB (against x a s v) rn) k : Nat) ∧ i = .int .i64 k ∧ Keeps (w.alloc (.cells #[.int .i64 rn, .slice (some ⟨bA, oA, none⟩) n c] 25)) wr) (fun _ i _ _ _ => rn - (intOf i).toNat)
  case atStart => exact ⟨0, by omega, rfl, rfl, Keeps.refl _⟩
  case round =>
    obtain ⟨k, hk, rfl, rfl, hKr⟩ := hrel
    have hd0 := cell_keeps hKr (box0 w (.int .i64 rn) (.slice (some ⟨bA, oA, none⟩) n c) 25)
    have hd1 := cell_keeps hKr (box1 w (.int .i64 rn) (.slice (some ⟨bA, oA, none⟩) n c) 25)
    have hce := cell_keeps ((Keeps.alloc _ _).step hKr) hc
    by_cases hlt : k < rn
    · have hlt' : (k : Int) < rn := by omega
      obtain ⟨bR, oR, e, hck⟩ := HI.out k hlt
      subst e
      have hck' := cell_keeps ((Keeps.alloc _ _).step hKr) hck
      have hml := maskB_lt16 (fun v => !anyB (against x a s v) rn) k (by omega)
      have HM : Hid (maskB (fun v => !anyB (against x a s v) rn) (k + 1) = if (!anyB (against x a s k) rn) then maskB (fun v => !anyB (against x a s v) rn) k ||| 2 ^ k else maskB (fun v => !anyB (against x a s v) rn) k) := Lib.hid rfl
      have HADD := Lib.hid (maskB_add (fun v => !anyB (against x a s v) rn) k)
      generalize maskB (fun v => !anyB (against x a s v) rn) k = mk at *
      have hpk : 2 ^ k ≤ 65536 := Nat.le_trans (Nat.pow_le_pow_right (by omega) (show k ≤ 16 by omega)) (by omega)
      go_wp2_with fail
      obtain ⟨wo, rfl⟩ : ∃ wo : World, wo = wr := ⟨_, rfl⟩
      go_loopw [9, 10] (fun o i wr => ∃ m : Nat, m ≤ rn ∧ o = .bool (!anyB (against x a s k) m) ∧ i = .int .i64 m ∧ Keeps wo wr) (fun _ i _ => rn - (intOf i).toNat)
      case atStart => exact ⟨0, by omega, rfl, rfl, Keeps.refl _⟩
      case round =>
        obtain ⟨m, hm, rfl, rfl, hKq⟩ := hrel
        have he0 := cell_keeps hKq hd0
        have he1 := cell_keeps hKq hd1
        have hee := cell_keeps hKq hce
        have hek := cell_keeps hKq hck'
        by_cases hmt : m < rn
        · have hmt' : (m : Int) < rn := by omega
          obtain ⟨bR', oR', e, hcm⟩ := HI.out m hmt
          cases e
          have hcm' := cell_keeps (((Keeps.alloc _ _).step hKr).step hKq) hcm
          clear hcm
          have HN : Hid (∀ b, against x a s k m = b → (!anyB (against x a s k) (m + 1)) = (!anyB (against x a s k) m && !b)) := Lib.hid (fun b h => any_next h)
          cases hq : (!anyB (against x a s k) m)
          · have HQ : Hid ((!anyB (against x a s k) (m + 1)) = false) := Lib.hid (by rw [any_next rfl, hq]; rfl)
            clear hq
            go_wp2_with fail
            go_quiet (fail)
            go_wp2
            go_roundw
            case rel => exact ⟨m + 1, by omega, by rw [HQ.out], by go_num, hKq.step (Keeps.drewN _ _)⟩
            case measure => simp [intOf]; omega
          · cases hx : (x a m != x a k)
            · cases ht : s.testBit m
              · have HQ : Hid ((!anyB (against x a s k) (m + 1)) = false) := Lib.hid (by rw [any_next rfl, hq]; simp [against, ht]; simpa using hx)
                have HT := Lib.hid ht
                clear hq ht
                go_wp2_with fail
                go_quiet ((go_at_call 52; exact Calls.quiet_of_same (sym (sbit_any _ _ _ (by omega) (by omega)))))
                rw [HT.out]
                go_wp2
                go_roundw
                case rel => exact ⟨m + 1, by omega, by rw [HQ.out]; rfl, by go_num, hKq.step (Keeps.drewN _ _)⟩
                case measure => simp [intOf]; omega
              · have HQ : Hid ((!anyB (against x a s k) (m + 1)) = true) := Lib.hid (by rw [any_next rfl, hq]; simp [against, ht])
                have HT := Lib.hid ht
                clear hq ht
                go_wp2_with fail
                go_quiet ((go_at_call 52; exact Calls.quiet_of_same (sym (sbit_any _ _ _ (by omega) (by omega)))))
                rw [HT.out]
                go_wp2
                go_roundw
                case rel => exact ⟨m + 1, by omega, by rw [HQ.out]; rfl, by go_num, hKq.step (Keeps.drewN _ _)⟩
                case measure => simp [intOf]; omega
            · have HQ : Hid ((!anyB (against x a s k) (m + 1)) = true) := Lib.hid (by rw [any_next rfl, hq]; simp [against]; left; simpa using hx)
              clear hq
              go_wp2_with fail
              go_quiet (fail)
              go_wp2
              go_roundw
              case rel => exact ⟨m + 1, by omega, by rw [HQ.out], by go_num, hKq.step (Keeps.drewN _ _)⟩
              case measure => simp [intOf]; omega
        · have : m = rn := by omega
          subst this
          cases hq : (!anyB (against x a s k) m)
          · have HQ := Lib.hid hq
            clear hq
            go_wp2
            go_roundw
            case rel => exact ⟨k + 1, by omega, by rw [HM.out, HQ.out]; rfl, by go_num, hKr.step hKq⟩
            case measure => simp [intOf]; omega
          · have HQ := Lib.hid hq
            clear hq
            go_wp2_with fail
            refine (spower_any k _ (by omega)).mono ?_
            rintro e w2 ⟨rfl, rfl⟩
            generalize 2 ^ k = pk at *
            go_wp2
            go_roundw
            case rel => exact ⟨k + 1, by omega, by rw [HM.out, HQ.out, if_pos rfl, ← HADD.out]; go_num, by go_num, hKr.step hKq⟩
            case measure => simp [intOf]; omega
    · have : k = rn := by omega
      subst this
      go_wp2
      go_ret
      exact ⟨ret_int (by rw [HV.out]), (Keeps.alloc _ _).step hKr⟩
end Go.Proofs.Ytalafojkmomolaa
