/-
  The walk of FnWorstMoves: whatever the code is, it returns true, and nothing that was there turns. No condition.
-/
import Derived.Test.YtpgipkcbdppplaaTokP
import Derived.Test.YtpgipkcbdppplaaTokS
import Derived.Test.YtpgipkcbdppplaaTokM
import Derived.Test.YtpgipkcbdppplaaTokN
namespace Go.Proofs.Ytpgipkcbdppplaa
set_option linter.unusedVariables false
open Go.RowKit

/-- Either both answer no, or both answer the most moves. -/
theorem worst_parts (k : Int) (n : Nat) (x : Nat → Int) (hn : n ≤ 9223372036854775807) :
    ((∀ a c w, Ints w a n x → Calls Try.prog 9 #[.int .i64 k, .slice a n c] w fun e w' => e = .returned (.tuple #[.int .i64 0, .bool false]) ∧ Keeps w w') ∧
      (∀ a c w, Ints w a n x → Calls Try.prog 11 #[.int .i64 k, .slice a n c] w fun e w' => e = .returned (.tuple #[.int .i64 0, .bool false]) ∧ Keeps w w')) ∨
    ∃ (kk : Nat) (s : Nat → Nat) (f : Nat → Int), k = kk ∧ TokS kk n s ∧ (∀ j, j < n → x j = nf s j) ∧ Sol kk n f ∧ (0 ≤ f (codeN kk s n) ∧ f (codeN kk s n) ≤ 1024) ∧
      (∀ a c w, Ints w a n x → Calls Try.prog 9 #[.int .i64 k, .slice a n c] w fun e w' => e = .returned (.tuple #[.int .i64 (f (codeN kk s n)), .bool true]) ∧ Keeps w w') ∧
      (∀ t a c w, TokS kk n t → 0 ≤ f (codeN kk t n) → Ints w a n (nf t) → Calls Try.prog 11 #[.int .i64 k, .slice a n c] w fun e w' => e = .returned (.tuple #[.int .i64 (f (codeN kk t n)), .bool true]) ∧ Keeps w w') := by
  cases h : (tokOkB k n x && decide (k.toNat ^ n ≤ 1024))
  · exact .inl ⟨fun a c w hI => sWorstMoves_no k a n c x w hn hI h, fun a c w hI => worstMoves_no k a n c x w hn hI h⟩
  · simp only [Bool.and_eq_true, decide_eq_true_eq] at h
    obtain ⟨hok, hN⟩ := h
    obtain ⟨kk, rfl, hT, hx⟩ := tokOk_true hok
    rw [Int.toNat_natCast] at hN
    generalize hs : (fun j => (x j).toNat) = s at *
    obtain ⟨f, hf⟩ := sol_exists kk n (by have := hT.k2; omega)
    have hD := hf.toD (by have := hT.k2; omega)
    by_cases h0 : 0 ≤ f (codeN kk s n)
    · refine .inr ⟨kk, s, f, rfl, hT, hx, hf, ⟨h0, by have := hD.lt (by have := hT.k2; omega) (code_lt n hT.lt); omega⟩, fun a c w hI => ?_, fun t a c w hTt h0t hI => ?_⟩
      · refine (sWorstMoves_yes kk n c a s f w hD hT hN (hI.congr hx) (tokOk_mk hT)).mono ?_
        rintro e w1 ⟨⟨_, he⟩ | ⟨h1, _⟩, hk⟩
        · exact ⟨he, hk⟩
        · omega
      · refine (worstMoves_yes kk n c a t f w hf hTt hN hI (tokOk_mk hTt)).mono ?_
        rintro e w1 ⟨⟨_, he⟩ | ⟨h1, _⟩, hk⟩
        · exact ⟨he, hk⟩
        · omega
    · refine .inl ⟨fun a c w hI => ?_, fun a c w hI => ?_⟩
      · refine (sWorstMoves_yes kk n c a s f w hD hT hN (hI.congr hx) (tokOk_mk hT)).mono ?_
        rintro e w1 ⟨⟨h1, _⟩ | ⟨_, he⟩, hk⟩
        · omega
        · exact ⟨he, hk⟩
      · refine (worstMoves_yes kk n c a s f w hf hT hN (hI.congr hx) (tokOk_mk hT)).mono ?_
        rintro e w1 ⟨⟨h1, _⟩ | ⟨_, he⟩, hk⟩
        · omega
        · exact ⟨he, hk⟩
/-- The most of the first j moves. -/
def MaxM (k n : Nat) (f : Nat → Int) (s : Nat → Nat) (j : Nat) (m : Int) : Prop :=
  (∀ i, i < j → f (codeN k (movF k s ((tks n s n).getD i 0)) n) ≤ m) ∧ -1 ≤ m ∧ m ≤ f (codeN k s n) - 1
theorem MaxM.last {k n : Nat} {f : Nat → Int} {s : Nat → Nat} {m : Int} (h : MaxM k n f s (tks n s n).length m) (hf : Sol k n f) (hT : TokS k n s) (h1 : 1 < (tks n s n).length) (h0 : 0 ≤ f (codeN k s n)) : f (codeN k s n) = m + 1 := by
  rw [tks_len] at h1
  rcases hf.opened s hT.lt h1 with ⟨h2, _⟩ | ⟨_, _, i, hi, ti, h4⟩
  · omega
  · obtain ⟨j, hj, e⟩ := List.getElem_of_mem ((tks_mem n s i).2 ⟨hi, ti⟩)
    have h5 := h.1 j hj
    rw [List.getD_eq_getElem?_getD, List.getElem?_eq_getElem hj, Option.getD_some, e, h4] at h5
    have := h.2.2
    omega
theorem MaxM.next {k n j : Nat} {f : Nat → Int} {s : Nat → Nat} {m : Int} (h : MaxM k n f s j m) (hv : f (codeN k (movF k s ((tks n s n).getD j 0)) n) ≤ f (codeN k s n) - 1) : MaxM k n f s (j + 1) (max m (f (codeN k (movF k s ((tks n s n).getD j 0)) n))) := by
  refine ⟨fun i hi => ?_, ?_, ?_⟩
  · by_cases e : i = j
    · subst e; omega
    · have := h.1 i (by omega); omega
  · have := h.2.1; omega
  · have := h.2.2; omega
set_option maxRecDepth 100000 in
set_option maxHeartbeats 4000000 in
theorem FnWorstMoves_walk (a : Option Addr) (n c : Nat) (w : World) (hB : Bytes w w.heap.size a n) (hc : n ≤ c) (hc2 : c ≤ 9223372036854775807) :
    Calls Try.prog 5 #[.slice a n c] w fun e w' => e = .returned (.bool true) ∧ Keeps w w' := by
  have HB := Lib.hid hB
  clear hB
  by_cases hn : 1048576 < n
  · have hni : (1048576 : Int) < n := by omega
    go_enter Try.func5, Try.ntmps5
    go_wp2
    go_ret
    exact ⟨rfl, Keeps.refl _⟩
  · have hni : ¬ (1048576 : Int) < n := by omega
    go_enter Try.func5, Try.ntmps5
    go_wp2_with fail
    refine (drawWorstMoves_any a n c _ HB.out (by omega) hc hc2).mono ?_
    rintro e w1 ⟨k, A, m, d, x, rfl, hI, hm5, hK1⟩
    have HK1 := Lib.hid hK1
    have HI1 := Lib.hid hI
    have hP := worst_parts k m x (by omega)
    clear hK1 hn hni hI
    rcases hP with ⟨hS, hM⟩ | ⟨kk, s, f, rfl, hT, hx, hf, ⟨h0, hb⟩, hS, hM⟩
    · have CS := Lib.hid hS
      have CM := Lib.hid hM
      clear hS hM
      go_wp2_with fail
      refine (CM.out _ _ _ HI1.out).mono ?_
      rintro e w2 ⟨rfl, hk2⟩
      have HK2 := Lib.hid (HK1.out.step hk2)
      have HI2 := Lib.hid (HI1.out.keeps hk2)
      clear hk2
      go_wp2_with fail
      refine (CS.out _ _ _ HI2.out).mono ?_
      rintro e w3 ⟨rfl, hk3⟩
      have HK3 := Lib.hid (HK2.out.step hk3)
      clear hk3
      go_wp2_with fail
      go_ret
      exact ⟨rfl, HK3.out⟩
    · have HI := Lib.hid (HI1.out.congr hx)
      have CS := Lib.hid hS
      have HT := Lib.hid hT
      have HMN : Hid (∀ (j : Nat) (mm : Int), MaxM kk m f s j mm → j < (tks m s m).length → MaxM kk m f s (j + 1) (max mm (f (codeN kk (movF kk s ((tks m s m).getD j 0)) m))) ∧ TokS kk m (movF kk s ((tks m s m).getD j 0)) ∧ 0 ≤ f (codeN kk (movF kk s ((tks m s m).getD j 0)) m) ∧ f (codeN kk (movF kk s ((tks m s m).getD j 0)) m) ≤ f (codeN kk s m) - 1 ∨ ¬ 1 < (tks m s m).length) := Lib.hid (fun j mm hmm hj => by
        by_cases h1 : 1 < (tks m s m).length
        · left
          have h1' := h1
          rw [tks_len] at h1'
          obtain ⟨hi, ti⟩ := tks_at m s j hj
          rcases hf.opened s hT.lt h1' with ⟨h2, _⟩ | ⟨_, h3, _⟩
          · omega
          · have := h3 _ hi ti
            exact ⟨hmm.next (by omega), ⟨hT.k2, hT.k5, hT.n2, hT.n5, fun q hq => mov_lt (by have := hT.k2; omega) hT.lt _ hi q hq⟩, this.1, by omega⟩
        · exact .inr h1)
      have HML : Hid (∀ mm, MaxM kk m f s (tks m s m).length mm → 1 < (tks m s m).length → f (codeN kk s m) = mm + 1) := Lib.hid (fun mm h h1 => h.last hf hT h1 h0)
      have HM0 : Hid (¬ 1 < (tks m s m).length → f (codeN kk s m) = 0) := Lib.hid (fun h => hf.shut s hT.lt (by rw [← tks_len]; omega))
      have HTA := Lib.hid (fun i hi => tks_at m s i hi)
      have hLb := tks_bd (n := m) (s := s) m
      have CM0 := Lib.hid (fun a c w hI => hM s a c w hT h0 hI)
      have CM := Lib.hid hM
      have HC0 : Hid (MaxM kk m f s 0 (-1)) := Lib.hid ⟨fun i hi => absurd hi (Nat.not_lt_zero _), by omega, by omega⟩
      have HFB : Hid (∀ mm L, MaxM kk m f s L mm → -1 ≤ mm ∧ mm ≤ f (codeN kk s m) - 1 ∧ 0 ≤ f (codeN kk s m) ∧ f (codeN kk s m) ≤ 1024) := Lib.hid (fun mm L h => ⟨h.2.1, h.2.2, h0, hb⟩)
      have HOK := Lib.hid (tokOk_mk hT)
      clear hS hM hx hT hf h0 hb
      obtain ⟨C, hC⟩ : ∃ C, C = f (codeN kk s m) := ⟨_, rfl⟩
      rw [← hC] at CS HMN HML HM0 CM0 HFB
      have HCC := Lib.hid hC
      clear hC
      obtain ⟨L, hL⟩ : ∃ L, L = (tks m s m).length := ⟨_, rfl⟩
      have HLL := Lib.hid hL
      rw [← hL] at HMN HML HM0 HTA hLb
      clear hL
      have hCC : (C != C) = false := by simp
      go_wp2_with fail
      refine (CM0.out _ _ _ HI.out).mono ?_
      rintro e w2 ⟨rfl, hk2⟩
      have HK2 := Lib.hid (HK1.out.step hk2)
      have HI2 := Lib.hid (HI1.out.keeps hk2)
      have HJ2 := Lib.hid (HI.out.keeps hk2)
      clear hk2
      go_wp2_with fail
      refine (CS.out _ _ _ HI2.out).mono ?_
      rintro e w3 ⟨rfl, hk3⟩
      have HK3 := Lib.hid (HK2.out.step hk3)
      have HJ3 := Lib.hid (HJ2.out.keeps hk3)
      clear hk3
      go_wp2_with fail
      refine (tokensOf_any A kk m d s w3 HT.out HJ3.out HOK.out).mono ?_
      rintro e w4 ⟨g, c4, rfl, hI4, hc4, hc5, hg4, hk4⟩
      rw [← HLL.out] at hI4 hc4 ⊢
      have HI4 := Lib.hid hI4
      have HJ4 := Lib.hid (HJ3.out.keeps hk4)
      have HK4 := Lib.hid (HK3.out.step hk4)
      clear hI4 hk4 hc4 hc5 hg4
      by_cases hL1 : L = 1
      · subst hL1
        have hC0 : (C == 0) = true := by have := HM0.out (by omega); simp [this]
        go_wp2_with fail
        go_ret
        exact ⟨rfl, HK4.out⟩
      · have hL1' : ((L : Int) == 1) = false := by simp; omega
        go_wp2_with fail
        go_loopw [10, 11] (fun mv i wr => ∃ (j : Nat) (mm : Int), j ≤ L ∧ i = .int .i64 j ∧ mv = .int .i64 mm ∧ Hid (MaxM kk m f s j mm) ∧ Hid (Ints wr A m (nf s)) ∧ Hid (Ints wr (some ⟨g, 0, none⟩) L (fun i => (((tks m s m).getD i 0 : Nat) : Int))) ∧ Hid (Keeps w wr)) (fun _ i _ => L - (intOf i).toNat)
        case atStart => exact ⟨0, -1, by omega, rfl, rfl, HC0, HJ4, HI4, HK4⟩
        case round =>
          obtain ⟨j, mm, hj, rfl, rfl, HMX, HJ, HL, HK⟩ := hrel
          by_cases hlt : j < L
          · have hji : (j : Int) < L := by omega
            have hgt : 1 < L := by omega
            obtain ⟨_, _, e, hc0⟩ := HL.out j hlt
            cases e
            dsimp only at hc0
            rw [Nat.zero_add] at hc0
            obtain ⟨htn, htb⟩ := HTA.out j hlt
            rcases HMN.out j mm HMX.out hlt with ⟨h1, h2, h3, h4⟩ | h1
            · have HMX2 := Lib.hid h1
              have HT2 := Lib.hid h2
              have HF0 := Lib.hid h3
              have HTB := Lib.hid htb
              clear h1 h2 h3 h4 htb
              generalize (tks m s m).getD j 0 = t at *
              go_wp2_with fail
              refine (moveOf_any A kk m d t s wr HT.out htn HTB.out HJ.out HOK.out).mono ?_
              rintro e w5 ⟨g5, rfl, hI5, hk5⟩
              have HI5 := Lib.hid hI5
              have HJ5 := Lib.hid (HJ.out.keeps hk5)
              have HL5 := Lib.hid (HL.out.keeps hk5)
              have HK5 := Lib.hid (HK.out.step hk5)
              clear hI5 hk5
              go_wp2_with fail
              refine (CM.out _ _ _ w5 HT2.out HF0.out HI5.out).mono ?_
              rintro e w6 ⟨rfl, hk6⟩
              have HJ6 := Lib.hid (HJ5.out.keeps hk6)
              have HL6 := Lib.hid (HL5.out.keeps hk6)
              have HK6 := Lib.hid (HK5.out.step hk6)
              clear hk6
              obtain ⟨y, hy⟩ : ∃ y, y = f (codeN kk (movF kk s t) m) := ⟨_, rfl⟩
              rw [← hy] at HMX2 ⊢
              clear hy
              by_cases hmy : mm < y
              · have hmx : max mm y = y := by omega
                rw [hmx] at HMX2
                go_wp2_with fail
                go_roundw
                case rel => exact ⟨j + 1, y, by omega, by go_num, rfl, HMX2, HJ6, HL6, HK6⟩
                case measure => simp [intOf]; omega
              · have hmx : max mm y = mm := by omega
                rw [hmx] at HMX2
                go_wp2_with fail
                go_roundw
                case rel => exact ⟨j + 1, mm, by omega, by go_num, rfl, HMX2, HJ6, HL6, HK6⟩
                case measure => simp [intOf]; omega
            · exact absurd hgt h1
          · obtain rfl : j = L := by omega
            have hCm : (C == wrap64 (mm + 1)) = true := by
              have hq := HFB.out _ _ HMX.out
              have hw : wrap64 (mm + 1) = mm + 1 := by unfold wrap64; omega
              rw [hw, beq_iff_eq]
              by_cases h1 : 1 < j
              · exact HML.out mm HMX.out h1
              · have := HM0.out h1
                omega
            go_wp2_with fail
            go_ret
            exact ⟨rfl, HK.out⟩
end Go.Proofs.Ytpgipkcbdppplaa
