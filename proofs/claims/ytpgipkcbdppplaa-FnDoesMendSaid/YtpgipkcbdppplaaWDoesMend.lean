/-
  The walk of FnDoesMend: whatever the code is, it returns true, and nothing that was there turns. No condition.
-/
import Derived.Test.YtpgipkcbdppplaaTokQ
import Derived.Test.YtpgipkcbdppplaaTokS
import Derived.Test.YtpgipkcbdppplaaTokM
namespace Go.Proofs.Ytpgipkcbdppplaa
set_option linter.unusedVariables false
open Go.RowKit

theorem mend_cases {k n : Nat} {f : Nat → Int} (hf : Sol k n f) (h2 : 2 ≤ n) (hk5 : k ≤ 5) (hN : k ^ n ≤ 1024) : mendB f (k ^ n) = true ∨ (mendB f (k ^ n) = false ∧ k < n) := by
  cases h : mendB f (k ^ n)
  · refine .inr ⟨rfl, ?_⟩
    by_cases hk : k < n
    · exact hk
    · have := mend_all hf h2 (by omega) hk5 hN
      rw [this] at h
      cases h
  · exact .inl rfl
set_option maxRecDepth 100000 in
set_option maxHeartbeats 4000000 in
theorem FnDoesMend_walk (a : Option Addr) (n c : Nat) (w : World) (hB : Bytes w w.heap.size a n) (hc : n ≤ c) (hc2 : c ≤ 9223372036854775807) :
    Calls Try.prog 6 #[.slice a n c] w fun e w' => e = .returned (.bool true) ∧ Keeps w w' := by
  have HB := Lib.hid hB
  clear hB
  by_cases hn : 1048576 < n
  · have hni : (1048576 : Int) < n := by omega
    go_enter Try.func6, Try.ntmps6
    go_wp2
    go_ret
    exact ⟨rfl, Keeps.refl _⟩
  · have hni : ¬ (1048576 : Int) < n := by omega
    go_enter Try.func6, Try.ntmps6
    go_wp2_with fail
    refine (drawDoesMend_any a n c _ HB.out (by omega) hc hc2).mono ?_
    rintro e w1 ⟨K, N, rfl, hk1, hk6, hn1, hn6, hK1⟩
    have HK1 := Lib.hid hK1
    clear hK1 hn hni
    obtain ⟨K, rfl⟩ := Int.eq_ofNat_of_zero_le (show 0 ≤ K by omega)
    obtain ⟨N, rfl⟩ := Int.eq_ofNat_of_zero_le (show 0 ≤ N by omega)
    cases hr : ringB K N
    · have CI := Lib.hid (fun w => doesMend_no K N w hr)
      have CS := Lib.hid (fun w => sDoesMend_no K N w hr)
      have CL := Lib.hid (fun w => legal_no K N w hr)
      clear hr
      go_wp2_with fail
      refine (CI.out _).mono ?_
      rintro e w2 ⟨rfl, hk2⟩
      have HK2 := Lib.hid (HK1.out.step hk2)
      clear hk2
      go_wp2_with fail
      refine (CS.out _).mono ?_
      rintro e w3 ⟨rfl, hk3⟩
      have HK3 := Lib.hid (HK2.out.step hk3)
      clear hk3
      go_wp2_with fail
      refine (CL.out _).mono ?_
      rintro e w4 ⟨rfl, hk4⟩
      have HK4 := Lib.hid (HK3.out.step hk4)
      clear hk4
      go_wp2_with fail
      refine (CS.out _).mono ?_
      rintro e w5 ⟨rfl, hk5⟩
      have HK5 := Lib.hid (HK4.out.step hk5)
      clear hk5
      go_wp2_with fail
      go_ret
      exact ⟨rfl, HK5.out⟩
    · obtain ⟨kk, nn, e1, e2, h1, h2, h3, h4, h5⟩ := ringB_true hr
      obtain rfl : kk = K := by omega
      obtain rfl : nn = N := by omega
      obtain ⟨f, hf⟩ := sol_exists kk nn (by omega)
      have HM := Lib.hid (mend_cases hf h3 h2 h5)
      have CI := Lib.hid (fun w => doesMend_yes kk nn f w hf h1 h2 h3 h4 hr)
      have CS := Lib.hid (fun w => sDoesMend_yes kk nn f w h1 h2 h3 h4 h5 (hf.toD (by omega)))
      have CL := Lib.hid (fun w => legal_yes kk nn w h1 h2 h3 h4 hr)
      have HT : Hid (TokS kk nn (fun j => (nn - j) % kk)) := Lib.hid ⟨h1, h2, h3, h4, fun j _ => Nat.mod_lt _ (by omega)⟩
      have CW : Hid (∀ a c w, Ints w a nn (nf (fun j => (nn - j) % kk)) → tokOkB kk nn (nf (fun j => (nn - j) % kk)) = true → Calls Try.prog 11 #[.int .i64 kk, .slice a nn c] w fun e w' => ((0 ≤ f (codeN kk (fun j => (nn - j) % kk) nn) ∧ e = .returned (.tuple #[.int .i64 (f (codeN kk (fun j => (nn - j) % kk) nn)), .bool true])) ∨ (f (codeN kk (fun j => (nn - j) % kk) nn) = -1 ∧ e = .returned (.tuple #[.int .i64 0, .bool false]))) ∧ Keeps w w') := Lib.hid (fun a c w hI ho => worstMoves_yes kk nn c a _ f w hf HT.out h5 hI ho)
      have HF : Hid (mendB f (kk ^ nn) = true → 0 ≤ f (codeN kk (fun j => (nn - j) % kk) nn)) := Lib.hid (fun h => mend_at h HT.out.lt)
      have HOK : Hid (tokOkB kk nn (nf (fun j => (nn - j) % kk)) = true) := Lib.hid (tokOk_mk HT.out)
      generalize f (codeN kk (fun j => (nn - j) % kk) nn) = y at *
      generalize mendB f (kk ^ nn) = B at *
      clear hr e1 e2 hf h5
      have hBB : (B != B) = false := by simp
      have hBB2 : (B == B) = true := by simp
      go_wp2_with fail
      refine (CI.out _).mono ?_
      rintro e w2 ⟨rfl, hk2⟩
      have HK2 := Lib.hid (HK1.out.step hk2)
      clear hk2
      go_wp2_with fail
      refine (CS.out _).mono ?_
      rintro e w3 ⟨rfl, hk3⟩
      have HK3 := Lib.hid (HK2.out.step hk3)
      clear hk3
      go_wp2_with fail
      refine (CL.out _).mono ?_
      rintro e w4 ⟨A, m, cc, rfl, hk4⟩
      have HK4 := Lib.hid (HK3.out.step hk4)
      clear hk4
      by_cases hm : m = 0
      · subst hm
        go_wp2_with fail
        refine (CS.out _).mono ?_
        rintro e w5 ⟨rfl, hk5⟩
        have HK5 := Lib.hid (HK4.out.step hk5)
        clear hk5
        go_wp2_with fail
        go_ret
        exact ⟨rfl, HK5.out⟩
      · have hm0 : ((m : Int) == 0) = false := by simp; omega
        have hmk := make_ints nn (by omega)
        have HO0 := Lib.hid (OwnInts.make w4 w4.heap.size nn (Nat.le_refl _) (by omega))
        clear hm
        go_wp2_with fail
        go_loopw [7] (fun i wr => ∃ j : Nat, j ≤ nn ∧ i = .int .i64 j ∧ Hid (OwnInts wr w4.heap.size (some ⟨w4.heap.size, 0, none⟩) nn nn (il nn (nf (fun i => if i < j then (nn - i) % kk else 0)))) ∧ Hid (Keeps w wr)) (fun i _ => nn - (intOf i).toNat)
        case atStart =>
          refine ⟨0, by omega, rfl, Lib.hid ?_, Lib.hid (HK4.out.step (Keeps.alloc _ _))⟩
          rw [il_congr nn _ (fun _ => 0) (fun i _ => by simp [nf]), ← il_zero]
          exact HO0.out
        case round =>
          clear HO0
          obtain ⟨j, hj, rfl, HO, HK⟩ := hrel
          by_cases hlt : j < nn
          · have hji : (j : Int) < nn := by omega
            have hf := HO.out.frozen j
            have hcj := HO.out.cell j hlt
            obtain ⟨q, hq⟩ : ∃ q, q = (nn - j) % kk := ⟨_, rfl⟩
            have hk0 : ((kk : Int) == 0) = false := by simp; omega
            have hw2 : IntKind.i64.wrap ((nn : Int) - j) = (nn : Int) - j := by rw [IntKind.wrap_i64]; omega
            have ht0 : ((nn : Int) - j) % kk = (q : Int) := by
              rw [hq, Int.natCast_emod]
              congr 1
              omega
            have ht1 : Int.tmod ((nn : Int) - j) kk = (q : Int) := by
              rw [Int.tmod_eq_emod_of_nonneg (by omega)]; exact ht0
            have HN := Lib.hid (HO.out.set j (q : Int))
            have HQ := Lib.hid hq
            clear hq
            go_wp2
            go_roundw
            case rel =>
              refine ⟨j + 1, by omega, by go_num, Lib.hid ?_, Lib.hid (Below.setCell HK.out HK4.out.size _)⟩
              have h := HN.out
              rw [il_set] at h
              rw [il_congr nn _ (fun i => if i = j then (q : Int) else nf (fun i => if i < j then (nn - i) % kk else 0) i) (fun i _ => by
                dsimp only [nf]
                by_cases h1 : i = j
                · subst h1; rw [if_pos (by omega), if_pos rfl, HQ.out]
                · by_cases h2 : i < j
                  · rw [if_pos (by omega), if_neg h1, if_pos h2]
                  · rw [if_neg (by omega), if_neg h1, if_neg h2])]
              exact h
            case measure => simp [intOf]; omega
          · obtain rfl : j = nn := by omega
            have HI : Hid (Ints wr (some ⟨w4.heap.size, 0, none⟩) j (nf (fun i => (j - i) % kk))) := Lib.hid ((il_ints' HO.out).congr (fun i hi => by dsimp only [nf]; rw [if_pos hi]))
            go_wp2_with fail
            refine (CW.out _ _ _ HI.out HOK.out).mono ?_
            rintro e w6 ⟨⟨h0, rfl⟩ | ⟨h0, rfl⟩, hk6⟩
            · have HK6 := Lib.hid (HK.out.step hk6)
              clear hk6 CI CS CL CW
              cases B
              · have hkn : kk < j := by
                  rcases HM.out with h | h
                  · cases h
                  · exact h.2
                have hkni : (kk : Int) < j := by omega
                go_wp2_with fail
                go_ret
                exact ⟨rfl, HK6.out⟩
              · go_wp2_with fail
                go_ret
                exact ⟨rfl, HK6.out⟩
            · have HK6 := Lib.hid (HK.out.step hk6)
              clear hk6 CI CS CL CW
              cases B
              · have hkn : kk < j := by
                  rcases HM.out with h | h
                  · cases h
                  · exact h.2
                have hkni : (kk : Int) < j := by omega
                go_wp2_with fail
                go_ret
                exact ⟨rfl, HK6.out⟩
              · have := HF.out rfl
                omega
end Go.Proofs.Ytpgipkcbdppplaa
