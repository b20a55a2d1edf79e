/-
  The walk of FnVerdictOf: whatever the code is, it returns true, and nothing that was there turns. No condition.
-/
import Derived.Test.YtaejakejnllimaaDrawCrowd
import Derived.Test.YtaejakejnllimaaWrapV
import Derived.Test.YtaejakejnllimaaCrowdLaw
namespace Go.Proofs.Ytaejakejnllimaa
set_option linter.unusedVariables false
set_option maxRecDepth 100000
open Go.RowKit

theorem verdV {nS nA nB : Nat} {s : Nat → Int} {rA rB : Nat → Option Addr × Nat × Nat} {f g : Nat → Nat → Int} {l : List Int} {O : Int} (hO : O = if (rulB nS s nA rA f nB rB g && crwB nS l) then verd (natF f) (natF g) nS s l else -1) (h : 0 ≤ O) :
    O ≤ 1 ∧ ∀ x ∈ (if (rulB nS s nA rA f nB rB g && crwB nS l) then nextL (natF f) (natF g) nS l else []), (if (rulB nS s nA rA f nB rB g && crwB nS x) then verd (natF f) (natF g) nS s x else -1) = O ∧ x.length = nS := by
  cases hv : rulB nS s nA rA f nB rB g && crwB nS l
  · rw [hv] at hO
    simp at hO
    omega
  · obtain ⟨h1, h2⟩ := Bool.and_eq_true_iff.1 hv
    obtain ⟨h3, h4, h5, h6⟩ := rulB_iff.1 h1
    have hW := crwB_iff.1 h2
    have hR : Rul nS (natF f) (natF g) := fun a b ha hb => by
      have h7 := ((h6 a ha).2.2.2 b hb)
      unfold natF
      omega
    rw [hv, if_pos rfl] at hO
    refine ⟨by rw [hO]; exact verd_le, fun x hx => ?_⟩
    rw [if_pos rfl] at hx
    have hX := (next_crw hR hW hx).1
    rw [h1, crwB_iff.2 hX, Bool.true_and, if_pos rfl]
    exact ⟨(verd_stays hR (fun k hk => (h6 k hk).1) hW (rch_next hx) (by omega)).trans hO.symm, hX.len⟩
theorem boundNextD {nS nA nB : Nat} {s : Nat → Int} {rA rB : Nat → Option Addr × Nat × Nat} {f g : Nat → Nat → Int} {l : List Int} : (if (rulB nS s nA rA f nB rB g && crwB nS l) then nextL (natF f) (natF g) nS l else []).length ≤ 1296 := by
  split
  · rename_i h
    obtain ⟨h1, h2⟩ := Bool.and_eq_true_iff.1 h
    obtain ⟨h3, h4, h5, h6⟩ := rulB_iff.1 h1
    have hW := crwB_iff.1 h2
    have hR : Rul nS (natF f) (natF g) := fun a b ha hb => by
      have h7 := ((h6 a ha).2.2.2 b hb)
      unfold natF
      omega
    exact crowds_le h3.2 (sl_canL _).nodup (fun x hx => (next_crw hR hW hx).1)
  · simp
set_option maxHeartbeats 8000000 in
theorem FnVerdictOf_walk (a : Option Addr) (n c : Nat) (w : World) (hB : Bytes w w.heap.size a n) (hc : n ≤ c) (hc2 : c ≤ 9223372036854775807) :
    Calls Try.prog 3 #[.slice a n c] w fun e w' => e = .returned (.bool true) ∧ Keeps w w' := by
  have HB := Lib.hid hB
  clear hB
  by_cases hn : 1048576 < n
  · go_enter Try.func3, Try.ntmps3
    go_wp2
    go_ret
    exact ⟨rfl, Keeps.refl _⟩
  · go_enter Try.func3, Try.ntmps3
    go_wp2_with fail
    refine (drawVerdictOf_any a n c _ HB.out (by omega) hc hc2).mono ?_
    rintro e w1 ⟨S, A, B, nS, cS, nA, cA, nB, cB, g, m, d, s, rA, rB, f, gg, l, rfl, hR, hO, hm, hk1⟩
    have hml := hO.len
    have HR := Lib.hid hR
    have HC := Lib.hid hO.ints
    rw [← hml] at HC
    have HK1 := Lib.hid hk1
    have hl5 : l.length ≤ 5 := by omega
    subst hml
    clear hR hO hk1
    have HBX : Hid (Blk (w1.alloc (.cells #[.slice S nS cS, .slice A nA cA, .slice B nB cB] 26)) w1.heap.size 26 #[.slice S nS cS, .slice A nA cA, .slice B nB cB]) := Lib.hid (Blk.new w1 _ _)
    have HK2 : Hid (Keeps w1 (w1.alloc (.cells #[.slice S nS cS, .slice A nA cA, .slice B nB cB] 26))) := Lib.hid (Keeps.alloc _ _)
    obtain ⟨O, hO⟩ : ∃ O, O = (if (rulB nS s nA rA f nB rB gg && crwB nS l) then verd (natF f) (natF gg) nS s l else -1) := ⟨_, rfl⟩
    have HO := Lib.hid hO
    have CI : Hid (∀ W, Keeps w1 W → Calls Try.prog 10 #[.agg #[.slice S nS cS, .slice A nA cA, .slice B nB cB], .slice (some ⟨g, 0, none⟩) l.length d] W fun e w' => e = .returned (.int .i64 O) ∧ Keeps W w') := Lib.hid (fun W hK => by rw [hO]; exact iVerdictOf_any S A B (some ⟨g, 0, none⟩) nS cS nA cA nB cB d s rA rB f gg l W (HR.out.keeps hK) (HC.out.keeps hK) (by omega))
    have CS1 : Hid (∀ W, Keeps w1 W → Calls Try.prog 11 #[.agg #[.slice S nS cS, .slice A nA cA, .slice B nB cB], .slice (some ⟨g, 0, none⟩) l.length d] W fun e w' => e = .returned (.int .i64 O) ∧ Keeps W w') := Lib.hid (fun W hK => by rw [hO]; exact sVerdictOf_any S A B (some ⟨g, 0, none⟩) nS cS nA cA nB cB d s rA rB f gg l W (HR.out.keeps hK) (HC.out.keeps hK) (by omega))
    have CN := Lib.hid (fun (W : World) (hK : Keeps w1 W) => iNextOf_any S A B (some ⟨g, 0, none⟩) nS cS nA cA nB cB d s rA rB f gg l W (HR.out.keeps hK) (HC.out.keeps hK) (by omega))
    have CX := Lib.hid (fun (W : World) (hK : Keeps w1 W) (C : Option Addr) (cC : Nat) (x : List Int) (hx : Ints W C x.length (fun i => x.getD i 0)) (hxl : x.length ≤ 1099511627776) => iVerdictOf_any S A B C nS cS nA cA nB cB cC s rA rB f gg x W (HR.out.keeps hK) hx hxl)
    have HN := Lib.hid (fun h => verdV hO h)
    have HNB := Lib.hid (boundNextD (nS := nS) (nA := nA) (nB := nB) (s := s) (rA := rA) (rB := rB) (f := f) (g := gg) (l := l))
    have hnS := HR.out.bS
    have hOO : (O != O) = false := by simp
    have hOE : (O == O) = true := by simp
    clear hO HO HC HR
    generalize (if (rulB nS s nA rA f nB rB gg && crwB nS l) then nextL (natF f) (natF gg) nS l else []) = Z at *
    go_wp2_with fail
    generalize w1.alloc (.cells #[.slice S nS cS, .slice A nA cA, .slice B nB cB] 26) = w2 at *
    refine (CI.out _ HK2.out).mono ?_
    rintro e w3 ⟨rfl, hk3⟩
    have HK3 := Lib.hid (HK2.out.step hk3)
    have HB3 := Lib.hid (HBX.out.keeps hk3)
    have d0 : w3.cell? ⟨w1.heap.size, 0, none⟩ = some (.slice S nS cS) := HB3.out.cell 0
    have d1 : w3.cell? ⟨w1.heap.size, 1, none⟩ = some (.slice A nA cA) := HB3.out.cell 1
    have d2 : w3.cell? ⟨w1.heap.size, 2, none⟩ = some (.slice B nB cB) := HB3.out.cell 2
    clear hk3 HBX HK2
    go_wp2_with fail
    refine (CS1.out _ HK3.out).mono ?_
    rintro e w4 ⟨rfl, hk4⟩
    have HK4 := Lib.hid (HK3.out.step hk4)
    have HB4 := Lib.hid (HB3.out.keeps hk4)
    have d3 : w4.cell? ⟨w1.heap.size, 0, none⟩ = some (.slice S nS cS) := HB4.out.cell 0
    have d4 : w4.cell? ⟨w1.heap.size, 1, none⟩ = some (.slice A nA cA) := HB4.out.cell 1
    have d5 : w4.cell? ⟨w1.heap.size, 2, none⟩ = some (.slice B nB cB) := HB4.out.cell 2
    clear hk4 HB3 HK3 d0 d1 d2
    by_cases hneg : O < 0
    · clear HN
      go_wp2_with fail
      refine (CS1.out _ HK4.out).mono ?_
      rintro e w5 ⟨rfl, hk5⟩
      have HKF := Lib.hid (HK1.out.step (HK4.out.step hk5))
      clear hk5
      go_wp2_with fail
      go_ret
      exact ⟨rfl, HKF.out⟩
    · have HNV := Lib.hid (HN.out (by omega))
      clear HN
      go_wp2_with fail
      refine (CN.out _ HK4.out).mono ?_
      rintro e w5 ⟨R, A0, k, rfl, hz, _, hr, hk5⟩
      have hkb : k ≤ 1296 := by
        have h1 := HNB.out
        rw [← hz, List.length_map, hr.len] at h1
        exact h1
      have HZ : Hid (∀ i, i < k → (R.getD i default).l ∈ Z) := Lib.hid (fun i hi => by rw [← hz]; exact getD_map (by rw [hr.len]; exact hi))
      have HCR := Lib.hid hr
      have HK5 := Lib.hid (HK4.out.step hk5)
      have HB5 := Lib.hid (HB4.out.keeps hk5)
      have hO1 := HNV.out.1
      clear hz hr hk5 HK4 HB4 d3 d4 d5 CN CI CS1
      go_wp2_with fail
      go_loopw [7] (fun i wr => ∃ j : Nat, j ≤ k ∧ i = .int .i64 j ∧ Hid (Keeps w5 wr)) (fun i _ => k - (intOf i).toNat)
      case atStart => exact ⟨0, by omega, rfl, Lib.hid (Keeps.refl _)⟩
      case round =>
        obtain ⟨i, hi, rfl, HKR⟩ := hrel
        by_cases hlt : i < k
        · have hii : (i : Int) < k := by omega
          obtain ⟨gA, rfl⟩ : ∃ gA, A0 = some ⟨gA, 0, none⟩ := by
            rcases HCR.out.top with h | ⟨gA, _, e, _⟩
            · omega
            · exact ⟨gA, e⟩
          have hcell := (HCR.out.keeps HKR.out).cell i hlt
          have HXO := Lib.hid ((HCR.out.keeps HKR.out).rowD i hlt).ints
          have HXN := Lib.hid (HNV.out.2 _ (HZ.out i hlt))
          unfold Hdr.v at hcell
          have CV : Hid (∀ W, Keeps wr W → Calls Try.prog 10 #[.agg #[.slice S nS cS, .slice A nA cA, .slice B nB cB], .slice (some ⟨(R.getD i default).g, 0, none⟩) (R.getD i default).l.length (R.getD i default).c] W fun e w' => e = .returned (.int .i64 O) ∧ Keeps W w') := Lib.hid (fun W hK => by
            have h := CX.out W ((HK5.out.step HKR.out).step hK) (some ⟨(R.getD i default).g, 0, none⟩) (R.getD i default).c (R.getD i default).l (HXO.out.keeps hK) (by rw [HXN.out.2]; omega)
            rw [HXN.out.1] at h
            exact h)
          have b0 : wr.cell? ⟨w1.heap.size, 0, none⟩ = some (.slice S nS cS) := (HB5.out.keeps HKR.out).cell 0
          have b1 : wr.cell? ⟨w1.heap.size, 1, none⟩ = some (.slice A nA cA) := (HB5.out.keeps HKR.out).cell 1
          have b2 : wr.cell? ⟨w1.heap.size, 2, none⟩ = some (.slice B nB cB) := (HB5.out.keeps HKR.out).cell 2
          generalize (R.getD i default).g = xg at *
          generalize (R.getD i default).c = xc at *
          generalize (R.getD i default).l.length = xn at *
          clear HXO HXN
          go_upto_region 11 with fail
          go_region_law (first | (refine step_go 10 #[.tmp 42, .tmp 46] #[26, 23] rfl rfl (fun _ _ => rfl) (by simp [Act.eval]) (CV.out _ (Keeps.drew1 _)) ?_; rintro e w6 ⟨rfl, hk6⟩; refine ⟨_, rfl, ?_⟩))
          all_goals
            have HK6 := Lib.hid (HKR.out.step ((Keeps.drew1 _).step hk6))
            clear hk6
            go_wp2_with fail
            go_roundw
            case rel => exact ⟨i + 1, by omega, by go_num, HK6⟩
            case measure => simp [intOf]; omega
        · obtain rfl : i = k := by omega
          have HKF := Lib.hid (HK1.out.step (HK5.out.step HKR.out))
          go_wp2_with fail
          go_ret
          exact ⟨rfl, HKF.out⟩
end Go.Proofs.Ytaejakejnllimaa
