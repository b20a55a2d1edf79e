/-
  The walk of FnNextOf: whatever the code is, it returns true, and nothing that was there turns. No condition.
-/
import Derived.Test.YtaejakejnllimaaDrawCrowd
import Derived.Test.YtaejakejnllimaaWrap
import Derived.Test.YtaejakejnllimaaCrowdLaw
import Derived.Test.YtaejakejnllimaaCrnEq
import Derived.Test.YtaejakejnllimaaLawQ
import Derived.Test.YtaejakejnllimaaTotal
namespace Go.Proofs.Ytaejakejnllimaa
set_option linter.unusedVariables false
set_option maxRecDepth 100000
open Go.RowKit

theorem nextV {nS nA nB : Nat} {s : Nat → Int} {rA rB : Nat → Option Addr × Nat × Nat} {f g : Nat → Nat → Int} {l : List Int} {Z : List (List Int)} (hZ : Z = if (rulB nS s nA rA f nB rB g && crwB nS l) then nextL (natF f) (natF g) nS l else []) :
    Z.length ≤ 1296 ∧ Z.Nodup ∧ ∀ x ∈ Z, (∀ j, j < l.length → 0 ≤ l.getD j 0 ∧ l.getD j 0 ≤ 5) ∧ x.length = l.length ∧ (∀ j, j < x.length → 0 ≤ x.getD j 0 ∧ x.getD j 0 ≤ 5) ∧ x.sum = l.sum ∧ x ≠ l := by
  subst hZ
  split
  · rename_i h
    obtain ⟨h1, h2⟩ := Bool.and_eq_true_iff.1 h
    obtain ⟨h3, h4, h5, h6⟩ := rulB_iff.1 h1
    have hW := crwB_iff.1 h2
    have hR : Rul nS (natF f) (natF g) := fun a b ha hb => by
      have h7 := ((h6 a ha).2.2.2 b hb)
      unfold natF
      omega
    refine ⟨crowds_le h3.2 (sl_canL _).nodup (fun x hx => (next_crw hR hW hx).1), (sl_canL _).nodup, fun x hx => ?_⟩
    obtain ⟨h7, h8, h9⟩ := next_crw hR hW hx
    exact ⟨fun j hj => hW.at j (by rw [← hW.len]; exact hj), by rw [h7.len, hW.len], fun j hj => h7.at j (by rw [← h7.len]; exact hj), h8, h9⟩
  · simp
theorem nodup_at {Z : List (List Int)} {R : List Hdr} {k : Nat} (hz : R.map (·.l) = Z) (hn : Z.Nodup) (hl : R.length = k) (i j : Nat) (hi : i < k) (hj : j < i) : (R.getD j default).l ≠ (R.getD i default).l := by
  subst hz
  intro e
  have h1 : (R.map (·.l))[j]'(by rw [List.length_map]; omega) = (R.map (·.l))[i]'(by rw [List.length_map]; omega) := by
    rw [List.getElem_map, List.getElem_map]
    rw [List.getD_eq_getElem?_getD, List.getElem?_eq_getElem (by omega), List.getD_eq_getElem?_getD, List.getElem?_eq_getElem (by omega)] at e
    exact e
  have h2 := (List.getElem_inj hn).1 h1
  omega
set_option maxHeartbeats 8000000 in
theorem FnNextOf_walk (a : Option Addr) (n c : Nat) (w : World) (hB : Bytes w w.heap.size a n) (hc : n ≤ c) (hc2 : c ≤ 9223372036854775807) :
    Calls Try.prog 6 #[.slice a n c] w fun e w' => e = .returned (.bool true) ∧ Keeps w w' := by
  have HB := Lib.hid hB
  clear hB
  by_cases hn : 1048576 < n
  · go_enter Try.func6, Try.ntmps6
    go_wp2
    go_ret
    exact ⟨rfl, Keeps.refl _⟩
  · go_enter Try.func6, Try.ntmps6
    go_wp2_with fail
    refine (drawNextOf_any a n c _ HB.out (by omega) hc hc2).mono ?_
    rintro e w1 ⟨S, A, B, nS, cS, nA, cA, nB, cB, g, m, d, s, rA, rB, f, gg, l, rfl, hR, hO, hm, hk1⟩
    have hml := hO.len
    have HR := Lib.hid hR
    have HC := Lib.hid hO.ints
    rw [← hml] at HC
    have HK1 := Lib.hid hk1
    have hl5 : l.length ≤ 5 := by omega
    subst hml
    clear hR hO hk1
    have HBX : Hid (Blk (w1.alloc (.cells #[.slice S nS cS, .slice A nA cA, .slice B nB cB] 26)) w1.heap.size 26 #[.slice S nS cS, .slice A nA cA, .slice B nB cB]) := Lib.hid (Blk.new w1 _ _)
    have HK2 : Hid (Keeps w1 (w1.alloc (.cells #[.slice S nS cS, .slice A nA cA, .slice B nB cB] 26))) := Lib.hid (Keeps.alloc _ _)
    obtain ⟨Z, hZ⟩ : ∃ Z, Z = (if (rulB nS s nA rA f nB rB gg && crwB nS l) then nextL (natF f) (natF gg) nS l else []) := ⟨_, rfl⟩
    have HV := Lib.hid (nextV hZ)
    have CN : Hid (∀ W, Keeps w1 W → Calls Try.prog 12 #[.agg #[.slice S nS cS, .slice A nA cA, .slice B nB cB], .slice (some ⟨g, 0, none⟩) l.length d] W fun e w' => ∃ R A0 k, e = .returned (.slice A0 k k) ∧ R.map (·.l) = Z ∧ (R.map (·.g)).Nodup ∧ Crn w' W.heap.size A0 k R ∧ Keeps W w') := Lib.hid (fun W hK => by rw [hZ]; exact iNextOf_any S A B (some ⟨g, 0, none⟩) nS cS nA cA nB cB d s rA rB f gg l W (HR.out.keeps hK) (HC.out.keeps hK) (by omega))
    have CS1 : Hid (∀ W, Keeps w1 W → Calls Try.prog 23 #[.agg #[.slice S nS cS, .slice A nA cA, .slice B nB cB], .slice (some ⟨g, 0, none⟩) l.length d] W fun e w' => ∃ R A0 k c, e = .returned (.slice A0 k c) ∧ R.map (·.l) = Z ∧ Crn w' W.heap.size A0 k R ∧ Keeps W w') := Lib.hid (fun W hK => by rw [hZ]; exact sNextOf_any S A B (some ⟨g, 0, none⟩) nS cS nA cA nB cB d s rA rB f gg l W (HR.out.keeps hK) (HC.out.keeps hK) (by omega))
    clear hZ HR
    go_wp2_with fail
    generalize w1.alloc (.cells #[.slice S nS cS, .slice A nA cA, .slice B nB cB] 26) = w2 at *
    refine (CN.out _ HK2.out).mono ?_
    rintro e w3 ⟨R, A0, k, rfl, hz, _, hr, hk3⟩
    have hkZ : Z.length = k := by rw [← hz, List.length_map, hr.len]
    have hkb : k ≤ 1296 := by rw [← hkZ]; exact HV.out.1
    have HCR := Lib.hid hr
    have HZ := Lib.hid hz
    have HKZ := Lib.hid hkZ
    have HX : Hid (∀ i, i < k → (R.getD i default).l ∈ Z) := Lib.hid (fun i hi => by rw [← hz]; exact getD_map (by rw [hr.len]; exact hi))
    have HK3 := Lib.hid (HK2.out.step hk3)
    have HB3 := Lib.hid (HBX.out.keeps hk3)
    have d0 : w3.cell? ⟨w1.heap.size, 0, none⟩ = some (.slice S nS cS) := HB3.out.cell 0
    have d1 : w3.cell? ⟨w1.heap.size, 1, none⟩ = some (.slice A nA cA) := HB3.out.cell 1
    have d2 : w3.cell? ⟨w1.heap.size, 2, none⟩ = some (.slice B nB cB) := HB3.out.cell 2
    have CE : Hid (∀ (W : World), Keeps w3 W → ∀ (R' : List Hdr) (A0' : Option Addr) (c' lo : Nat), R'.map (·.l) = Z → Crn W lo A0' k R' → Calls Try.prog 22 #[.slice A0 k k, .slice A0' k c'] W fun e w' => e = .returned (.bool true) ∧ Keeps W w') := Lib.hid (fun W hK R' A0' c' lo h1 h2 => eRows_true A0 A0' k k c' (hdrR R) (hdrR R') (numR R) (numR R') W (by omega) (HCR.out.keeps hK).rowsQ h2.rowsQ (fun i hi => by
      have h3 := (HV.out.2.2 _ (HX.out i hi)).2.1
      unfold hdrR
      dsimp only
      omega) (hdrEq (HZ.out.trans h1.symm) HCR.out.len))
    clear hk3 HBX HK2 hz hr hkZ
    go_wp2_with fail
    refine (CS1.out _ HK3.out).mono ?_
    rintro e w4 ⟨R', A0', k', c', rfl, hz', hr', hk4⟩
    obtain rfl : k' = k := by rw [← HKZ.out, ← hz', List.length_map, hr'.len]
    have CE1 := Lib.hid (CE.out w4 hk4 R' A0' c' _ hz' hr')
    have HB4 := Lib.hid (HB3.out.keeps hk4)
    have HK34 := Lib.hid hk4
    clear hk4 hz' hr' HB3 d0 d1 d2
    go_wp2_with fail
    refine CE1.out.mono ?_
    rintro e w5 ⟨rfl, hk5⟩
    have HB5 := Lib.hid (HB4.out.keeps hk5)
    have HK35 := Lib.hid (HK34.out.step hk5)
    have HK5 := Lib.hid (HK3.out.step HK35.out)
    have d0 : w5.cell? ⟨w1.heap.size, 0, none⟩ = some (.slice S nS cS) := HB5.out.cell 0
    have d1 : w5.cell? ⟨w1.heap.size, 1, none⟩ = some (.slice A nA cA) := HB5.out.cell 1
    have d2 : w5.cell? ⟨w1.heap.size, 2, none⟩ = some (.slice B nB cB) := HB5.out.cell 2
    clear hk5 HB4 CE1 HK34
    by_cases hk0 : k' = 0
    · subst hk0
      go_wp2_with fail
      refine (CS1.out _ HK5.out).mono ?_
      rintro e w6 ⟨R2, A2, k2, c2, rfl, hz2, hr2, hk6⟩
      obtain rfl : k2 = 0 := by rw [← HKZ.out, ← hz2, List.length_map, hr2.len]
      have CE2 := Lib.hid (CE.out w6 (HK35.out.step hk6) R2 A2 c2 _ hz2 hr2)
      have HK6 := Lib.hid (HK5.out.step hk6)
      clear hk6 hz2 hr2
      go_wp2_with fail
      refine CE2.out.mono ?_
      rintro e w7 ⟨rfl, hk7⟩
      have HKF := Lib.hid (HK1.out.step (HK6.out.step hk7))
      clear hk7
      go_wp2_with fail
      go_ret
      exact ⟨rfl, HKF.out⟩
    · have hki : ¬ (k' : Int) = 0 := by omega
      clear CS1 CN CE d0 d1 d2 HB5
      obtain ⟨gA, rfl⟩ : ∃ gA, A0 = some ⟨gA, 0, none⟩ := by
        rcases HCR.out.top with h | ⟨gA, _, e, _⟩
        · omega
        · exact ⟨gA, e⟩
      go_wp2_with fail
      go_loopw [6] (fun i wr => ∃ j : Nat, j ≤ k' ∧ i = .int .i64 j ∧ Hid (Keeps w5 wr)) (fun i _ => k' - (intOf i).toNat)
      case atStart => exact ⟨0, by omega, rfl, Lib.hid (Keeps.refl _)⟩
      case round =>
        obtain ⟨i, hi, rfl, HKR⟩ := hrel
        by_cases hlt : i < k'
        · have hii : (i : Int) < k' := by omega
          have hK := HK35.out.step HKR.out
          have hcell := (HCR.out.keeps hK).cell i hlt
          have hX := HV.out.2.2 _ (HX.out i hlt)
          unfold Hdr.v at hcell
          have CTx := Lib.hid (fun q => total_any (some ⟨(R.getD i default).g, 0, none⟩) (R.getD i default).c (R.getD i default).l (wr.drewN q) (by omega) hX.2.2.1 (((HCR.out.keeps hK).keeps (Keeps.drewN _ q)).rowD i hlt).ints)
          have CTl := Lib.hid (fun q => total_any (some ⟨g, 0, none⟩) d l (wr.drewN q) (by omega) hX.1 (HC.out.keeps ((HK5.out.step HKR.out).step (Keeps.drewN _ q))))
          have CEl := Lib.hid (fun q => leIntsQ_any (some ⟨(R.getD i default).g, 0, none⟩) (some ⟨g, 0, none⟩) (R.getD i default).c d (R.getD i default).l l (wr.drewN q) (by omega) (by omega) (((HCR.out.keeps hK).keeps (Keeps.drewN _ q)).rowD i hlt).ints (HC.out.keeps ((HK5.out.step HKR.out).step (Keeps.drewN _ q))))
          rw [hX.2.2.2.1] at CTx
          rw [decide_eq_false hX.2.2.2.2] at CEl
          have hxx : (l.sum != l.sum) = false := by simp
          generalize l.sum = T at *
          by_cases h0 : i = 0
          · subst h0
            generalize (R.getD 0 default).g = xg at *
            generalize (R.getD 0 default).c = xc at *
            generalize (R.getD 0 default).l.length = xn at *
            clear hX hK
            go_wp2_with fail
            go_quiet (first | (go_at_call 16; first | (with_reducible exact Calls.quiet_of_same ((CTx.out _).mono fun _ _ h => ⟨h.1, h.2.symm⟩)) | (with_reducible exact Calls.quiet_of_same ((CTl.out _).mono fun _ _ h => ⟨h.1, h.2.symm⟩))) | (go_at_call 24; with_reducible exact Calls.quiet_of (CEl.out _)))
            have HKN := Lib.hid (HKR.out.step (Keeps.drewN _ nq))
            go_wp2_with fail
            go_roundw
            case rel => exact ⟨0 + 1, by omega, by go_num, HKN⟩
            case measure => simp [intOf]; omega
          · obtain ⟨j, hj⟩ : ∃ j, i = j + 1 := ⟨i - 1, by omega⟩
            have hjn : (j : Int) < k' := by omega
            have hjn2 : j < k' := by omega
            have h1i : 0 < i := by omega
            have W1 : IntKind.i64.wrap ((i : Int) - 1) = (j : Int) := by rw [IntKind.wrap_i64]; omega
            have hcj := (HCR.out.keeps hK).cell j hjn2
            unfold Hdr.v at hcj
            have CEp := Lib.hid (fun q => leIntsQ_any (some ⟨(R.getD j default).g, 0, none⟩) (some ⟨(R.getD i default).g, 0, none⟩) (R.getD j default).c (R.getD i default).c (R.getD j default).l (R.getD i default).l (wr.drewN q) (by have := (HV.out.2.2 _ (HX.out j hjn2)).2.1; omega) (by omega) (((HCR.out.keeps hK).keeps (Keeps.drewN _ q)).rowD j hjn2).ints (((HCR.out.keeps hK).keeps (Keeps.drewN _ q)).rowD i hlt).ints)
            rw [decide_eq_false (nodup_at HZ.out HV.out.2.1 HCR.out.len i j hlt (by omega))] at CEp
            generalize (R.getD i default).g = xg at *
            generalize (R.getD i default).c = xc at *
            generalize (R.getD i default).l.length = xn at *
            generalize (R.getD j default).g = yg at *
            generalize (R.getD j default).c = yc at *
            generalize (R.getD j default).l.length = yn at *
            have HJ := Lib.hid hj
            clear hX hK hj
            go_wp2_with fail
            go_quiet (first | (go_at_call 16; first | (with_reducible exact Calls.quiet_of_same ((CTx.out _).mono fun _ _ h => ⟨h.1, h.2.symm⟩)) | (with_reducible exact Calls.quiet_of_same ((CTl.out _).mono fun _ _ h => ⟨h.1, h.2.symm⟩))) | (go_at_call 24; first | (with_reducible exact Calls.quiet_of (CEl.out _)) | (with_reducible exact Calls.quiet_of (CEp.out _))))
            have HKN := Lib.hid (HKR.out.step (Keeps.drewN _ nq))
            go_wp2_with fail
            go_roundw
            case rel => exact ⟨i + 1, by omega, by go_num, HKN⟩
            case measure => simp [intOf]; omega
        · obtain rfl : i = k' := by omega
          have HKF := Lib.hid (HK1.out.step (HK5.out.step HKR.out))
          go_wp2_with fail
          go_ret
          exact ⟨rfl, HKF.out⟩
end Go.Proofs.Ytaejakejnllimaa
