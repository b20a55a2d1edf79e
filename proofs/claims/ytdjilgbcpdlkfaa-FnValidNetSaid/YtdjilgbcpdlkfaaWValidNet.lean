/-
  The walk of FnValidNet: whatever the code is, it returns true, and nothing that was there turns. No condition.
-/
import Derived.Test.YtdjilgbcpdlkfaaDrawNet
import Derived.Test.YtdjilgbcpdlkfaaIsIn
import Derived.Test.YtdjilgbcpdlkfaaNetFin
import Derived.Test.YtdjilgbcpdlkfaaWidth
import Derived.Deep.RegionHeld3
import Derived.Deep.CutBlock
import Derived.Deep.DeepCutAuto
namespace Go.Proofs.Ytdjilgbcpdlkfaa
open Go.RowKit

set_option maxRecDepth 100000 in
set_option maxHeartbeats 8000000 in
theorem FnValidNet_walk (a : Option Addr) (n c : Nat) (w : World) (hB : Bytes w w.heap.size a n) (hc : n ≤ c) (hc2 : c ≤ 9223372036854775807) :
    Calls Try.prog 5 #[.slice a n c] w fun e w' => e = .returned (.bool true) ∧ Keeps w w' := by
  have HB := Lib.hid hB
  clear hB
  by_cases hn : 1048576 < n
  · go_enter Try.func5, Try.ntmps5
    go_wp2
    go_ret
    exact ⟨rfl, Keeps.refl _⟩
  · go_enter Try.func5, Try.ntmps5
    go_wp2_with fail
    refine (drawValidNet_any a n c _ HB.out (by omega) hc hc2).mono ?_
    rintro e w1 ⟨m, mm, A, B, cA, cB, r, L, X, M, rfl, hN, hL, hm1, hm6, hmm, hK1⟩
    have kk := Keeps.alloc w1 (.cells #[.slice A m cA, .slice B mm cB] 27)
    have b0 := box0 w1 (.slice A m cA) (.slice B mm cB) 27
    have b1 := box1 w1 (.slice A m cA) (.slice B mm cB) 27
    have HL := Lib.hid hL
    have HN := Lib.hid (hN.keeps kk)
    have hKK := hK1.step kk
    clear hN hL hK1 kk
    go_wp2_with fail
    generalize hw0 : w1.alloc (.cells #[.slice A m cA, .slice B mm cB] 27) = w0 at *
    generalize hV : w1.heap.size = V at *
    clear hw0 hV w1
    have CI := Lib.hid (fun w' (hK : Keeps w0 w') => validNet_any A B m cA mm cB r L X M w' (HN.out.keeps hK))
    have CS := Lib.hid (fun w' (hK : Keeps w0 w') => sValidNet_any A B m cA mm cB r L X M w' (HN.out.keeps hK))
    cases hb : netB m L X mm M
    · rw [hb] at CI CS
      clear hb
      refine (CI.out _ (Keeps.refl _)).mono ?_
      rintro e w1 ⟨rfl, hk1⟩
      have c0 := cell_keeps hk1 b0
      have c1 := cell_keeps hk1 b1
      go_wp2_with fail
      refine (CS.out _ hk1).mono ?_
      rintro e w2 ⟨rfl, hk2⟩
      have d0 := cell_keeps hk2 c0
      have d1 := cell_keeps hk2 c1
      go_wp2_with fail
      refine (CS.out _ (hk1.step hk2)).mono ?_
      rintro e w3 ⟨rfl, hk3⟩
      go_wp2
      go_ret
      exact ⟨rfl, hKK.step ((hk1.step hk2).step hk3)⟩
    · have ok := net_true hb
      have hw := width_true hb
      have HOK := Lib.hid ok
      have hwlt := hw.2.1
      have hw0 := hw.1
      have CW := Lib.hid (fun w' (hK : Keeps w0 w') => iWidthOf_any (A := A) (B := B) (m := m) (c := cA) (mm := mm) (d := cB) (r := r) (L := L) (X := X) (M := M) w' (HN.out.keeps hK))
      rw [hb] at CI CS
      clear hb hw ok
      generalize widthI m L X mm M = wd at *
      refine (CI.out _ (Keeps.refl _)).mono ?_
      rintro e w1 ⟨rfl, hk1⟩
      have c0 := cell_keeps hk1 b0
      have c1 := cell_keeps hk1 b1
      go_wp2_with fail
      refine (CS.out _ hk1).mono ?_
      rintro e w2 ⟨rfl, hk2⟩
      have hK02 := hk1.step hk2
      have C0 := Lib.hid (cell_keeps hk2 c0)
      have C1 := Lib.hid (cell_keeps hk2 c1)
      have HN2 := Lib.hid (HN.out.keeps hK02)
      clear b0 b1 c0 c1 CI CS hk1 hk2 HN
      have d0 := C0.out
      have d1 := C1.out
      go_wp2_with fail
      obtain ⟨wo, rfl⟩ : ∃ wo : World, wo = w2 := ⟨_, rfl⟩
      have hm0 : m ≤ 9223372036854775807 := by omega
      go_loopw [5] (fun i wr => ∃ v : Nat, v ≤ m ∧ i = .int .i64 v ∧ Keeps wo wr) (fun i _ => m - (intOf i).toNat)
      case atStart => exact ⟨0, by omega, rfl, Keeps.refl _⟩
      case round =>
        clear d0 d1
        obtain ⟨v, hv, rfl, hK⟩ := hrel
        have d0 := cell_keeps hK C0.out
        have d1 := cell_keeps hK C1.out
        by_cases hlt : v < m
        · have hvi : (v : Int) < m := by omega
          obtain ⟨⟨bA, oA, rfl, hcA0⟩, hrow⟩ := HN2.out.rows v hlt
          have hcA := cell_keeps hK hcA0
          have hLv := HN2.out.len v hlt
          have hcap := HN2.out.cap v hlt
          have hl8 := HL.out v hlt
          obtain ⟨ra, rn, rc, hrv⟩ : ∃ ra rn rc, r v = (ra, rn, rc) := ⟨_, _, _, rfl⟩
          rw [hrv] at hcA hrow hLv hcap
          dsimp only at hLv hcA hcap
          have HROW := Lib.hid hrow
          have HLV := Lib.hid hLv
          have HCA := Lib.hid hcA0
          rw [hrv] at HCA
          have hrn : rn ≤ 8 := by omega
          clear hLv hrv hcA0 hrow hl8
          go_wp2_with fail
          go_loopw [6] (fun i wi => ∃ p : Nat, p ≤ rn ∧ i = .int .i64 p ∧ Keeps wo wi) (fun i _ => rn - (intOf i).toNat)
          case atStart => exact ⟨0, by omega, rfl, hK⟩
          case round =>
            clear hK d0 d1 hcA
            obtain ⟨p, hp, rfl, hK⟩ := hrel
            have d0 := cell_keeps hK C0.out
            have d1 := cell_keeps hK C1.out
            have hcA := cell_keeps hK HCA.out
            by_cases hltp : p < rn
            · have hpi : (p : Int) < rn := by omega
              obtain ⟨bR, oR, rfl, hcR0⟩ := HROW.out p hltp
              have hcR := cell_keeps hK hcR0
              have hX := HOK.out.port v p hlt (by rw [← HLV.out]; exact hltp)
              have hnode := HOK.out.node v p hlt (by rw [← HLV.out]; exact hltp)
              have HB := Lib.hid (HOK.out.back v p hlt (by rw [← HLV.out]; exact hltp))
              obtain ⟨u, hu⟩ : ∃ u, u = portT X v p := ⟨_, rfl⟩
              rw [← hu] at hX hnode HB
              rw [hX] at hcR
              obtain ⟨⟨_, _, eA, hcU0⟩, hrowU⟩ := HN2.out.rows u hnode
              cases eA
              have hcU := cell_keeps hK hcU0
              have hui : (u : Int) < m := by omega
              have hLu := HN2.out.len u hnode
              have hcapu := HN2.out.cap u hnode
              have CX := Lib.hid (fun w' (kk : Keeps wr w') => lisIn_any (r u).1 (r u).2.1 (r u).2.2 (X u) (v : Int) w' (by omega) (hrowU.keeps (hK.step kk)))
              have HANY : Hid (anyB (fun q => X u q == (v : Int)) (r u).2.1 = true) := Lib.hid (by
                obtain ⟨q, hq, e⟩ := HB.out
                exact (anyB_iff _ _).2 ⟨q, by omega, by have := HOK.out.port u q hnode (by omega); rw [this, e]; simp⟩)
              rw [HANY.out] at CX
              clear hu hX HB hcR0 hcU0 hrowU HANY
              generalize (r u).1 = ua at *
              generalize (r u).2.1 = un at *
              generalize (r u).2.2 = uc at *
              clear hLu
              go_wp2_with fail
              go_quiet ((go_at_call 24; exact Calls.quiet_of_same ((CX.out _ (by first | exact Keeps.refl _ | exact Keeps.drew1 _ | exact Keeps.drewN _ _)).mono fun _ _ h => ⟨h.1, h.2.symm⟩)))
              go_wp2
              go_roundw
              case rel => exact ⟨p + 1, by omega, by go_num, hK.step (Keeps.drewN _ _)⟩
              case measure => simp [intOf]; omega
            · obtain rfl : p = rn := by omega
              go_wp2_with fail
              go_roundw
              case rel => exact ⟨v + 1, by omega, by go_num, hK⟩
              case measure => simp [intOf]; omega
        · obtain rfl : v = m := by omega
          have CW2 := Lib.hid (fun w' (kk : Keeps wr w') => CW.out w' ((hK02.step hK).step kk))
          have hm1i : (1 : Int) ≤ v := by omega
          have hlt1 : wd < max (v : Int) 1 := by omega
          go_wp2_with fail
          go_region_held3 (fun w' => w'.cell? ⟨V, 0, none⟩ = some (.slice A v cA) ∧ w'.cell? ⟨V, 1, none⟩ = some (.slice B mm cB) ∧ Keeps wr w') (first | exact ⟨cell_keeps hk5 g0, cell_keeps hk5 g1, g2.step hk5⟩ | exact ⟨d0, d1, Keeps.drew1 _⟩ | go_keep) ((go_at_call 17; obtain ⟨g0, g1, g2⟩ : _ ∧ _ ∧ _ := (by assumption); refine (CW2.out _ g2).mono ?_; rintro e w5 ⟨rfl, hk5⟩; have hk6 := g2.step hk5))
          all_goals
            go_wp2
            go_ret
            exact ⟨rfl, hKK.step ((hK02.step hK).step hk6)⟩
end Go.Proofs.Ytdjilgbcpdlkfaa
