/-
  The walk of FnWidthOf: whatever the code is, it returns true, and nothing that was there turns. No condition.
-/
import Derived.Test.YtdjilgbcpdlkfaaDrawNet
import Derived.Test.YtdjilgbcpdlkfaaNetFin
import Derived.Test.YtdjilgbcpdlkfaaWidth
import Derived.Deep.RegionHeld3
import Derived.Deep.CutBlock
import Derived.Deep.DeepCutAuto
namespace Go.Proofs.Ytdjilgbcpdlkfaa
open Go.RowKit

set_option maxRecDepth 100000 in
set_option maxHeartbeats 8000000 in
theorem FnWidthOf_walk (a : Option Addr) (n c : Nat) (w : World) (hB : Bytes w w.heap.size a n) (hc : n ≤ c) (hc2 : c ≤ 9223372036854775807) :
    Calls Try.prog 6 #[.slice a n c] w fun e w' => e = .returned (.bool true) ∧ Keeps w w' := by
  have HB := Lib.hid hB
  clear hB
  by_cases hn : 1048576 < n
  · go_enter Try.func6, Try.ntmps6
    go_wp2
    go_ret
    exact ⟨rfl, Keeps.refl _⟩
  · go_enter Try.func6, Try.ntmps6
    go_wp2_with fail
    refine (drawWidthOf_any a n c _ HB.out (by omega) hc hc2).mono ?_
    rintro e w1 ⟨m, mm, A, B, cA, cB, r, L, X, M, rfl, hN, hL, hm1, hm6, hmm, hK1⟩
    have kk := Keeps.alloc w1 (.cells #[.slice A m cA, .slice B mm cB] 27)
    have b0 := box0 w1 (.slice A m cA) (.slice B mm cB) 27
    have b1 := box1 w1 (.slice A m cA) (.slice B mm cB) 27
    have HL := Lib.hid hL
    have HN := Lib.hid (hN.keeps kk)
    have hKK := hK1.step kk
    clear hN hL hK1 kk
    go_wp2_with fail
    generalize hw0 : w1.alloc (.cells #[.slice A m cA, .slice B mm cB] 27) = w0 at *
    generalize hV : w1.heap.size = V at *
    clear hw0 hV w1
    have CI := Lib.hid (fun w' (hK : Keeps w0 w') => iWidthOf_any (A := A) (B := B) (m := m) (c := cA) (mm := mm) (d := cB) (r := r) (L := L) (X := X) (M := M) w' (HN.out.keeps hK))
    have CS := Lib.hid (fun w' (hK : Keeps w0 w') => sWidthOf_any (A := A) (B := B) (m := m) (c := cA) (mm := mm) (d := cB) (r := r) (L := L) (X := X) (M := M) w' (HN.out.keeps hK))
    cases hb : netB m L X mm M
    · have hw : widthI m L X mm M = -1 := by unfold widthI; rw [hb]; rfl
      rw [hw] at CI CS
      clear hb hw
      refine (CI.out _ (Keeps.refl _)).mono ?_
      rintro e w1 ⟨rfl, hk1⟩
      have c0 := cell_keeps hk1 b0
      have c1 := cell_keeps hk1 b1
      go_wp2_with fail
      refine (CS.out _ hk1).mono ?_
      rintro e w2 ⟨rfl, hk2⟩
      have d0 := cell_keeps hk2 c0
      have d1 := cell_keeps hk2 c1
      go_wp2_with fail
      refine (CS.out _ (hk1.step hk2)).mono ?_
      rintro e w3 ⟨rfl, hk3⟩
      go_wp2
      go_ret
      exact ⟨rfl, hKK.step ((hk1.step hk2).step hk3)⟩
    · have hw := width_true hb
      have HW := Lib.hid hw
      have hw0 := hw.1
      have hwlt := hw.2.1
      have HB := Lib.hid hb
      clear hb hw
      have CF := Lib.hid (fun (s : Nat) w' (hK : Keeps w0 w') => iFarsOf_any (A := A) (B := B) (m := m) (c := cA) (mm := mm) (d := cB) (r := r) (L := L) (X := X) (M := M) (s : Int) w' (HN.out.keeps hK))
      generalize widthI m L X mm M = wd at *
      refine (CI.out _ (Keeps.refl _)).mono ?_
      rintro e w1 ⟨rfl, hk1⟩
      have c0 := cell_keeps hk1 b0
      have c1 := cell_keeps hk1 b1
      have hwn : (wd < 0) = False := by simp; omega
      go_wp2_with fail
      refine (CS.out _ hk1).mono ?_
      rintro e w2 ⟨rfl, hk2⟩
      have hK02 := hk1.step hk2
      have C0 := Lib.hid (cell_keeps hk2 c0)
      have C1 := Lib.hid (cell_keeps hk2 c1)
      clear b0 b1 c0 c1 CI CS hk1 hk2 HN hwn
      have d0 := C0.out
      have d1 := C1.out
      go_wp2_with fail
      obtain ⟨wo, rfl⟩ : ∃ wo : World, wo = w2 := ⟨_, rfl⟩
      have hm0 : m ≤ 9223372036854775807 := by omega
      go_loopw [5, 6] (fun g i wr => ∃ v : Nat, v ≤ m ∧ i = .int .i64 v ∧ g = .bool (anyB (fun s => anyB (fun x => farF m L (portT X) s x == wd) m) v) ∧ Keeps wo wr) (fun _ i _ => m - (intOf i).toNat)
      case atStart => exact ⟨0, by omega, rfl, rfl, Keeps.refl _⟩
      case round =>
        clear d0 d1
        obtain ⟨v, hv, rfl, rfl, hK⟩ := hrel
        have d0 := cell_keeps hK C0.out
        have d1 := cell_keeps hK C1.out
        by_cases hlt : v < m
        · have hvi : (v : Int) < m := by omega
          have hlist : farsL m L X mm M v = il m (farF m L (portT X) v) := by
            unfold farsL nodeB
            rw [HB.out, inB_mk (show (0 : Int) ≤ (v : Int) by omega) (by omega)]
            rfl
          have HSTEP := Lib.hid (show anyB (fun s => anyB (fun x => farF m L (portT X) s x == wd) m) (v + 1) = (anyB (fun s => anyB (fun x => farF m L (portT X) s x == wd) m) v || anyB (fun x => farF m L (portT X) v x == wd) m) from rfl)
          have HMAX := Lib.hid (fun x hx => HW.out.2.2.1 v x hlt hx)
          generalize anyB (fun s => anyB (fun x => farF m L (portT X) s x == wd) m) v = g at *
          generalize farF m L (portT X) v = far at *
          have CF2 := Lib.hid (CF.out v wr (hK02.step hK))
          rw [hlist] at CF2
          clear hlist
          go_wp2_with fail
          refine CF2.out.mono ?_
          rintro e w3 hG
          obtain ⟨gA, gc, rfl, hO, hk3⟩ := hG
          have hl : (il m far).length = m := il_len m far
          rw [hl] at hO ⊢
          obtain ⟨g0, rfl⟩ := hO.at hm1
          have HO := Lib.hid hO
          have e0 := cell_keeps hk3 d0
          have e1 := cell_keeps hk3 d1
          have hK3 := hK.step hk3
          clear hO hl hK hk3 CF2 d0 d1
          go_wp2_with fail
          go_loop [5, 8] (fun b i => ∃ u : Nat, u ≤ m ∧ i = .int .i64 u ∧ b = .bool (g || anyB (fun x => far x == wd) u)) (fun _ i => m - (intOf i).toNat)
          case atStart => exact ⟨0, by omega, rfl, by simp [anyB]⟩
          case round =>
            obtain ⟨u, hu, rfl, rfl⟩ := hrel
            by_cases hltu : u < m
            · have hui : (u : Int) < m := by omega
              have hcu := HO.out.cell u hltu
              rw [il_getD m far u hltu] at hcu
              have hmax := HMAX.out u hltu
              have HS2 := Lib.hid (show anyB (fun x => far x == wd) (u + 1) = (anyB (fun x => far x == wd) u || (far u == wd)) from rfl)
              have hng : ¬ wd < far u := by omega
              generalize anyB (fun x => far x == wd) u = h at *
              generalize far u = fu at *
              cases hg : g || h
              · go_wp2
                go_round
                case rel => exact ⟨u + 1, by omega, by go_num, by rw [HS2.out, ← Bool.or_assoc, hg]; simp⟩
                case measure => simp [intOf]; omega
              · go_wp2
                go_round
                case rel => exact ⟨u + 1, by omega, by go_num, by rw [HS2.out, ← Bool.or_assoc, hg]; simp⟩
                case measure => simp [intOf]; omega
            · obtain rfl : u = m := by omega
              go_wp2_with fail
              go_roundw
              case rel => exact ⟨v + 1, by omega, by go_num, by rw [HSTEP.out], hK3⟩
              case measure => simp [intOf]; omega
        · obtain rfl : v = m := by omega
          have HT : Hid (anyB (fun s => anyB (fun x => farF v L (portT X) s x == wd) v) v = true) := Lib.hid (by
            obtain ⟨s, x, hs, hx, e⟩ := HW.out.2.2.2
            exact (anyB_iff _ _).2 ⟨s, hs, (anyB_iff _ _).2 ⟨x, hx, by rw [e]; simp⟩⟩)
          rw [HT.out]
          go_wp2
          go_ret
          exact ⟨rfl, hKK.step (hK02.step hK)⟩
end Go.Proofs.Ytdjilgbcpdlkfaa
