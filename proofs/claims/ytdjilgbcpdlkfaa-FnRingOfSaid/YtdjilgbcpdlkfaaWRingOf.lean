/-
  The walk of FnRingOf: whatever the code is, it returns true, and nothing that was there turns. No condition.
-/
import Derived.Test.YtdjilgbcpdlkfaaDrawRing
import Derived.Test.YtdjilgbcpdlkfaaIRing
import Derived.Test.YtdjilgbcpdlkfaaClsLaw
import Derived.Deep.CutBlock
import Derived.Deep.DeepCutAuto
namespace Go.Proofs.Ytdjilgbcpdlkfaa
open Go.RowKit

theorem net_none (w : World) : NetAt w none 0 (fun _ => (none, 0, 0)) none 0 (fun _ => 0) (fun _ _ => 0) (fun _ => 0) :=
  ⟨fun _ h => absurd h (Nat.not_lt_zero _), fun _ h => absurd h (Nat.not_lt_zero _), fun _ h => absurd h (Nat.not_lt_zero _), fun _ h => absurd h (Nat.not_lt_zero _), by omega, by omega⟩
set_option maxRecDepth 100000 in
set_option maxHeartbeats 8000000 in
theorem FnRingOf_walk (a : Option Addr) (n c : Nat) (w : World) (hB : Bytes w w.heap.size a n) (hc : n ≤ c) (hc2 : c ≤ 9223372036854775807) :
    Calls Try.prog 3 #[.slice a n c] w fun e w' => e = .returned (.bool true) ∧ Keeps w w' := by
  have HB := Lib.hid hB
  clear hB
  by_cases hn : 1048576 < n
  · go_enter Try.func3, Try.ntmps3
    go_wp2
    go_ret
    exact ⟨rfl, Keeps.refl _⟩
  · go_enter Try.func3, Try.ntmps3
    go_wp2_with fail
    refine (drawRingOf_any a n c _ HB.out (by omega) hc hc2).mono ?_
    rintro e w0 ⟨m, g, cg, l, rfl, hm7, hO, hK0⟩
    have HO := Lib.hid hO.ints
    clear hO
    generalize (fun i => l.getD i 0) = M at *
    have CI := Lib.hid (iRingOf_any (some ⟨g, 0, none⟩) m cg M w0 (by omega) HO.out)
    have CS := Lib.hid (fun w' (kk : Keeps w0 w') => sRingOf_any (some ⟨g, 0, none⟩) m cg M w' (by omega) (HO.out.keeps kk))
    go_wp2_with fail
    refine CI.out.mono ?_
    intro e w1 hR
    rcases hR with ⟨hf, rfl, hk1⟩ | ⟨ht, A, B, cA, cB, r, rfl, hN, hk1⟩
    · have HF := Lib.hid hf
      have kB := Keeps.alloc w1 (.cells #[.slice none 0 0, .slice none 0 0] 27)
      have b0 := box0 w1 (.slice none 0 0) (.slice none 0 0) 27
      have b1 := box1 w1 (.slice none 0 0) (.slice none 0 0) 27
      have hK1 := hk1.step kB
      clear hf hk1 kB CI
      go_wp2_with fail
      generalize hw2 : w1.alloc (.cells #[.slice none 0 0, .slice none 0 0] 27) = w2 at *
      generalize w1.heap.size = V at *
      refine (CS.out _ hK1).mono ?_
      intro e w3 hR
      rcases hR with ⟨_, rfl, hk3⟩ | ⟨ht, _⟩
      · have kC := Keeps.alloc w3 (.cells #[.slice none 0 0, .slice none 0 0] 27)
        have c0 := cell_keeps (hk3.step kC) b0
        have c1 := cell_keeps (hk3.step kC) b1
        have d0 := box0 w3 (.slice none 0 0) (.slice none 0 0) 27
        have d1 := box1 w3 (.slice none 0 0) (.slice none 0 0) 27
        have hK3 := (hK1.step hk3).step kC
        clear hk3 kC b0 b1 hK1 hw2
        go_wp2_with fail
        refine (eNet_true none none none none 0 0 0 0 0 0 _ _ _ _ _ _ (by omega) (by omega) (fun _ h => absurd h (Nat.not_lt_zero _)) (net_none _) (net_none _)).mono ?_
        rintro e w4 ⟨rfl, hk4⟩
        have e0 := cell_keeps hk4 c0
        have e1 := cell_keeps hk4 c1
        have f0 := cell_keeps hk4 d0
        have f1 := cell_keeps hk4 d1
        go_wp2_with fail
        refine (eNet_true none none none none 0 0 0 0 0 0 _ _ _ _ _ _ (by omega) (by omega) (fun _ h => absurd h (Nat.not_lt_zero _)) (net_none _) (net_none _)).mono ?_
        rintro e w5 ⟨rfl, hk5⟩
        go_wp2
        go_ret
        exact ⟨rfl, hK0.step ((hK3.step hk4).step hk5)⟩
      · rw [HF.out] at ht
        cases ht
    · have h36 : 3 ≤ m ∧ m ≤ 6 := by
        have : inB m 3 6 = true := by unfold ringOkB at ht; rw [Bool.and_eq_true] at ht; exact ht.1
        have := inB_true this
        omega
      have hnb : netB m (fun _ => 2) (ringX m) m M = true := by
        rw [ring_net m M h36.1 h36.2]
        unfold ringOkB at ht
        rw [Bool.and_eq_true] at ht
        exact ht.2
      have hwd := ring_width m M h36.1 h36.2 hnb
      have HT := Lib.hid ht
      have kB := Keeps.alloc w1 (.cells #[.slice A m cA, .slice B m cB] 27)
      have b0 := box0 w1 (.slice A m cA) (.slice B m cB) 27
      have b1 := box1 w1 (.slice A m cA) (.slice B m cB) 27
      have hK1 := hk1.step kB
      have HN := Lib.hid (hN.keeps kB)
      have CV := Lib.hid (fun w' (kk : Keeps (w1.alloc (.cells #[.slice A m cA, .slice B m cB] 27)) w') => validNet_any A B m cA m cB r (fun _ => 2) (ringX m) M w' (HN.out.keeps kk))
      have CW := Lib.hid (fun w' (kk : Keeps (w1.alloc (.cells #[.slice A m cA, .slice B m cB] 27)) w') => iWidthOf_any (A := A) (B := B) (m := m) (c := cA) (mm := m) (d := cB) (r := r) (L := fun _ => 2) (X := ringX m) (M := M) w' (HN.out.keeps kk))
      rw [hnb] at CV
      obtain ⟨hd, hdE⟩ : ∃ hd : Int, hd = ((m / 2 : Nat) : Int) := ⟨_, rfl⟩
      rw [hwd, ← hdE] at CW
      have HD : Hid (hd = ((m / 2 : Nat) : Int)) := Lib.hid hdE
      clear ht hk1 kB CI hN hnb hwd hdE
      go_wp2_with fail
      generalize hw2 : w1.alloc (.cells #[.slice A m cA, .slice B m cB] 27) = w2 at *
      generalize w1.heap.size = V at *
      refine (CS.out _ hK1).mono ?_
      intro e w3 hR
      rcases hR with ⟨hf, _⟩ | ⟨_, A', B', cA', cB', rfl, hOR, hOI, _, hk3⟩
      · rw [HT.out] at hf
        cases hf
      · obtain ⟨r', hN'⟩ := ring_netNew hOR hOI (by omega)
        have kC := Keeps.alloc w3 (.cells #[.slice A' m cA', .slice B' m cB'] 27)
        have c0 := cell_keeps (hk3.step kC) b0
        have c1 := cell_keeps (hk3.step kC) b1
        have d0 := box0 w3 (.slice A' m cA') (.slice B' m cB') 27
        have d1 := box1 w3 (.slice A' m cA') (.slice B' m cB') 27
        have hk2 := hk3.step kC
        have CE := Lib.hid (eNet_true A B A' B' m cA m cB cA' cB' r r' (fun _ => 2) (ringX m) M _ (by omega) (by omega) (fun _ _ => by omega) (HN.out.keeps hk2) (hN'.net.keeps kC))
        clear hk3 kC b0 b1 hOR hOI hN' hw2
        go_wp2_with fail
        refine CE.out.mono ?_
        rintro e w4 ⟨rfl, hk4⟩
        have E0 := Lib.hid (cell_keeps hk4 c0)
        have E1 := Lib.hid (cell_keeps hk4 c1)
        have hk24 := hk2.step hk4
        have hK4 := hK1.step hk24
        have HN4 := Lib.hid (HN.out.keeps hk24)
        clear c0 c1 d0 d1 CE hk4 hk2 CS
        have e0 := E0.out
        go_wp2_with fail
        obtain ⟨wo, rfl⟩ : ∃ wo : World, wo = w4 := ⟨_, rfl⟩
        clear e0
        go_loopw [8] (fun i wr => ∃ v : Nat, v ≤ m ∧ i = .int .i64 v ∧ Keeps wo wr) (fun i _ => m - (intOf i).toNat)
        case atStart => exact ⟨0, by omega, rfl, Keeps.refl _⟩
        case round =>
          obtain ⟨v, hv, rfl, hK⟩ := hrel
          have e0 := cell_keeps hK E0.out
          have e1 := cell_keeps hK E1.out
          by_cases hlt : v < m
          · have hvi : (v : Int) < m := by omega
            obtain ⟨⟨bA, oA, rfl, hcA0⟩, _⟩ := HN4.out.rows v hlt
            have hcA := cell_keeps hK hcA0
            have hLv := HN4.out.len v hlt
            rw [hLv] at hcA
            clear hcA0 hLv
            go_wp2
            go_roundw
            case rel => exact ⟨v + 1, by omega, by go_num, hK⟩
            case measure => simp [intOf]; omega
          · obtain rfl : v = m := by omega
            have hKr := hk24.step hK
            go_wp2_with fail
            refine (CV.out _ hKr).mono ?_
            rintro e w5 ⟨rfl, hk5⟩
            have g0 := cell_keeps hk5 e0
            have g1 := cell_keeps hk5 e1
            go_wp2_with fail
            refine (CW.out _ (hKr.step hk5)).mono ?_
            rintro e w6 ⟨rfl, hk6⟩
            have i0 := cell_keeps hk6 g0
            have i1 := cell_keeps hk6 g1
            have CE := Lib.hid (eInts_true B (some ⟨g, 0, none⟩) v cB cg M M w6 (by omega) (((HN4.out.keeps hK).keeps (hk5.step hk6)).marks) (HO.out.keeps ((hK4.step hK).step (hk5.step hk6))) (fun _ _ => rfl))
            have hq : ((v : Int) / 2) = hd := by have := HD.out; omega
            go_wp2_with fail
            refine CE.out.mono ?_
            rintro e w7 ⟨rfl, hk7⟩
            go_wp2
            go_ret
            exact ⟨rfl, hK0.step ((((hK4.step hK).step hk5).step hk6).step hk7)⟩
end Go.Proofs.Ytdjilgbcpdlkfaa
