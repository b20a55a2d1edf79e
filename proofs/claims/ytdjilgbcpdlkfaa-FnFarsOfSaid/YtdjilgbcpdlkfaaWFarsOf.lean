/-
  The walk of FnFarsOf: whatever the code is, it returns true, and nothing that was there turns. No condition.
-/
import Derived.Test.YtdjilgbcpdlkfaaDrawNet
import Derived.Test.YtdjilgbcpdlkfaaNetFin
import Derived.Test.YtdjilgbcpdlkfaaWidth
import Derived.Test.YtdjilgbcpdlkfaaEq
import Derived.Test.YtdjilgbcpdlkfaaHeld
import Derived.Deep.RegionHeld3
import Derived.Deep.CutBlock
import Derived.Deep.DeepCutAuto
namespace Go.Proofs.Ytdjilgbcpdlkfaa
open Go.RowKit

set_option maxRecDepth 100000 in
set_option maxHeartbeats 8000000 in
theorem FnFarsOf_walk (a : Option Addr) (n c : Nat) (w : World) (hB : Bytes w w.heap.size a n) (hc : n ≤ c) (hc2 : c ≤ 9223372036854775807) :
    Calls Try.prog 4 #[.slice a n c] w fun e w' => e = .returned (.bool true) ∧ Keeps w w' := by
  have HB := Lib.hid hB
  clear hB
  by_cases hn : 1048576 < n
  · go_enter Try.func4, Try.ntmps4
    go_wp2
    go_ret
    exact ⟨rfl, Keeps.refl _⟩
  · go_enter Try.func4, Try.ntmps4
    go_wp2_with fail
    refine (drawFarsOf_any a n c _ HB.out (by omega) hc hc2).mono ?_
    rintro e w1 ⟨m, mm, A, B, cA, cB, r, L, X, M, s, rfl, hN, hL, hm1, hm6, hmm, hs1, hs2, hK1⟩
    have kk := Keeps.alloc w1 (.cells #[.slice A m cA, .slice B mm cB] 27)
    have b0 := box0 w1 (.slice A m cA) (.slice B mm cB) 27
    have b1 := box1 w1 (.slice A m cA) (.slice B mm cB) 27
    have HL := Lib.hid hL
    have HN := Lib.hid (hN.keeps kk)
    have hKK := hK1.step kk
    clear hN hL hK1 kk
    go_wp2_with fail
    generalize hw0 : w1.alloc (.cells #[.slice A m cA, .slice B mm cB] 27) = w0 at *
    generalize hV : w1.heap.size = V at *
    clear hw0 hV w1
    have CI := Lib.hid (fun (s : Int) w' (hK : Keeps w0 w') => iFarsOf_any (A := A) (B := B) (m := m) (c := cA) (mm := mm) (d := cB) (r := r) (L := L) (X := X) (M := M) s w' (HN.out.keeps hK))
    have CS := Lib.hid (fun w' (hK : Keeps w0 w') => sFarsOf_any (A := A) (B := B) (m := m) (c := cA) (mm := mm) (d := cB) (r := r) (L := L) (X := X) (M := M) s w' (HN.out.keeps hK))
    refine (CI.out _ _ (Keeps.refl _)).mono ?_
    rintro e w1 ⟨oA, oc, rfl, hO, hk1⟩
    have c0 := cell_keeps hk1 b0
    have c1 := cell_keeps hk1 b1
    have hlen := farsL_len m L X mm M s
    go_wp2_with fail
    refine (CS.out _ hk1).mono ?_
    rintro e w2 ⟨pA, pc, rfl, hP, hk2⟩
    have hO2 := hO.keeps hk2
    have HE := Lib.hid (fun w' (kk : Keeps w2 w') => eInts_true oA pA (farsL m L X mm M s).length oc pc _ _ w' (by omega) ((hO2.keeps kk).ints) ((hP.keeps kk).ints) (fun _ _ => rfl))
    have d0 := cell_keeps hk2 c0
    have d1 := cell_keeps hk2 c1
    have hK02 := hk1.step hk2
    clear c0 c1 hk1 hk2 b0 b1 hO hP
    go_wp2_with fail
    refine (HE.out _ (Keeps.refl _)).mono ?_
    rintro e w3 ⟨rfl, hk3⟩
    have e0 := cell_keeps hk3 d0
    have e1 := cell_keeps hk3 d1
    have hO3 := hO2.keeps hk3
    have hK03 := hK02.step hk3
    clear d0 d1 hO2 hK02 HE hk3
    cases hb : nodeB m L X mm M s
    · have hl : farsL m L X mm M s = [] := by unfold farsL; rw [hb]; rfl
      rw [hl] at hO3 CS ⊢
      have hO4 := Lib.hid hO3
      clear hO3 hl hb
      simp only [List.length_nil] at *
      go_wp2_with fail
      refine (CS.out _ hK03).mono ?_
      rintro e w4 ⟨qA, qc, rfl, hQ, hk4⟩
      have HE4 := Lib.hid (eInts_true oA qA 0 oc qc _ _ w4 (by omega) ((hO4.out.keeps hk4).ints) hQ.ints (fun _ h => absurd h (Nat.not_lt_zero _)))
      clear hQ
      go_wp2_with fail
      refine HE4.out.mono ?_
      rintro e w5 ⟨rfl, hk5⟩
      go_wp2
      go_ret
      exact ⟨rfl, hKK.step ((hK03.step hk4).step hk5)⟩
    · obtain ⟨hnb, k, rfl, hkm⟩ := node_true hb
      have HNB := Lib.hid hnb
      have HOK := Lib.hid (net_true hnb)
      have hl : farsL m L X mm M k = il m (farF m L (portT X) k) := by unfold farsL; rw [hb]; rfl
      have hll : (farsL m L X mm M k).length = m := by rw [hl]; exact il_len _ _
      rw [hll] at hO3 ⊢
      rw [hl] at hO3
      obtain ⟨go, rfl⟩ := hO3.at hm1
      have HO3 := Lib.hid hO3
      have HEX : Hid (∀ v, v < m → farF m L (portT X) v k = farF m L (portT X) k v ∧ (farF m L (portT X) k v = 0 ↔ v = k) ∧ 0 ≤ farF m L (portT X) k v ∧ farF m L (portT X) k v < m ∧ ∀ p, p < L v → -1 ≤ farF m L (portT X) k (portT X v p) - farF m L (portT X) k v ∧ farF m L (portT X) k (portT X v p) - farF m L (portT X) k v ≤ 1) := Lib.hid (fun v hv => ⟨far_symm HOK.out v k hv hkm, far_zero k v hv, net_far HOK.out k hkm v hv, dist_lt (far_dist m L (portT X) k).pred v hv, fun p hp => far_step HOK.out k v p hkm hv hp⟩)
      have hm0 : ((m : Int) == 0) = false := by simp; omega
      have C0 := Lib.hid e0
      have C1 := Lib.hid e1
      have HN3 := Lib.hid (HN.out.keeps hK03)
      have hki : (k : Int) < m := by omega
      clear hO3 hl hll hb hnb CS HN hlen
      go_wp2_with fail
      obtain ⟨wo, rfl⟩ : ∃ wo : World, wo = w3 := ⟨_, rfl⟩
      clear e0 e1
      go_loopw [6] (fun i wr => ∃ v : Nat, v ≤ m ∧ i = .int .i64 v ∧ Keeps wo wr) (fun i _ => m - (intOf i).toNat)
      case atStart => exact ⟨0, by omega, rfl, Keeps.refl _⟩
      case round =>
        obtain ⟨v, hv, rfl, hK⟩ := hrel
        have d0 := cell_keeps hK C0.out
        have d1 := cell_keeps hK C1.out
        by_cases hlt : v < m
        · have hvi : (v : Int) < m := by omega
          have hov := (HO3.out.keeps hK).cell v hlt
          rw [il_getD m _ v hlt] at hov
          have CF2 := Lib.hid (fun w' (kk : Keeps wr w') => CI.out (v : Int) w' ((hK03.step hK).step kk))
          have hlist := fars_list HNB.out v hlt
          obtain ⟨hsy, hz, hf0, hfm, hst⟩ := HEX.out v hlt
          have HFR : Hid (∀ (e : Ending) (W w5 : World), GiveL (farsL m L X mm M v) W e w5 → ∃ (g5 c5 : Nat), e = .returned (.slice (some ⟨g5, 0, none⟩) m c5) ∧ w5.cell? ⟨g5, k, none⟩ = some (.int .i64 (farF m L (portT X) k v)) ∧ Keeps W w5) := Lib.hid (fun e W w5 h => by
            obtain ⟨g5, c5, h1, h2, h3⟩ := h.get hlist hm1
            have hc := h2.cell k hkm
            rw [il_getD m _ k hkm, hsy] at hc
            exact ⟨g5, c5, h1, hc, h3⟩)
          have HST := Lib.hid hst
          have HFU : Hid (∀ u, u < m → 0 ≤ farF m L (portT X) k u ∧ farF m L (portT X) k u < m) := Lib.hid (fun u hu => ⟨(HEX.out u hu).2.2.1, (HEX.out u hu).2.2.2.1⟩)
          have hzk : (v = k ∧ farF m L (portT X) k v = 0) ∨ (((farF m L (portT X) k v : Int) == 0) = false ∧ ((v : Int) == (k : Int)) = false) := by
            by_cases e : v = k
            · exact .inl ⟨e, hz.2 e⟩
            · refine .inr ⟨?_, ?_⟩
              · rw [beq_eq_false_iff_ne]; exact fun h => e (hz.1 h)
              · simp; omega
          have HSC : Hid (wr.cell? ⟨V, 0, none⟩ = some (.slice A m cA)) := Lib.hid d0
          clear hlist hsy hz hst
          generalize hfv : farF m L (portT X) k v = fv at *
          clear hfv
          have HFIN : Hid ((fv != fv) = false) := Lib.hid (by simp)
          obtain ⟨⟨bA, oA, eA, hcA0⟩, hrow⟩ := HN3.out.rows v hlt
          have hLv := HN3.out.len v hlt
          have hcap := HN3.out.cap v hlt
          have hl8 := HL.out v hlt
          obtain ⟨ra, rn, rc, hrv⟩ : ∃ ra rn rc, r v = (ra, rn, rc) := ⟨_, _, _, rfl⟩
          rw [hrv] at hcA0 hrow hLv hcap
          dsimp only at hLv hcA0 hcap
          have HROW := Lib.hid hrow
          have HLV := Lib.hid hLv
          have HCA := Lib.hid hcA0
          have HEA := Lib.hid eA
          have hrn : rn ≤ 8 := by omega
          have HOV := Lib.hid ((HO3.out.keeps hK).cell v hlt)
          clear hLv hrv hcA0 hrow hl8 eA
          go_upto_region 11 with fail
          go_cut [63] (fun s wx => s = .bool false ∧ Keeps wr wx)
          case first =>
            rcases hzk with ⟨rfl, rfl⟩ | ⟨hz1, hz2⟩
            · go_wp2_with fail
              refine wp_region_held_drew (S := fun w' => w'.cell? ⟨V, 0, none⟩ = some (.slice A m cA) ∧ w'.cell? ⟨V, 1, none⟩ = some (.slice B mm cB) ∧ w'.cell? ⟨go, v, none⟩ = some (.int .i64 0) ∧ Keeps wr w') (by kernel_rfl) (⟨d0, d1, hov, Keeps.drew1 _⟩) (fun hHeld => ?_)
              refine take_d 0 (some 42) (v := ?_) rfl (by kernel_rfl) (by kernel_rfl) (by kernel_rfl) (fun _ _ _ h => h) rfl (Or.inl ⟨by rfl, ?_⟩) (by assumption) ?_
              rotate_left
              (focus ((intro w hSw; (try dsimp only at hSw); go_simp); try (with_reducible rfl)))
              try simp only [Act.put, List.setIfInBounds_toArray, List.set_cons_zero, List.set_cons_succ]
              refine take_d 1 (some 43) (v := ?_) rfl (by kernel_rfl) (by kernel_rfl) (by kernel_rfl) (fun _ _ _ h => h) rfl (Or.inl ⟨by rfl, ?_⟩) (by assumption) ?_
              rotate_left
              (focus ((intro w hSw; (try dsimp only at hSw); go_simp); try (with_reducible rfl)))
              try simp only [Act.put, List.setIfInBounds_toArray, List.set_cons_zero, List.set_cons_succ]
              refine take_d 3 (some 45) (v := ?_) rfl (by kernel_rfl) (by kernel_rfl) (by kernel_rfl) (fun _ _ _ h => h) rfl (Or.inl ⟨by rfl, ?_⟩) (by assumption) ?_
              rotate_left
              (focus ((intro w hSw; (try dsimp only at hSw); go_simp); try (with_reducible rfl)))
              try simp only [Act.put, List.setIfInBounds_toArray, List.set_cons_zero, List.set_cons_succ]
              refine take_d 6 (some 48) (v := ?_) rfl (by kernel_rfl) (by kernel_rfl) (by kernel_rfl) (fun _ _ _ h => h) rfl (Or.inl ⟨by rfl, ?_⟩) (by assumption) ?_
              rotate_left
              (focus ((intro w hSw; (try dsimp only at hSw); go_simp); try (with_reducible rfl)))
              try simp only [Act.put, List.setIfInBounds_toArray, List.set_cons_zero, List.set_cons_succ]
              refine take_d 7 (some 49) (v := ?_) rfl (by kernel_rfl) (by kernel_rfl) (by kernel_rfl) (fun _ _ _ h => h) rfl (Or.inl ⟨by rfl, ?_⟩) (by assumption) ?_
              rotate_left
              (focus ((intro w hSw; (try dsimp only at hSw); go_simp); try (with_reducible rfl)))
              try simp only [Act.put, List.setIfInBounds_toArray, List.set_cons_zero, List.set_cons_succ]
              refine take_d 8 (some 50) (v := ?_) rfl (by kernel_rfl) (by kernel_rfl) (by kernel_rfl) (fun _ _ _ h => h) rfl (Or.inl ⟨by rfl, ?_⟩) (by assumption) ?_
              rotate_left
              (focus ((intro w hSw; (try dsimp only at hSw); go_simp); try (with_reducible rfl)))
              try simp only [Act.put, List.setIfInBounds_toArray, List.set_cons_zero, List.set_cons_succ]
              refine take_d 9 (some 51) (v := ?_) rfl (by kernel_rfl) (by kernel_rfl) (by kernel_rfl) (fun _ _ _ h => h) rfl (Or.inl ⟨by rfl, ?_⟩) (by assumption) ?_
              rotate_left
              (focus ((intro w hSw; (try dsimp only at hSw); go_simp); try (with_reducible rfl)))
              try simp only [Act.put, List.setIfInBounds_toArray, List.set_cons_zero, List.set_cons_succ]
              refine call_d 2 (some 44) 20 #[.tmp 42, .tmp 43] #[27, 3] rfl (by kernel_rfl) rfl rfl rfl (fun _ _ => rfl) (by simp [Act.eval]) (CF2.out _ (Keeps.drew1 _)) ?_
              intro e w5 hG
              obtain ⟨g5, c5, rfl, hc5, hk5⟩ := HFR.out _ _ _ hG
              clear hG
              refine ⟨_, rfl, ⟨cell_keeps hk5 hHeld.1, cell_keeps hk5 hHeld.2.1, cell_keeps hk5 hHeld.2.2.1, hHeld.2.2.2.step hk5⟩, ?_⟩
              have hHeld2 : (fun w' => w'.cell? ⟨V, 0, none⟩ = some (.slice A m cA) ∧ w'.cell? ⟨V, 1, none⟩ = some (.slice B mm cB) ∧ w'.cell? ⟨go, v, none⟩ = some (.int .i64 0) ∧ Keeps wr w') _ := ⟨cell_keeps hk5 hHeld.1, cell_keeps hk5 hHeld.2.1, cell_keeps hk5 hHeld.2.2.1, hHeld.2.2.2.step hk5⟩
              clear hHeld
              refine wpAnyH_change (S' := fun w' => (fun w' => w'.cell? ⟨V, 0, none⟩ = some (.slice A m cA) ∧ w'.cell? ⟨V, 1, none⟩ = some (.slice B mm cB) ∧ w'.cell? ⟨go, v, none⟩ = some (.int .i64 0) ∧ Keeps wr w') w' ∧ w'.cell? ⟨g5, v, none⟩ = some (.int .i64 0)) (fun _ h => h.1) _ _ _ _ ?_
              have hHeld : (fun w' => (fun w' => w'.cell? ⟨V, 0, none⟩ = some (.slice A m cA) ∧ w'.cell? ⟨V, 1, none⟩ = some (.slice B mm cB) ∧ w'.cell? ⟨go, v, none⟩ = some (.int .i64 0) ∧ Keeps wr w') w' ∧ w'.cell? ⟨g5, v, none⟩ = some (.int .i64 0)) _ := ⟨hHeld2, hc5⟩
              clear hHeld2
              try simp only [Act.put, List.setIfInBounds_toArray, List.set_cons_zero, List.set_cons_succ]
              refine take_d 4 (some 46) (v := ?_) rfl (by kernel_rfl) (by kernel_rfl) (by kernel_rfl) (fun _ _ _ h => h) rfl (Or.inl ⟨by rfl, ?_⟩) (by assumption) ?_
              rotate_left
              (focus ((intro w hSw; (try dsimp only at hSw); go_simp); try (with_reducible rfl)))
              try simp only [Act.put, List.setIfInBounds_toArray, List.set_cons_zero, List.set_cons_succ]
              refine take_d 5 (some 47) (v := ?_) rfl (by kernel_rfl) (by kernel_rfl) (by kernel_rfl) (fun _ _ _ h => h) rfl (Or.inl ⟨by rfl, ?_⟩) (by assumption) ?_
              rotate_left
              (focus ((intro w hSw; (try dsimp only at hSw); go_simp); try (with_reducible rfl)))
              try simp only [Act.put, List.setIfInBounds_toArray, List.set_cons_zero, List.set_cons_succ]
              refine take_d 10 (some 52) (v := ?_) rfl (by kernel_rfl) (by kernel_rfl) (by kernel_rfl) (fun _ _ _ h => h) rfl (Or.inl ⟨by rfl, ?_⟩) (by assumption) ?_
              rotate_left
              (focus ((intro w hSw; (try dsimp only at hSw); go_simp); try (with_reducible rfl)))
              try simp only [Act.put, List.setIfInBounds_toArray, List.set_cons_zero, List.set_cons_succ]
              refine take_d 11 (some 53) (v := ?_) rfl (by kernel_rfl) (by kernel_rfl) (by kernel_rfl) (fun _ _ _ h => h) rfl (Or.inl ⟨by rfl, ?_⟩) (by assumption) ?_
              rotate_left
              (focus ((intro w hSw; (try dsimp only at hSw); go_simp); try (with_reducible rfl)))
              try simp only [Act.put, List.setIfInBounds_toArray, List.set_cons_zero, List.set_cons_succ]
              refine take_d 12 (some 54) (v := ?_) rfl (by kernel_rfl) (by kernel_rfl) (by kernel_rfl) (fun _ _ _ h => h) rfl (Or.inl ⟨by rfl, ?_⟩) (by assumption) ?_
              rotate_left
              (focus ((intro w hSw; (try dsimp only at hSw); go_simp); try (with_reducible rfl)))
              try simp only [Act.put, List.setIfInBounds_toArray, List.set_cons_zero, List.set_cons_succ]
              refine take_d 13 (some 55) (v := ?_) rfl (by kernel_rfl) (by kernel_rfl) (by kernel_rfl) (fun _ _ _ h => h) rfl (Or.inl ⟨by rfl, ?_⟩) (by assumption) ?_
              rotate_left
              (focus ((intro w hSw; (try dsimp only at hSw); go_simp); try (with_reducible rfl)))
              try simp only [Act.put, List.setIfInBounds_toArray, List.set_cons_zero, List.set_cons_succ]
              refine take_d 14 (some 56) (v := ?_) rfl (by kernel_rfl) (by kernel_rfl) (by kernel_rfl) (fun _ _ _ h => h) rfl (Or.inl ⟨by rfl, ?_⟩) (by assumption) ?_
              rotate_left
              (focus ((intro w hSw; (try dsimp only at hSw); go_simp); try (with_reducible rfl)))
              try simp only [Act.put, List.setIfInBounds_toArray, List.set_cons_zero, List.set_cons_succ]
              refine take_d 15 (some 57) (v := ?_) rfl (by kernel_rfl) (by kernel_rfl) (by kernel_rfl) (fun _ _ _ h => h) rfl (Or.inl ⟨by rfl, ?_⟩) (by assumption) ?_
              rotate_left
              (focus ((intro w hSw; (try dsimp only at hSw); go_simp); try (with_reducible rfl)))
              try simp only [Act.put, List.setIfInBounds_toArray, List.set_cons_zero, List.set_cons_succ]
              refine take_d 16 (some 58) (v := ?_) rfl (by kernel_rfl) (by kernel_rfl) (by kernel_rfl) (fun _ _ _ h => h) rfl (Or.inl ⟨by rfl, ?_⟩) (by assumption) ?_
              rotate_left
              (focus ((intro w hSw; (try dsimp only at hSw); go_simp); try (with_reducible rfl)))
              try simp only [Act.put, List.setIfInBounds_toArray, List.set_cons_zero, List.set_cons_succ]
              refine take_d 17 (some 59) (v := ?_) rfl (by kernel_rfl) (by kernel_rfl) (by kernel_rfl) (fun _ _ _ h => h) rfl (Or.inl ⟨by rfl, ?_⟩) (by assumption) ?_
              rotate_left
              (focus ((intro w hSw; (try dsimp only at hSw); go_simp); try (with_reducible rfl)))
              try simp only [Act.put, List.setIfInBounds_toArray, List.set_cons_zero, List.set_cons_succ]
              refine take_d 18 (some 60) (v := ?_) rfl (by kernel_rfl) (by kernel_rfl) (by kernel_rfl) (fun _ _ _ h => h) rfl (Or.inl ⟨by rfl, ?_⟩) (by assumption) ?_
              rotate_left
              (focus ((intro w hSw; (try dsimp only at hSw); go_simp); try (with_reducible rfl)))
              try simp only [Act.put, List.setIfInBounds_toArray, List.set_cons_zero, List.set_cons_succ]
              refine take_d 19 (some 61) (v := ?_) rfl (by kernel_rfl) (by kernel_rfl) (by kernel_rfl) (fun _ _ _ h => h) rfl (Or.inl ⟨by rfl, ?_⟩) (by assumption) ?_
              rotate_left
              (focus ((intro w hSw; (try dsimp only at hSw); go_simp); try (with_reducible rfl)))
              try simp only [Act.put, List.setIfInBounds_toArray, List.set_cons_zero, List.set_cons_succ]
              refine take_d 20 (some 62) (v := ?_) rfl (by kernel_rfl) (by kernel_rfl) (by kernel_rfl) (fun _ _ _ h => h) rfl (Or.inl ⟨by rfl, ?_⟩) (by assumption) ?_
              rotate_left
              (focus ((intro w hSw; (try dsimp only at hSw); go_simp); try (with_reducible rfl)))
              try simp only [Act.put, List.setIfInBounds_toArray, List.set_cons_zero, List.set_cons_succ]
              refine take_d 21 (some 63) (v := ?_) rfl (by kernel_rfl) (by kernel_rfl) (by kernel_rfl) (fun _ _ _ h => h) rfl (Or.inl ⟨by rfl, ?_⟩) (by assumption) ?_
              rotate_left
              (focus ((intro w hSw; (try dsimp only at hSw); go_simp); try (with_reducible rfl)))
              try simp only [Act.put, List.setIfInBounds_toArray, List.set_cons_zero, List.set_cons_succ]
              refine wpAnyH_done (by kernel_rfl) ?_ _
              have hk6 := hHeld.1.2.2.2
              all_goals
                go_wp2_with fail
                go_meet
                exact ⟨rfl, hk6⟩
            · go_wp2_with fail
              refine wp_region_held_drew (S := fun w' => w'.cell? ⟨V, 0, none⟩ = some (.slice A m cA) ∧ w'.cell? ⟨V, 1, none⟩ = some (.slice B mm cB) ∧ w'.cell? ⟨go, v, none⟩ = some (.int .i64 fv) ∧ Keeps wr w') (by kernel_rfl) (⟨d0, d1, hov, Keeps.drew1 _⟩) (fun hHeld => ?_)
              refine take_d 0 (some 42) (v := ?_) rfl (by kernel_rfl) (by kernel_rfl) (by kernel_rfl) (fun _ _ _ h => h) rfl (Or.inl ⟨by rfl, ?_⟩) (by assumption) ?_
              rotate_left
              (focus ((intro w hSw; (try dsimp only at hSw); go_simp); try (with_reducible rfl)))
              try simp only [Act.put, List.setIfInBounds_toArray, List.set_cons_zero, List.set_cons_succ]
              refine take_d 1 (some 43) (v := ?_) rfl (by kernel_rfl) (by kernel_rfl) (by kernel_rfl) (fun _ _ _ h => h) rfl (Or.inl ⟨by rfl, ?_⟩) (by assumption) ?_
              rotate_left
              (focus ((intro w hSw; (try dsimp only at hSw); go_simp); try (with_reducible rfl)))
              try simp only [Act.put, List.setIfInBounds_toArray, List.set_cons_zero, List.set_cons_succ]
              refine take_d 3 (some 45) (v := ?_) rfl (by kernel_rfl) (by kernel_rfl) (by kernel_rfl) (fun _ _ _ h => h) rfl (Or.inl ⟨by rfl, ?_⟩) (by assumption) ?_
              rotate_left
              (focus ((intro w hSw; (try dsimp only at hSw); go_simp); try (with_reducible rfl)))
              try simp only [Act.put, List.setIfInBounds_toArray, List.set_cons_zero, List.set_cons_succ]
              refine take_d 6 (some 48) (v := ?_) rfl (by kernel_rfl) (by kernel_rfl) (by kernel_rfl) (fun _ _ _ h => h) rfl (Or.inl ⟨by rfl, ?_⟩) (by assumption) ?_
              rotate_left
              (focus ((intro w hSw; (try dsimp only at hSw); go_simp); try (with_reducible rfl)))
              try simp only [Act.put, List.setIfInBounds_toArray, List.set_cons_zero, List.set_cons_succ]
              refine take_d 7 (some 49) (v := ?_) rfl (by kernel_rfl) (by kernel_rfl) (by kernel_rfl) (fun _ _ _ h => h) rfl (Or.inl ⟨by rfl, ?_⟩) (by assumption) ?_
              rotate_left
              (focus ((intro w hSw; (try dsimp only at hSw); go_simp); try (with_reducible rfl)))
              try simp only [Act.put, List.setIfInBounds_toArray, List.set_cons_zero, List.set_cons_succ]
              refine take_d 8 (some 50) (v := ?_) rfl (by kernel_rfl) (by kernel_rfl) (by kernel_rfl) (fun _ _ _ h => h) rfl (Or.inl ⟨by rfl, ?_⟩) (by assumption) ?_
              rotate_left
              (focus ((intro w hSw; (try dsimp only at hSw); go_simp); try (with_reducible rfl)))
              try simp only [Act.put, List.setIfInBounds_toArray, List.set_cons_zero, List.set_cons_succ]
              refine take_d 9 (some 51) (v := ?_) rfl (by kernel_rfl) (by kernel_rfl) (by kernel_rfl) (fun _ _ _ h => h) rfl (Or.inl ⟨by rfl, ?_⟩) (by assumption) ?_
              rotate_left
              (focus ((intro w hSw; (try dsimp only at hSw); go_simp); try (with_reducible rfl)))
              try simp only [Act.put, List.setIfInBounds_toArray, List.set_cons_zero, List.set_cons_succ]
              refine call_d 2 (some 44) 20 #[.tmp 42, .tmp 43] #[27, 3] rfl (by kernel_rfl) rfl rfl rfl (fun _ _ => rfl) (by simp [Act.eval]) (CF2.out _ (Keeps.drew1 _)) ?_
              intro e w5 hG
              obtain ⟨g5, c5, rfl, hc5, hk5⟩ := HFR.out _ _ _ hG
              clear hG
              refine ⟨_, rfl, ⟨cell_keeps hk5 hHeld.1, cell_keeps hk5 hHeld.2.1, cell_keeps hk5 hHeld.2.2.1, hHeld.2.2.2.step hk5⟩, ?_⟩
              have hHeld2 : (fun w' => w'.cell? ⟨V, 0, none⟩ = some (.slice A m cA) ∧ w'.cell? ⟨V, 1, none⟩ = some (.slice B mm cB) ∧ w'.cell? ⟨go, v, none⟩ = some (.int .i64 fv) ∧ Keeps wr w') _ := ⟨cell_keeps hk5 hHeld.1, cell_keeps hk5 hHeld.2.1, cell_keeps hk5 hHeld.2.2.1, hHeld.2.2.2.step hk5⟩
              clear hHeld
              refine wpAnyH_change (S' := fun w' => (fun w' => w'.cell? ⟨V, 0, none⟩ = some (.slice A m cA) ∧ w'.cell? ⟨V, 1, none⟩ = some (.slice B mm cB) ∧ w'.cell? ⟨go, v, none⟩ = some (.int .i64 fv) ∧ Keeps wr w') w' ∧ w'.cell? ⟨g5, k, none⟩ = some (.int .i64 fv)) (fun _ h => h.1) _ _ _ _ ?_
              have hHeld : (fun w' => (fun w' => w'.cell? ⟨V, 0, none⟩ = some (.slice A m cA) ∧ w'.cell? ⟨V, 1, none⟩ = some (.slice B mm cB) ∧ w'.cell? ⟨go, v, none⟩ = some (.int .i64 fv) ∧ Keeps wr w') w' ∧ w'.cell? ⟨g5, k, none⟩ = some (.int .i64 fv)) _ := ⟨hHeld2, hc5⟩
              clear hHeld2
              try simp only [Act.put, List.setIfInBounds_toArray, List.set_cons_zero, List.set_cons_succ]
              refine take_d 4 (some 46) (v := ?_) rfl (by kernel_rfl) (by kernel_rfl) (by kernel_rfl) (fun _ _ _ h => h) rfl (Or.inl ⟨by rfl, ?_⟩) (by assumption) ?_
              rotate_left
              (focus ((intro w hSw; (try dsimp only at hSw); go_simp); try (with_reducible rfl)))
              try simp only [Act.put, List.setIfInBounds_toArray, List.set_cons_zero, List.set_cons_succ]
              refine take_d 5 (some 47) (v := ?_) rfl (by kernel_rfl) (by kernel_rfl) (by kernel_rfl) (fun _ _ _ h => h) rfl (Or.inl ⟨by rfl, ?_⟩) (by assumption) ?_
              rotate_left
              (focus ((intro w hSw; (try dsimp only at hSw); go_simp); try (with_reducible rfl)))
              try simp only [Act.put, List.setIfInBounds_toArray, List.set_cons_zero, List.set_cons_succ]
              refine take_d 10 (some 52) (v := ?_) rfl (by kernel_rfl) (by kernel_rfl) (by kernel_rfl) (fun _ _ _ h => h) rfl (Or.inl ⟨by rfl, ?_⟩) (by assumption) ?_
              rotate_left
              (focus ((intro w hSw; (try dsimp only at hSw); go_simp); try (with_reducible rfl)))
              try simp only [Act.put, List.setIfInBounds_toArray, List.set_cons_zero, List.set_cons_succ]
              refine take_d 11 (some 53) (v := ?_) rfl (by kernel_rfl) (by kernel_rfl) (by kernel_rfl) (fun _ _ _ h => h) rfl (Or.inl ⟨by rfl, ?_⟩) (by assumption) ?_
              rotate_left
              (focus ((intro w hSw; (try dsimp only at hSw); go_simp); try (with_reducible rfl)))
              try simp only [Act.put, List.setIfInBounds_toArray, List.set_cons_zero, List.set_cons_succ]
              refine take_d 12 (some 54) (v := ?_) rfl (by kernel_rfl) (by kernel_rfl) (by kernel_rfl) (fun _ _ _ h => h) rfl (Or.inl ⟨by rfl, ?_⟩) (by assumption) ?_
              rotate_left
              (focus ((intro w hSw; (try dsimp only at hSw); go_simp); try (with_reducible rfl)))
              try simp only [Act.put, List.setIfInBounds_toArray, List.set_cons_zero, List.set_cons_succ]
              refine take_d 13 (some 55) (v := ?_) rfl (by kernel_rfl) (by kernel_rfl) (by kernel_rfl) (fun _ _ _ h => h) rfl (Or.inl ⟨by rfl, ?_⟩) (by assumption) ?_
              rotate_left
              (focus ((intro w hSw; (try dsimp only at hSw); go_simp); try (with_reducible rfl)))
              try simp only [Act.put, List.setIfInBounds_toArray, List.set_cons_zero, List.set_cons_succ]
              refine take_d 14 (some 56) (v := ?_) rfl (by kernel_rfl) (by kernel_rfl) (by kernel_rfl) (fun _ _ _ h => h) rfl (Or.inl ⟨by rfl, ?_⟩) (by assumption) ?_
              rotate_left
              (focus ((intro w hSw; (try dsimp only at hSw); go_simp); try (with_reducible rfl)))
              try simp only [Act.put, List.setIfInBounds_toArray, List.set_cons_zero, List.set_cons_succ]
              refine take_d 15 (some 57) (v := ?_) rfl (by kernel_rfl) (by kernel_rfl) (by kernel_rfl) (fun _ _ _ h => h) rfl (Or.inl ⟨by rfl, ?_⟩) (by assumption) ?_
              rotate_left
              (focus ((intro w hSw; (try dsimp only at hSw); go_simp); try (with_reducible rfl)))
              try simp only [Act.put, List.setIfInBounds_toArray, List.set_cons_zero, List.set_cons_succ]
              refine take_d 16 (some 58) (v := ?_) rfl (by kernel_rfl) (by kernel_rfl) (by kernel_rfl) (fun _ _ _ h => h) rfl (Or.inl ⟨by rfl, ?_⟩) (by assumption) ?_
              rotate_left
              (focus ((intro w hSw; (try dsimp only at hSw); go_simp); try (with_reducible rfl)))
              try simp only [Act.put, List.setIfInBounds_toArray, List.set_cons_zero, List.set_cons_succ]
              refine take_d 17 (some 59) (v := ?_) rfl (by kernel_rfl) (by kernel_rfl) (by kernel_rfl) (fun _ _ _ h => h) rfl (Or.inl ⟨by rfl, ?_⟩) (by assumption) ?_
              rotate_left
              (focus ((intro w hSw; (try dsimp only at hSw); go_simp); try (with_reducible rfl)))
              try simp only [Act.put, List.setIfInBounds_toArray, List.set_cons_zero, List.set_cons_succ]
              refine take_d 18 (some 60) (v := ?_) rfl (by kernel_rfl) (by kernel_rfl) (by kernel_rfl) (fun _ _ _ h => h) rfl (Or.inl ⟨by rfl, ?_⟩) (by assumption) ?_
              rotate_left
              (focus ((intro w hSw; (try dsimp only at hSw); go_simp); try (with_reducible rfl)))
              try simp only [Act.put, List.setIfInBounds_toArray, List.set_cons_zero, List.set_cons_succ]
              refine take_d 19 (some 61) (v := ?_) rfl (by kernel_rfl) (by kernel_rfl) (by kernel_rfl) (fun _ _ _ h => h) rfl (Or.inl ⟨by rfl, ?_⟩) (by assumption) ?_
              rotate_left
              (focus ((intro w hSw; (try dsimp only at hSw); go_simp); try (with_reducible rfl)))
              try simp only [Act.put, List.setIfInBounds_toArray, List.set_cons_zero, List.set_cons_succ]
              refine take_d 20 (some 62) (v := ?_) rfl (by kernel_rfl) (by kernel_rfl) (by kernel_rfl) (fun _ _ _ h => h) rfl (Or.inl ⟨by rfl, ?_⟩) (by assumption) ?_
              rotate_left
              (focus ((intro w hSw; (try dsimp only at hSw); go_simp); try (with_reducible rfl)))
              try simp only [Act.put, List.setIfInBounds_toArray, List.set_cons_zero, List.set_cons_succ]
              refine take_d 21 (some 63) (v := ?_) rfl (by kernel_rfl) (by kernel_rfl) (by kernel_rfl) (fun _ _ _ h => h) rfl (Or.inl ⟨by rfl, ?_⟩) (by assumption) ?_
              rotate_left
              (focus ((intro w hSw; (try dsimp only at hSw); go_simp); try (with_reducible rfl)))
              try simp only [Act.put, List.setIfInBounds_toArray, List.set_cons_zero, List.set_cons_succ]
              refine wpAnyH_done (by kernel_rfl) ?_ _
              have hk6 := hHeld.1.2.2.2
              all_goals
                go_wp2_with fail
                go_meet
                exact ⟨rfl, hk6⟩
          case rest =>
            obtain ⟨rfl, hcut⟩ := hcut
            have hKc := hK.step hcut
            have HOV2 := Lib.hid hov
            have hcut0 := Lib.hid hcut
            have eA := HEA.out
            subst eA
            clear hK d0 d1 hov hcut HSC hzk HFR CF2
            have d0 := cell_keeps hKc C0.out
            have d1 := cell_keeps hKc C1.out
            go_wp2_with fail
            obtain ⟨wd, rfl⟩ : ∃ wd : World, wd = wc := ⟨_, rfl⟩
            go_loopw [7] (fun i wi => ∃ p : Nat, p ≤ rn ∧ i = .int .i64 p ∧ Keeps wd wi) (fun i _ => rn - (intOf i).toNat)
            case atStart => exact ⟨0, by omega, rfl, Keeps.refl _⟩
            case round =>
              clear d0 d1
              obtain ⟨p, hp, rfl, hKi⟩ := hrel
              have hK := hKc.step hKi
              have d0 := cell_keeps hK C0.out
              have d1 := cell_keeps hK C1.out
              have hcA := cell_keeps hK HCA.out
              by_cases hltp : p < rn
              · have hpi : (p : Int) < rn := by omega
                obtain ⟨bR, oR, rfl, hcR0⟩ := HROW.out p hltp
                have hcR := cell_keeps hK hcR0
                have hpL : p < L v := by rw [← HLV.out]; exact hltp
                have hX := HOK.out.port v p hlt hpL
                have hum := HOK.out.node v p hlt hpL
                have hst := HST.out p hpL
                have hov := cell_keeps (hcut0.out.step hKi) HOV2.out
                have hou := (HO3.out.keeps hK).cell (portT X v p) hum
                rw [il_getD m _ _ hum] at hou
                have hfu := HFU.out _ hum
                rw [hX] at hcR
                generalize portT X v p = u at *
                have hui : (u : Int) < m := by omega
                generalize farF m L (portT X) k u = fu at *
                have hwr : IntKind.i64.wrap (fu - fv) = fu - fv := by rw [IntKind.wrap_i64]; omega
                have hn1 : ¬ (fu - fv < -1) := by omega
                have hn2 : ¬ (1 < fu - fv) := by omega
                clear hX hcR0 hpL hst
                go_wp2_with fail
                go_quiet (fail)
                go_wp2_with fail
                go_roundw
                case rel => exact ⟨p + 1, by omega, by go_num, hKi.step (Keeps.drewN _ _)⟩
                case measure => simp [intOf]; omega
              · obtain rfl : p = rn := by omega
                go_wp2_with fail
                go_roundw
                case rel => exact ⟨v + 1, by omega, by go_num, hK⟩
                case measure => simp [intOf]; omega
        · obtain rfl : v = m := by omega
          go_wp2
          go_ret
          exact ⟨rfl, hKK.step (hK03.step hK)⟩
end Go.Proofs.Ytdjilgbcpdlkfaa
