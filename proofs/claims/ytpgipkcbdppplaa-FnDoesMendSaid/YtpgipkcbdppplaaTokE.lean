/-
  The contract of worst of the reference: the most moves from all states. Condition: two to five states and machines.
-/
import Derived.Test.YtpgipkcbdppplaaTokW
import Derived.Test.YtpgipkcbdppplaaTokD
import Derived.Deep.LoopGhost
namespace Go.Proofs.Ytpgipkcbdppplaa
set_option linter.unusedVariables false
open Go.RowKit

theorem dig_tok {k n x : Nat} (hk2 : 2 ≤ k) (hk5 : k ≤ 5) (hn2 : 2 ≤ n) (hn5 : n ≤ 5) : TokS k n (digN k n x) := ⟨hk2, hk5, hn2, hn5, fun j _ => dig_lt (by omega) n x j⟩
set_option maxRecDepth 100000 in
set_option maxHeartbeats 8000000 in
theorem worst_any (k n : Nat) (f : Nat → Int) (w : World) (hk2 : 2 ≤ k) (hk5 : k ≤ 5) (hn2 : 2 ≤ n) (hn5 : n ≤ 5) (hf : SolD k n f) :
    Calls Try.prog 20 #[.int .i64 k, .int .i64 n] w (NewInts (k ^ n) f w) := by
  have HF := Lib.hid hf
  have hN := pow5 hk5 hn5
  have hN0 : 0 < k ^ n := Nat.pow_pos (by omega)
  have CT := Lib.hid (times_any k n w hk5 hn5)
  have HNE : Hid (∀ N, N = k ^ n → N = k ^ n) := Lib.hid (fun _ h => h)
  clear hf
  obtain ⟨N, hNe⟩ : ∃ N, N = k ^ n := ⟨_, rfl⟩
  rw [← hNe] at CT hN hN0 ⊢
  have HN := Lib.hid hNe
  clear hNe HNE
  have hmk := make_ints N (by omega)
  have HO0 : Hid (OwnInts (w.alloc (.cells (madeCells #[.int .i64 0] N) 3)) w.heap.size (some ⟨w.heap.size, 0, none⟩) N N (il N (fun y => if y < 0 ∧ 1 < cntD k n y then -1 else 0))) := Lib.hid (by
    have h := OwnInts.make w w.heap.size N (Nat.le_refl _) (by omega)
    rw [il_zero] at h
    rw [il_congr N _ (fun _ => 0) (fun i hi => by rw [if_neg (by omega)])]
    exact h)
  go_enter Try.func20, Try.ntmps20
  go_wp2_with fail
  refine CT.out.mono ?_
  rintro e w' ⟨rfl, rfl⟩
  go_wp2_with fail
  generalize hg : w.heap.size = g at *
  have HG := Lib.hid hg
  clear hg CT hmk
  go_loopw [7, 8] (fun o i wr => ∃ x o' : Nat, x ≤ N ∧ i = .int .i64 x ∧ o = .int .i64 o' ∧ o' ≤ x ∧ Hid (OwnInts wr g (some ⟨g, 0, none⟩) N N (il N (fun y => if y < x ∧ 1 < cntD k n y then -1 else 0))) ∧ Keeps w wr) (fun _ i _ => N - (intOf i).toNat)
  case atStart => exact ⟨0, 0, by omega, rfl, rfl, by omega, HO0, Keeps.alloc _ _⟩
  case round =>
    clear HO0
    obtain ⟨x, o, hx, rfl, rfl, ho, HO, hK⟩ := hrel
    by_cases hlt : x < N
    · have hxi : (x : Int) < N := by omega
      have hTS := dig_tok (x := x) hk2 hk5 hn2 hn5
      go_wp2_with fail
      refine (statesOf_any k n x _ hk2 hk5 hn2 hn5 (by omega)).mono ?_
      rintro e w1 ⟨g1, c1, rfl, hO1, hk1⟩
      go_wp2_with fail
      refine (stokens_any (some ⟨g1, 0, none⟩) n c1 (digN k n x) _ hn2 hn5 (il_ints' hO1)).mono ?_
      rintro e w2 ⟨g2, c2, rfl, _, _, _, _, hk2'⟩
      have HO2 := Lib.hid ((HO.out.keeps hk1).keeps hk2')
      have hK2 := (hK.step hk1).step hk2'
      have hL : (tks n (digN k n x) n).length = cntD k n x := tks_len n _ n
      have hlb := tks_bd (n := n) (s := digN k n x) n
      rw [hL] at hlb ⊢
      have hc := HO2.out.cell x hlt
      have hfz := HO2.out.frozen x
      have hgw : w.heap.size ≤ g := by rw [HG.out]; exact Nat.le_refl _
      have HSET := Lib.hid (HO2.out.set x (-1))
      clear hO1 hk1 hk2' hL HO hK hTS
      have HNX : Hid (∀ v : Int, v = (if 1 < cntD k n x then -1 else 0) → ∀ y, y < N → (if y = x then v else if y < x ∧ 1 < cntD k n y then -1 else 0) = (if y < x + 1 ∧ 1 < cntD k n y then (-1 : Int) else 0)) := Lib.hid (fun v hv y _ => by
        subst hv
        by_cases e : y = x
        · subst e
          rw [if_pos rfl]
          by_cases h : 1 < cntD k n y
          · rw [if_pos h, if_pos ⟨by omega, h⟩]
          · rw [if_neg h, if_neg (fun h' => h h'.2)]
        · rw [if_neg e]
          by_cases h : y < x ∧ 1 < cntD k n y
          · rw [if_pos h, if_pos ⟨by omega, h.2⟩]
          · rw [if_neg h, if_neg (fun h' => h ⟨by omega, h'.2⟩)])
      by_cases hcd : 1 < cntD k n x
      · have HA : Hid (OwnInts (w2.setCell ⟨g, x, none⟩ (.int .i64 (-1))) g (some ⟨g, 0, none⟩) N N (il N (fun y => if y < x + 1 ∧ 1 < cntD k n y then -1 else 0))) := Lib.hid (by
          have h := HSET.out
          rw [il_set, il_congr N _ _ (HNX.out (-1) (by rw [if_pos hcd]))] at h
          exact h)
        generalize cntD k n x = cd at *
        have hcdi : (1 : Int) < (cd : Int) := by omega
        go_wp2_with fail
        go_roundw
        case rel => exact ⟨x + 1, o + 1, by omega, by go_num, by go_num, by omega, HA, hK2.setCell hgw _⟩
        case measure => simp [intOf]; omega
      · have HA : Hid (OwnInts w2 g (some ⟨g, 0, none⟩) N N (il N (fun y => if y < x + 1 ∧ 1 < cntD k n y then -1 else 0))) := Lib.hid (by
          have h := HO2.out
          rw [il_congr N _ (fun y => if y < x + 1 ∧ 1 < cntD k n y then -1 else 0) (fun y hy => by
            rw [← HNX.out 0 (by rw [if_neg hcd]) y hy]
            by_cases e : y = x
            · subst e; rw [if_pos rfl, if_neg (fun h' => hcd h'.2)]
            · rw [if_neg e])] at h
          exact h)
        generalize cntD k n x = cd at *
        have hcdi : ¬ (1 : Int) < (cd : Int) := by omega
        go_wp2_with fail
        go_roundw
        case rel => exact ⟨x + 1, o, by omega, by go_num, rfl, by omega, HA, hK2⟩
        case measure => simp [intOf]; omega
    · obtain rfl : N = x := by omega
      have HA : Hid (OwnInts wr g (some ⟨g, 0, none⟩) N N (il N (fun y => if 1 < cntD k n y then -1 else 0))) := Lib.hid (by
        have h := HO.out
        rw [il_congr N _ (fun y => if 1 < cntD k n y then -1 else 0) (fun y hy => by simp [hy])] at h
        exact h)
      have HI : Hid (WInv k n f (fun y => if 1 < cntD k n y then -1 else 0)) := Lib.hid (WInv.start HF.out)
      clear HO ho
      generalize (fun y => if 1 < cntD k n y then (-1 : Int) else 0) = A0 at *
      go_wp2_with fail
      obtain ⟨w0, rfl⟩ : ∃ w0 : World, w0 = wr := ⟨_, rfl⟩
      go_loopg [9] (N + 1) (fun q b wr => ∃ (A : Nat → Int) (bb : Bool), b = .bool bb ∧ Hid (OwnInts wr g (some ⟨g, 0, none⟩) N N (il N A)) ∧ Hid (WInv k n f A) ∧ Hid (negs A N + (if bb then 1 else 0) ≤ q) ∧ Hid (bb = false → ∀ x, x < N → A x = -1 → ∃ i, i < n ∧ tokB n (digN k n x) i = true ∧ A (chD k n x i) < 0) ∧ Keeps w wr)
      case atStart => exact ⟨A0, true, rfl, HA, HI, Lib.hid (by have := negs_le A0 N; simpa using this), Lib.hid (fun h => by cases h), hK⟩
      case round =>
        clear HA HI hK
        obtain ⟨A, bb, rfl, HA, HI, HQ, HE, hK⟩ := hrel
        cases bb
        · have HFA := Lib.hid (winv_end (by omega) HF.out HI.out (fun x hx => HE.out rfl x (by rw [HN.out]; exact hx)))
          go_wp2
          go_ret
          refine ⟨g, N, rfl, ?_, hK⟩
          have h := HA.out
          rw [il_congr N A f (fun x hx => HFA.out x (by rw [← HN.out]; exact hx))] at h
          rw [HG.out]
          exact h
        · clear HE
          have HQ1 : Hid (negs A N + 1 ≤ gk) := Lib.hid (by have := HQ.out; simpa using this)
          clear HQ
          go_wp2_with fail
          go_loopw [9, 10] (fun b i wi => ∃ (x : Nat) (A' : Nat → Int) (bb' : Bool), x ≤ N ∧ i = .int .i64 x ∧ b = .bool bb' ∧ Hid (OwnInts wi g (some ⟨g, 0, none⟩) N N (il N A')) ∧ Hid (WInv k n f A') ∧ Hid (negs A' N + (if bb' then 1 else 0) ≤ negs A N) ∧ Hid (bb' = false → ∀ y, y < x → A' y = -1 → ∃ i, i < n ∧ tokB n (digN k n y) i = true ∧ A' (chD k n y i) < 0) ∧ Keeps w wi) (fun _ i _ => N - (intOf i).toNat)
          case atStart => exact ⟨0, A, false, by omega, rfl, rfl, HA, HI, Lib.hid (by simp), Lib.hid (fun _ y hy => absurd hy (Nat.not_lt_zero _)), hK⟩
          case round =>
            clear HA HI hK
            obtain ⟨x, A', bb, hx, rfl, rfl, HA, HI, HM, HE, hK⟩ := hrel
            by_cases hlt : x < N
            · have hxi : (x : Int) < N := by omega
              have hxN : x < k ^ n := by rw [← HN.out]; exact hlt
              have hc := HA.out.cell x hlt
              have hfz := HA.out.frozen x
              rw [il_getD N _ x hlt] at hc
              have hbd := HI.out.bd (by omega) HF.out hxN
              rw [← HN.out] at hbd
              obtain ⟨ax, hax⟩ : ∃ ax, ax = A' x := ⟨_, rfl⟩
              rw [← hax] at hc hbd
              have HAX := Lib.hid hax
              have hXN := Lib.hid hxN
              have hb1 := hbd.1
              have hb2 := hbd.2
              clear hax hbd hxN
              by_cases hneg : 0 ≤ ax
              · have HE2 : Hid (bb = false → ∀ y, y < x + 1 → A' y = -1 → ∃ i, i < n ∧ tokB n (digN k n y) i = true ∧ A' (chD k n y i) < 0) := Lib.hid (fun h y hy ha => by
                  by_cases e : y = x
                  · subst e; rw [← HAX.out] at ha; omega
                  · exact HE.out h y (by omega) ha)
                go_wp2_with fail
                go_roundw
                case rel => exact ⟨x + 1, A', bb, by omega, by go_num, rfl, HA, HI, HM, HE2, hK⟩
                case measure => simp [intOf]; omega
              · obtain rfl : ax = -1 := by omega
                have hTS := dig_tok (x := x) hk2 hk5 hn2 hn5
                go_wp2_with fail
                refine (statesOf_any k n x _ hk2 hk5 hn2 hn5 (by omega)).mono ?_
                rintro e w1 ⟨g1, c1, rfl, hO1, hk1⟩
                have HA1 := Lib.hid (HA.out.keeps hk1)
                have hK1 := hK.step hk1
                have HO1 := Lib.hid (il_ints' hO1)
                clear HA hK hk1 hO1 hc hfz
                go_wp2_with fail
                refine (stokens_any (some ⟨g1, 0, none⟩) n c1 (digN k n x) _ hn2 hn5 HO1.out).mono ?_
                rintro e w2 ⟨g2, c2, rfl, hI2, hl2, hc2, _, hk2'⟩
                have HA2 := Lib.hid (HA1.out.keeps hk2')
                have hK2 := hK1.step hk2'
                have HO2 := Lib.hid (HO1.out.keeps hk2')
                have HI2 := Lib.hid hI2
                have HTA := Lib.hid (fun i hi => tks_at n (digN k n x) i hi)
                have hlb := tks_bd (n := n) (s := digN k n x) n
                have HTS := Lib.hid hTS
                clear HA1 hK1 HO1 hI2 hk2' hTS
                obtain ⟨ln, hln⟩ : ∃ ln, ln = (tks n (digN k n x) n).length := ⟨_, rfl⟩
                rw [← hln] at HI2 hl2 HTA hlb ⊢
                have HLN := Lib.hid hln
                clear hln
                go_wp2_with fail
                obtain ⟨wq, rfl⟩ : ∃ wq : World, wq = w2 := ⟨_, rfl⟩
                go_loopw [13, 14] (fun mv i wi => ∃ (j : Nat) (v : Int), j ≤ ln ∧ i = .int .i64 j ∧ mv = .int .i64 v ∧ -1 ≤ v ∧ v ≤ 3125 ∧ Hid (Most k n A' x j v) ∧ Keeps wq wi) (fun _ i _ => ln - (intOf i).toNat)
                case atStart => exact ⟨0, 0, by omega, rfl, rfl, by omega, by omega, Lib.hid (.inl ⟨by omega, fun j hj => absurd hj (Nat.not_lt_zero _), .inl ⟨rfl, rfl⟩⟩), Keeps.refl _⟩
                case round =>
                  obtain ⟨j, v, hj, rfl, rfl, hv1, hv2, HMO, hKq⟩ := hrel
                  by_cases hgo : j < ln ∧ 0 ≤ v
                  · obtain ⟨hjl, hv0⟩ := hgo
                    have hji : (j : Int) < ln := by omega
                    obtain ⟨d, off, e, hcj0⟩ := HI2.out j hjl
                    cases e
                    have hcj := cell_keeps hKq hcj0
                    obtain ⟨htn, htt⟩ := HTA.out j hjl
                    obtain ⟨t, ht⟩ : ∃ t, t = (tks n (digN k n x) n).getD j 0 := ⟨_, rfl⟩
                    dsimp only at hcj
                    rw [← ht] at hcj htn htt
                    have HT := Lib.hid ht
                    have HTT := Lib.hid htt
                    clear ht htt hcj0
                    rw [Nat.zero_add] at hcj
                    have hlc := chD_lt (k := k) (x := x) (by omega) htn
                    rw [← HN.out] at hlc
                    have hMV : TokS k n (movF k (digN k n x) t) := ⟨hk2, hk5, hn2, hn5, mov_lt (by omega) HTS.out.lt t htn⟩
                    have HMV := Lib.hid hMV
                    clear hMV
                    go_wp2_with fail
                    refine (smove_any (some ⟨g1, 0, none⟩) k n c1 t (digN k n x) wr HTS.out htn (HO2.out.keeps hKq)).mono ?_
                    rintro e w3 ⟨g3, c3, rfl, hO3, hk3⟩
                    have CC : Hid (Calls Try.prog 26 #[.int .i64 k, .slice (some ⟨g3, 0, none⟩) n c3] w3 fun e w' => e = .returned (.int .i64 ((chD k n x t : Nat) : Int)) ∧ w3 = w') := Lib.hid (codeOf_any (some ⟨g3, 0, none⟩) k n c3 (movF k (digN k n x) t) w3 HMV.out (il_ints' hO3))
                    have hKq3 := hKq.step hk3
                    have hcc := (HA2.out.keeps hKq3).cell (chD k n x t) hlc
                    rw [il_getD N _ _ hlc] at hcc
                    have hyb := HI.out.bd (by omega) HF.out (show chD k n x t < k ^ n from by rw [← HN.out]; exact hlc)
                    rw [← HN.out] at hyb
                    obtain ⟨y, hy⟩ : ∃ y, y = A' (chD k n x t) := ⟨_, rfl⟩
                    rw [← hy] at hcc hyb
                    have HMX := Lib.hid (most_next (by rw [← HLN.out]; exact hjl) HMO.out hv0 (show y = A' (chD k n x ((tks n (digN k n x) n).getD j 0)) from by rw [hy, HT.out]))
                    have hyb1 := hyb.1
                    have hyb2 : y < 3125 := by omega
                    generalize chD k n x t = cc at *
                    have hcci : (cc : Int) < N := by omega
                    clear hO3 hk3 hy hyb HMO hKq
                    by_cases hy0 : y < 0
                    · obtain rfl : y = -1 := by omega
                      have hnv : ¬ v < -1 + 1 := by omega
                      have hnv0 : ¬ v < 0 := by omega
                      have HMX2 : Hid (Most k n A' x (j + 1) (-1)) := Lib.hid (by have h := HMX.out; rwa [if_pos (by omega)] at h)
                      clear HMX
                      go_wp2_with fail
                      refine CC.out.mono ?_
                      rintro e w4 ⟨rfl, rfl⟩
                      go_wp2_with fail
                      go_roundw
                      case rel => exact ⟨j + 1, -1, by omega, by go_num, rfl, by omega, by omega, HMX2, hKq3⟩
                      case measure => simp [intOf]; omega
                    · by_cases hmx : v < y + 1
                      · have HMX2 : Hid (Most k n A' x (j + 1) (y + 1)) := Lib.hid (by have h := HMX.out; rwa [if_neg hy0, show max v (y + 1) = y + 1 by omega] at h)
                        clear HMX
                        go_wp2_with fail
                        refine CC.out.mono ?_
                        rintro e w4 ⟨rfl, rfl⟩
                        go_wp2_with fail
                        go_roundw
                        case rel => exact ⟨j + 1, y + 1, by omega, by go_num, rfl, by omega, by omega, HMX2, hKq3⟩
                        case measure => simp [intOf]; omega
                      · have HMX2 : Hid (Most k n A' x (j + 1) v) := Lib.hid (by have h := HMX.out; rwa [if_neg hy0, show max v (y + 1) = v by omega] at h)
                        clear HMX
                        go_wp2_with fail
                        refine CC.out.mono ?_
                        rintro e w4 ⟨rfl, rfl⟩
                        go_wp2_with fail
                        go_roundw
                        case rel => exact ⟨j + 1, v, by omega, by go_num, rfl, by omega, by omega, HMX2, hKq3⟩
                        case measure => simp [intOf]; omega
                  · have hML : Most k n A' x (tks n (digN k n x) n).length v := by
                      rcases HMO.out with h | h
                      · have : j = ln := by have := h.1; omega
                        rw [← HLN.out, ← this]
                        exact .inl h
                      · exact .inr h
                    have hMF := most_found (by omega) HF.out HI.out hXN.out HAX.out.symm hML
                    have hKw := hK2.step hKq
                    have HAw := Lib.hid (HA2.out.keeps hKq)
                    have hgw : w.heap.size ≤ g := by rw [HG.out]; exact Nat.le_refl _
                    rcases hMF with ⟨hv0, -, hW⟩ | ⟨hvm, hE3⟩
                    · obtain rfl : j = ln := by omega
                      have HW := Lib.hid hW
                      have hc := HAw.out.cell x hlt
                      have hfz := HAw.out.frozen x
                      have HSET : Hid (OwnInts (wr.setCell ⟨g, x, none⟩ (.int .i64 v)) g (some ⟨g, 0, none⟩) N N (il N (fun y => if y = x then v else A' y))) := Lib.hid (by
                        have h := HAw.out.set x v
                        rw [il_set] at h
                        exact h)
                      have HM2 : Hid (negs (fun y => if y = x then v else A' y) N + (if true then 1 else 0) ≤ negs A N) := Lib.hid (by
                        have h1 := negs_set A' x v (by have := HAX.out; omega) (by omega) N hlt
                        have h2 := HM.out
                        have h3 : negs (fun y => if y = x then v else A' y) N + 1 = negs A' N := h1
                        rw [if_pos rfl, h3]
                        omega)
                      clear hW hML HMO hgo
                      go_wp2_with fail
                      go_roundw
                      case rel => exact ⟨x + 1, _, true, by omega, by go_num, rfl, HSET, HW, HM2, Lib.hid (fun h => by cases h), hKw.setCell hgw _⟩
                      case measure => simp [intOf]; omega
                    · subst hvm
                      have HE2 : Hid (bb = false → ∀ y, y < x + 1 → A' y = -1 → ∃ i, i < n ∧ tokB n (digN k n y) i = true ∧ A' (chD k n y i) < 0) := Lib.hid (fun h y hy ha => by
                        by_cases e : y = x
                        · subst e; exact hE3
                        · exact HE.out h y (by omega) ha)
                      clear hML HMO hE3 hgo
                      by_cases hjl : j < ln
                      · have hji : (j : Int) < ln := by omega
                        go_wp2_with fail
                        go_roundw
                        case rel => exact ⟨x + 1, A', bb, by omega, by go_num, rfl, HAw, HI, HM, HE2, hKw⟩
                        case measure => simp [intOf]; omega
                      · go_wp2_with fail
                        go_roundw
                        case rel => exact ⟨x + 1, A', bb, by omega, by go_num, rfl, HAw, HI, HM, HE2, hKw⟩
                        case measure => simp [intOf]; omega
            · obtain rfl : N = x := by omega
              go_wp2_with fail
              go_roundg (negs A' N + (if bb then 1 else 0))
              case measure => have h1 := HM.out; have h2 := HQ1.out; omega
              case rel => exact ⟨A', bb, rfl, HA, HI, Lib.hid (Nat.le_refl _), HE, hK⟩
end Go.Proofs.Ytpgipkcbdppplaa
