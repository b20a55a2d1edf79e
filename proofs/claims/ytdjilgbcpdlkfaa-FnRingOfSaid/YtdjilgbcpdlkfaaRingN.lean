/-
  The contract of RingOf of the reference: a ring in new memory, or nothing. No condition.
-/
import Derived.Test.YtdjilgbcpdlkfaaMat
namespace Go.Proofs.Ytdjilgbcpdlkfaa
open Go.RowKit

/-- A ring, or nothing. -/
def GiveRing (m : Nat) (M : Nat → Int) (w : World) (e : Ending) (w' : World) : Prop :=
  (ringOkB m M = false ∧ e = .returned (.tuple #[.agg #[.slice none 0 0, .slice none 0 0], .bool false]) ∧ Keeps w w') ∨
  (ringOkB m M = true ∧ ∃ (A B : Option Addr) (c d : Nat), e = .returned (.tuple #[.agg #[.slice A m c, .slice B m d], .bool true]) ∧ OwnRows w' w.heap.size A m c (ringR m m) ∧ OwnInts w' w.heap.size B m d (il m M) ∧ OwnNet w' w.heap.size A m c B m d ∧ Keeps w w')
/-- A ring under way. -/
structure RingSt (w : World) (lo R V g cB m n : Nat) (A : Option Addr) (cA : Nat) (M : Nat → Int) (wx : World) : Prop where
  r : Blk wx R 27 #[.slice none 0 0, .slice none 0 0]
  v : Blk wx V 27 #[.slice A n cA, .slice (some ⟨g, 0, none⟩) m cB]
  rows : OwnRows wx lo A n cA (ringR m n)
  marks : OwnInts wx lo (some ⟨g, 0, none⟩) m cB (il m M)
  net : OwnNet wx lo A n cA (some ⟨g, 0, none⟩) m cB
  kp : Keeps w wx
set_option maxRecDepth 100000 in
set_option maxHeartbeats 16000000 in
theorem sRingOf_any (a : Option Addr) (m c : Nat) (M : Nat → Int) (w : World) (hm : m ≤ 1099511627776) (hI : Ints w a m M) :
    Calls Try.prog 14 #[.slice a m c] w (GiveRing m M w) := by
  cases v1 : inB m 3 6
  · have HV : Hid (ringOkB m M = false) := Lib.hid (by unfold ringOkB; rw [v1]; rfl)
    have CIR : Hid (∀ w, Calls Try.prog 51 #[.int .i64 m, .int .i64 3, .int .i64 6] w fun e w' => e = .returned (.bool false) ∧ w = w') := Lib.hid (fun w => by rw [← v1]; exact inRange_any _ _ _ w)
    have hR := Blk.new w #[.slice none 0 0, .slice none 0 0] 27
    clear v1 hI
    go_enter Try.func14, Try.ntmps14
    go_wp2_with fail
    refine (CIR.out _).mono ?_
    rintro e w1 ⟨rfl, rfl⟩
    have e0 : (w.alloc (.cells #[.slice none 0 0, .slice none 0 0] 27)).cell? ⟨w.heap.size, 0, none⟩ = some (.slice none 0 0) := hR.cell 0
    have e1 : (w.alloc (.cells #[.slice none 0 0, .slice none 0 0] 27)).cell? ⟨w.heap.size, 1, none⟩ = some (.slice none 0 0) := hR.cell 1
    go_wp2_with fail
    refine bodyPost_ret (v := .tuple #[.agg #[.slice none 0 0, .slice none 0 0], .bool false]) (by simp [results, Try.results14, go_sem, e0, e1]) rfl (.inl ⟨HV.out, rfl, Keeps.alloc _ _⟩)
  · have h36 := inB_true v1
    obtain ⟨ba, oa, rfl, _⟩ := hI 0 (by omega)
    have CIR : Hid (∀ w, Calls Try.prog 51 #[.int .i64 m, .int .i64 3, .int .i64 6] w fun e w' => e = .returned (.bool true) ∧ w = w') := Lib.hid (fun w => by rw [← v1]; exact inRange_any _ _ _ w)
    have HOKB : Hid (ringOkB m M = netB m (fun _ => 2) (ringX m) m M) := Lib.hid (by rw [ring_net m M (by omega) (by omega)]; unfold ringOkB; rw [v1]; rfl)
    have hR := Blk.new w #[.slice none 0 0, .slice none 0 0] 27
    have k1 := Keeps.alloc w (.cells #[.slice none 0 0, .slice none 0 0] 27)
    have k2 := k1.step (Keeps.alloc _ (.cells #[] 3))
    have HZ : Hid (∀ i, i < m → ((w.alloc (.cells #[.slice none 0 0, .slice none 0 0] 27)).alloc (.cells #[] 3)).cell? ⟨ba, oa + i, none⟩ = some (.int .i64 (M i))) := Lib.hid (fun i hi => by
      obtain ⟨_, _, e, hc⟩ := hI i hi
      cases e
      exact cell_keeps k2 hc)
    have HMD : Hid (OwnInts ((w.alloc (.cells #[.slice none 0 0, .slice none 0 0] 27)).alloc (.cells #[] 3)) w.heap.size (some ⟨w.heap.size + 1, 0, none⟩) 0 0 []) := Lib.hid (by have := OwnInts.made (w.alloc (.cells #[.slice none 0 0, .slice none 0 0] 27)) w.heap.size k1.size; rwa [World.size_alloc] at this)
    clear v1 hI
    go_enter Try.func14, Try.ntmps14
    go_wp2_with fail
    refine (CIR.out _).mono ?_
    rintro e w1 ⟨rfl, rfl⟩
    go_wp2_with (first | (at_builtin; refine wp_spread_int rfl _ _ rfl w.heap.size _ 0 0 [] _ rfl HMD.out ba oa m c M rfl HZ.out (by omega) (by omega) k2.size ?_; intro g cB w2 hO2 hg2; have hR2 := (hR.keeps (Keeps.alloc _ (.cells #[] 3))).grown hg2 (by simp)))
    have HS0 : Hid (RingSt w w.heap.size w.heap.size w2.heap.size g cB m 0 none 0 M (w2.alloc (.cells #[.slice none 0 0, .slice (some ⟨g, 0, none⟩) m cB] 27))) := Lib.hid (by
      have kk := Keeps.alloc w2 (.cells #[.slice none 0 0, .slice (some ⟨g, 0, none⟩) m cB] 27)
      rw [Nat.zero_add, List.nil_append] at hO2
      exact ⟨hR2.keeps kk, Blk.new _ _ _, OwnRows.nil _ _, hO2.keeps kk, OwnNet.marks0 (M := M) (hO2.keeps kk), (k2.grown HMD.out (Nat.le_refl _) hg2).step kk⟩)
    have HVR : Hid (w.heap.size < w2.heap.size) := Lib.hid hR2.lt
    generalize hVw : w2.heap.size = V at *
    clear hO2 hg2 hR2 hR k1 k2 HMD HZ hVw
    go_loopw [6] (fun i wr => ∃ (v : Nat) (A : Option Addr) (cA : Nat), v ≤ m ∧ i = .int .i64 v ∧ Hid (RingSt w w.heap.size w.heap.size V g cB m v A cA M wr)) (fun i _ => m - (intOf i).toNat)
    case atStart => exact ⟨0, none, 0, by omega, rfl, HS0⟩
    case round =>
      clear HS0
      obtain ⟨v, A, cA, hv, rfl, HS⟩ := hrel
      have b0 : wr.cell? ⟨V, 0, none⟩ = some (.slice A v cA) := by rw [HS.out.v.cell]; rfl
      have b1 : wr.cell? ⟨V, 1, none⟩ = some (.slice (some ⟨g, 0, none⟩) m cB) := by rw [HS.out.v.cell]; rfl
      have f0 := HS.out.v.frozen 0
      have zV := HS.out.v.lt
      by_cases hlt : v < m
      · have hvi : (v : Int) < m := by omega
        have hm0 : ((m : Int) == 0) = false := by simp; omega
        have hm00 : ¬ m = 0 := by omega
        have hw1 : IntKind.i64.wrap ((v : Int) + m) = (v : Int) + m := by rw [IntKind.wrap_i64]; omega
        have hw2 : IntKind.i64.wrap ((v : Int) + m - 1) = (v : Int) + m - 1 := by rw [IntKind.wrap_i64]; omega
        have hw3 : IntKind.i64.wrap ((v : Int) + 1) = (v : Int) + 1 := by rw [IntKind.wrap_i64]; omega
        obtain ⟨x0, hx0⟩ : ∃ x0, x0 = ringX m v 0 := ⟨_, rfl⟩
        obtain ⟨x1, hx1⟩ : ∃ x1, x1 = ringX m v 1 := ⟨_, rfl⟩
        have ht0 : Int.tmod ((v : Int) + m - 1) m = x0 := by
          rw [hx0, Int.tmod_eq_emod_of_nonneg (by omega)]
          show _ = (((v + m - 1) % m : Nat) : Int)
          rw [Int.natCast_emod]
          congr 1
          omega
        have ht1 : Int.tmod ((v : Int) + 1) m = x1 := by
          rw [hx1, Int.tmod_eq_emod_of_nonneg (by omega)]
          show _ = (((v + 1) % m : Nat) : Int)
          rw [Int.natCast_emod]
          congr 1
        have HX : Hid ([x0, x1] = [ringX m v 0, ringX m v 1]) := Lib.hid (by rw [hx0, hx1])
        have hr0 : 0 ≤ x0 ∧ x0 ≤ 6 := by
          rw [hx0]
          show 0 ≤ (((v + m - 1) % m : Nat) : Int) ∧ (((v + m - 1) % m : Nat) : Int) ≤ 6
          have := Nat.mod_lt (v + m - 1) (show 0 < m by omega)
          omega
        have hr1 : 0 ≤ x1 ∧ x1 ≤ 6 := by
          rw [hx1]
          show 0 ≤ (((v + 1) % m : Nat) : Int) ∧ (((v + 1) % m : Nat) : Int) ≤ 6
          have := Nat.mod_lt (v + 1) (show 0 < m by omega)
          omega
        have hwx0 : IntKind.i64.wrap x0 = x0 := by rw [IntKind.wrap_i64]; omega
        have hwx1 : IntKind.i64.wrap x1 = x1 := by rw [IntKind.wrap_i64]; omega
        clear hx0 hx1
        have q1 := Keeps.alloc wr (.cells #[.int .i64 x0, .int .i64 x1] 3)
        have q2 := Keeps.alloc (wr.alloc (.cells #[.int .i64 x0, .int .i64 x1] 3)) (.cells #[.slice (some ⟨wr.heap.size, 0, none⟩) 2 2] 23)
        have qq : Keeps wr ((wr.alloc (.cells #[.int .i64 x0, .int .i64 x1] 3)).alloc (.cells #[.slice (some ⟨wr.heap.size, 0, none⟩) 2 2] 23)).drew := (q1.step q2).step (Keeps.drew1 _)
        have HO4 := Lib.hid (HS.out.rows.keeps qq)
        have HI4 : Hid (OwnInts ((wr.alloc (.cells #[.int .i64 x0, .int .i64 x1] 3)).alloc (.cells #[.slice (some ⟨wr.heap.size, 0, none⟩) 2 2] 23)).drew wr.heap.size (some ⟨wr.heap.size, 0, none⟩) 2 2 [x0, x1]) := Lib.hid (own_blk (((Blk.new wr _ _).keeps q2).keeps (Keeps.drew1 _)) rfl (Nat.le_refl _) rfl (by omega))
        have HN4 := Lib.hid (Gro.ofKeeps (b := w.heap.size) qq)
        have HB4 : Hid (Blk ((wr.alloc (.cells #[.int .i64 x0, .int .i64 x1] 3)).alloc (.cells #[.slice (some ⟨wr.heap.size, 0, none⟩) 2 2] 23)).drew (wr.heap.size + 1) 23 #[.slice (some ⟨wr.heap.size, 0, none⟩) 2 2]) := Lib.hid ((blk_at (by simp) (Blk.new _ _ _)).keeps (Keeps.drew1 _))
        have HV4 := Lib.hid (HS.out.v.keeps qq)
        have HZ4 := Lib.hid (HS.out.kp.step qq).size
        have HK4 := Lib.hid (HS.out.kp.step qq)
        have HR4 := Lib.hid (HS.out.r.keeps qq)
        have HM4 := Lib.hid (HS.out.marks.keeps qq)
        clear q1 q2 qq
        go_wp2_with fail
        go_region_law (first | (refine step_oneRN rfl (.tmp 23) (.tmp 35) rfl w.heap.size A (some ⟨g, 0, none⟩) v cA m cB (ringR m v) wr _ (by simp [Act.eval]) HO4.out HS.out.net HN4.out HS.out.r (by decide) (by decide) (some ⟨wr.heap.size, 0, none⟩) 2 2 [x0, x1] HI4.out (by omega) HS.out.kp.size (wr.heap.size + 1) HB4.out (by simp [Act.eval]) (by omega) ?_; intro g6 c6 w6 hO6 hN6 hg6; have hV6 := OwnRows.blk HO4.out hg6 HV4.out (by decide); have s6 : w6.cell? ⟨V, 0, none⟩ = some (.slice A v cA) := (by rw [hV6.cell]; rfl); have f6 := hV6.frozen 0))
        all_goals
          have hR6 := OwnRows.blk HO4.out hg6 HR4.out (by decide)
          have hK6 := OwnRows.keepsAll HO4.out HK4.out (Nat.le_refl _) hg6
          have hM6 : OwnInts w6 w.heap.size (some ⟨g, 0, none⟩) m cB (il m M) := own_kept HM4.out hg6 (own_type HM4.out HO4.out.choose_spec.1 (by decide))
          have HS6 : Hid (RingSt w w.heap.size w.heap.size V g cB m (v + 1) (some ⟨g6, 0, none⟩) c6 M (w6.setCell ⟨V, 0, none⟩ (.slice (some ⟨g6, 0, none⟩) (v + 1) c6))) := Lib.hid ⟨hR6.set_other _ _ (by have := HVR.out; simp; omega), hV6.set 0 _, by
            rw [HX.out, ringR_next] at hO6
            exact hO6.grown (grown_set _ _ _ _) hV6 (by decide) (by decide), hM6.grown (grown_set _ _ _ _) hV6 (by decide), hN6.grown (grown_set _ _ _ _) hV6 (by decide) (by decide), hK6.setCell (by have := HVR.out; simp; omega) _⟩
          clear hO6 hg6 hN6 hV6 hR6 hK6 hM6
          go_wp2_with fail
          go_roundw
          case rel => exact ⟨v + 1, _, c6, by omega, by go_num, HS6⟩
          case measure => simp [intOf]; omega
      · obtain rfl : v = m := by omega
        obtain ⟨r, hN⟩ := ring_netNew HS.out.rows HS.out.marks hm
        have CV := Lib.hid (svalidNet_any A (some ⟨g, 0, none⟩) v cA v cB r (fun _ => 2) (ringX v) M wr hN.net)
        clear hN
        cases e : netB v (fun _ => 2) (ringX v) v M
        · rw [e] at CV HOKB
          clear e
          go_wp2_with fail
          refine CV.out.mono ?_
          rintro e w1 ⟨rfl, hk1⟩
          have hR1 := HS.out.r.keeps hk1
          have c0 : w1.cell? ⟨w.heap.size, 0, none⟩ = some (.slice none 0 0) := by rw [hR1.cell]; rfl
          have c1 : w1.cell? ⟨w.heap.size, 1, none⟩ = some (.slice none 0 0) := by rw [hR1.cell]; rfl
          have f0 := hR1.frozen 0
          have f1 := hR1.frozen 1
          have hK1 := HS.out.kp.step hk1
          go_wp2_with fail
          have k1 := ((hR1.set 0 (.slice none 0 0)).set 1 (.slice none 0 0)).cell 0
          have k2 := ((hR1.set 0 (.slice none 0 0)).set 1 (.slice none 0 0)).cell 1
          refine bodyPost_ret (v := .tuple #[.agg #[.slice none 0 0, .slice none 0 0], .bool false]) (by simp [results, Try.results14, go_sem, k1, k2]) rfl (.inl ⟨HOKB.out, rfl, (hK1.setCell (Nat.le_refl _) _).setCell (Nat.le_refl _) _⟩)
        · rw [e] at CV HOKB
          clear e
          go_wp2_with fail
          refine CV.out.mono ?_
          rintro e w1 ⟨rfl, hk1⟩
          have hR1 := HS.out.r.keeps hk1
          have hV1 := HS.out.v.keeps hk1
          have c0 : w1.cell? ⟨w.heap.size, 0, none⟩ = some (.slice none 0 0) := by rw [hR1.cell]; rfl
          have c1 : w1.cell? ⟨w.heap.size, 1, none⟩ = some (.slice none 0 0) := by rw [hR1.cell]; rfl
          have f0 := hR1.frozen 0
          have f1 := hR1.frozen 1
          have v0 : w1.cell? ⟨V, 0, none⟩ = some (.slice A v cA) := by rw [hV1.cell]; rfl
          have v1 : w1.cell? ⟨V, 1, none⟩ = some (.slice (some ⟨g, 0, none⟩) v cB) := by rw [hV1.cell]; rfl
          have hK1 := HS.out.kp.step hk1
          have hO1 := HS.out.rows.keeps hk1
          have hM1 := HS.out.marks.keeps hk1
          have hN1 := HS.out.net.keeps hk1
          have hR2 := hR1.set 0 (.slice A v cA)
          go_wp2_with fail
          have k1 := (hR2.set 1 (.slice (some ⟨g, 0, none⟩) v cB)).cell 0
          have k2 := (hR2.set 1 (.slice (some ⟨g, 0, none⟩) v cB)).cell 1
          refine bodyPost_ret (v := .tuple #[.agg #[.slice A v cA, .slice (some ⟨g, 0, none⟩) v cB], .bool true]) (by simp [results, Try.results14, go_sem, k1, k2]) rfl (.inr ⟨HOKB.out, A, _, cA, cB, rfl, ?_, ?_, ?_, (hK1.setCell (Nat.le_refl _) _).setCell (Nat.le_refl _) _⟩)
          · exact (hO1.grown (grown_set _ _ _ _) hR1 (by decide) (by decide)).grown (grown_set _ _ _ _) hR2 (by decide) (by decide)
          · exact (hM1.grown (grown_set _ _ _ _) hR1 (by decide)).grown (grown_set _ _ _ _) hR2 (by decide)
          · exact (hN1.grown (grown_set _ _ _ _) hR1 (by decide) (by decide)).grown (grown_set _ _ _ _) hR2 (by decide) (by decide)
end Go.Proofs.Ytdjilgbcpdlkfaa
