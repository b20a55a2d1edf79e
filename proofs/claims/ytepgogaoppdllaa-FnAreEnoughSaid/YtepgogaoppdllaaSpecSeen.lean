/-
  The contract of seen (the reference). Condition: a valid run, at most four rounds.
-/
import Derived.Test.YtepgogaoppdllaaSpecRun
import Derived.Test.YtepgogaoppdllaaSpecValid
import Derived.Test.YtepgogaoppdllaaOwnSet
namespace Go.Proofs.Ytepgogaoppdllaa
open Go.RowKit

theorem run_heard {n m : Nat} {x : Nat → Int} {st : Nat → Int × Int × Int} (h : runB n x m st = true) : ∀ i, i < m → 0 ≤ (st i).2.2 ∧ (st i).2.2 ≤ 15 := by
  intro i hi
  have hn := runB_n h
  have hp : 2 ^ n ≤ 16 := Nat.le_trans (Nat.pow_le_pow_right (by omega) (show n ≤ 4 by omega)) (by omega)
  unfold runB at h
  rw [Bool.and_eq_true, Bool.and_eq_true] at h
  have h3 := (anyB_false _ _).1 (by simpa using h.2) i hi
  simp only [stopBad, Bool.not_eq_false', Bool.and_eq_true] at h3
  have b := inB_true h3.2
  omega

theorem own_at {w : World} {lo g g' n c : Nat} {l : List Int} (e : g = g') (h : OwnInts w lo (some ⟨g, 0, none⟩) n c l) : OwnInts w lo (some ⟨g', 0, none⟩) n c l := e ▸ h
set_option maxRecDepth 100000 in
set_option maxHeartbeats 4000000 in
theorem sseen_any (I S : Option Addr) (n ci m cs R : Nat) (x : Nat → Int) (st : Nat → Int × Int × Int) (w : World) (hm : m ≤ 1099511627776) (hR : R ≤ 4) (hS : Stops w S m st) (hok : runB n x m st = true) :
    Calls Try.prog 49 #[.agg #[.slice I n ci, .slice S m cs], .int .i64 R] w fun e w' => ∃ g c, e = .returned (.slice (some ⟨g, 0, none⟩) n c) ∧ OwnInts w' w.heap.size (some ⟨g, 0, none⟩) n c (fl n (aft n st m R)) ∧ Keeps w w' := by
  have HS := Lib.hid hS
  have HOK := Lib.hid hok
  have HHE := Lib.hid (run_heard hok)
  obtain ⟨hn1, hn4⟩ := runB_n hok
  clear hS hok
  go_enter Try.func49, Try.ntmps49
  go_wp2_with fail
  go_loopw [7, 6] (fun i s wr => ∃ (k c : Nat) (A : Option Addr), k ≤ n ∧ i = .int .i64 k ∧ s = .slice A k c ∧ OwnInts wr w.heap.size A k c (fl k (fun p => 2 ^ p)) ∧ Blk wr w.heap.size 26 #[.slice I n ci, .slice S m cs] ∧ Keeps w wr) (fun i _ _ => n - (intOf i).toNat)
  case atStart => exact ⟨0, 0, _, by omega, rfl, rfl, own_at (by simp) (OwnInts.made _ _ (Keeps.alloc _ _).size), (Blk.new w _ _).keeps (Keeps.alloc _ _), (Keeps.alloc _ _).step (Keeps.alloc _ _)⟩
  case round =>
    obtain ⟨k, c, A, hk, rfl, rfl, hO, hB, hK⟩ := hrel
    by_cases hlt : k < n
    · have HN := Lib.hid (fl_succ k (fun p => 2 ^ p))
      have hsz := hK.size
      have hk62 : k ≤ 62 := by omega
      have HB := Lib.hid hB
      clear hB
      go_wp2_with fail
      refine (spower_any k _ hk62).mono ?_
      rintro e w1 ⟨rfl, rfl⟩
      generalize ((2 ^ k : Nat) : Int) = q at *
      go_wp2_with (first | (at_builtin; refine wp_app_int rfl _ _ rfl w.heap.size A k c (fl k (fun p => 2 ^ p)) _ rfl hO _ rfl (by omega) hsz ?_; intro g d' w6 hO6 hg6))
      go_roundw
      case rel => exact ⟨k + 1, d', _, by omega, by go_num, rfl, by rw [HN.out]; exact hO6, HB.out.grown hg6 (own_other' hO HB.out (by decide)), hK.grown hO (Nat.le_refl _) hg6⟩
      case measure => simp [intOf]; omega
    · obtain rfl : k = n := by omega
      obtain ⟨g, rfl⟩ := hO.at (by omega)
      have HB := Lib.hid hB
      have HO : Hid (OwnInts wr w.heap.size (some ⟨g, 0, none⟩) k c (fl k (aft k st m 0))) := Lib.hid hO
      have hKa := hK
      clear hK hlt hk hB hO
      obtain ⟨wa, rfl⟩ : ∃ wa : World, wa = wr := ⟨_, rfl⟩
      go_wp2_with fail
      go_loopw [8, 6] (fun i s wr => ∃ (r c g : Nat), r ≤ R ∧ i = .int .i64 ((r : Int) + 1) ∧ s = .slice (some ⟨g, 0, none⟩) k c ∧ OwnInts wr w.heap.size (some ⟨g, 0, none⟩) k c (fl k (aft k st m r)) ∧ Blk wr w.heap.size 26 #[.slice I k ci, .slice S m cs] ∧ Keeps w wr) (fun i _ _ => R + 1 - (intOf i).toNat)
      case atStart => exact ⟨0, c, g, by omega, rfl, rfl, HO.out, HB.out, hKa⟩
      case round =>
        clear HB HO hKa
        obtain ⟨r, c, g, hr, rfl, rfl, hO, hB, hK⟩ := hrel
        by_cases hlt : r < R
        · have hle : (r : Int) + 1 ≤ R := by omega
          have hob := hO.block
          have hsz := hK.size
          have hcells : ∀ i, i < k → wr.cell? ⟨g, 0 + i, none⟩ = some (.int .i64 ((aft k st m r i : Nat) : Int)) := fun i hi => by rw [Nat.zero_add, hO.cell i hi, fl_getD _ _ _ hi]
          have HC := Lib.hid hcells
          have HO := Lib.hid hO
          have HB := Lib.hid hB
          have HRL := Lib.hid (show r + 1 ≤ R from hlt)
          have hKb := hK
          clear hO hB hK hcells hr hlt
          obtain ⟨wb, rfl⟩ : ∃ wb : World, wb = wr := ⟨_, rfl⟩
          go_wp2_with (first | (at_builtin; refine wp_spread_int rfl _ _ rfl wb.heap.size (some ⟨wb.heap.size, 0, none⟩) 0 0 [] _ rfl (OwnInts.made _ _ (Nat.le_refl _)) g 0 k c (fun i => ((aft k st m r i : Nat) : Int)) rfl (fun i hi => cell_keeps (Keeps.alloc _ _) (HC.out i hi)) (by omega) (by omega) (by simp) ?_; intro g2 c2 w6 hO6 hg6))
          have hO6 : OwnInts w6 wb.heap.size (some ⟨g2, 0, none⟩) k c2 (fl k (aft k st m r)) := by simpa [fl] using hO6
          have hKc : Keeps wb w6 := (Keeps.alloc wb _).grown (OwnInts.made wb wb.heap.size (Nat.le_refl _)) (Nat.le_refl _) hg6
          have hb2 := hO6.block
          have hgg : g ≠ g2 := by omega
          have HB6 := Lib.hid (HB.out.keeps hKc)
          have HO' := Lib.hid (HO.out.keeps hKc)
          have HO6 := Lib.hid hO6
          have hKd := hKb.step hKc
          have hKb2 := Lib.hid hKb.size
          clear HB HO hO6 hKb hKc hg6 HC
          go_loopw [10] (fun i wr => ∃ p : Nat, p ≤ k ∧ i = .int .i64 p ∧ OwnInts wr w.heap.size (some ⟨g, 0, none⟩) k c (fl k (aft k st m r)) ∧ OwnInts wr wb.heap.size (some ⟨g2, 0, none⟩) k c2 (fl k (upTo p (aft k st m (r + 1)) (aft k st m r))) ∧ Blk wr w.heap.size 26 #[.slice I k ci, .slice S m cs] ∧ Keeps w wr) (fun i _ => k - (intOf i).toNat)
          case atStart => exact ⟨0, by omega, rfl, HO'.out, HO6.out, HB6.out, hKd⟩
          case round =>
            clear HB6 HO' HO6 hKd
            obtain ⟨p, hp, rfl, hO, hO2, hB, hK⟩ := hrel
            by_cases hlt : p < k
            · have HO := Lib.hid hO
              have HO2 := Lib.hid hO2
              have HB := Lib.hid hB
              have hKe := hK
              have HW := Lib.hid (aft_wish HOK.out r p (Nat.le_trans HRL.out hR))
              clear hO hO2 hB hK
              obtain ⟨wc, rfl⟩ : ∃ wc : World, wc = wr := ⟨_, rfl⟩
              go_wp2_with fail
              go_loopw [11] (fun i wr => ∃ q : Nat, q ≤ k ∧ i = .int .i64 q ∧ OwnInts wr w.heap.size (some ⟨g, 0, none⟩) k c (fl k (aft k st m r)) ∧ OwnInts wr wb.heap.size (some ⟨g2, 0, none⟩) k c2 (fl k (fun i => if i = p then orN (wishB st m p (r + 1)) (aft k st m r) (aft k st m r p) q else upTo p (aft k st m (r + 1)) (aft k st m r) i)) ∧ Blk wr w.heap.size 26 #[.slice I k ci, .slice S m cs] ∧ Keeps w wr) (fun i _ => k - (intOf i).toNat)
              case atStart =>
                refine ⟨0, by omega, rfl, HO.out, ?_, HB.out, hKe⟩
                rw [fl_congr k _ (upTo p (aft k st m (r + 1)) (aft k st m r)) (fun i _ => by
                  by_cases hi : i = p
                  · subst hi; rw [if_pos rfl]; unfold upTo; rw [if_neg (by omega)]; rfl
                  · rw [if_neg hi])]
                exact HO2.out
              case round =>
                clear HO HO2 HB hKe
                obtain ⟨q, hq, rfl, hO, hO2, hB, hK⟩ := hrel
                by_cases hlq : q < k
                · have hpi : (p : Int) < k := by omega
                  have hqi : (q : Int) < k := by omega
                  have CH : Hid (∀ w', Keeps w w' → Calls Try.prog 75 #[.agg #[.slice I k ci, .slice S m cs], .int .i64 q, .int .i64 p, .int .i64 ((r : Int) + 1)] w' fun e w'' => e = .returned (.bool (hearsB st m q p (r + 1))) ∧ Keeps w' w'') := Lib.hid (fun w' hs => hears_any I S k ci m cs q p (r + 1) st w' hm (by omega) HHE.out (HS.out.keeps hs))
                  have CS : Hid (∀ w', Keeps w w' → Calls Try.prog 76 #[.agg #[.slice I k ci, .slice S m cs], .int .i64 p, .int .i64 (r : Int)] w' fun e w'' => e = .returned (.bool (stopsB st m p r)) ∧ Keeps w' w'') := Lib.hid (fun w' hs => stopsBy_any I S k ci m cs p r st w' hm (HS.out.keeps hs))
                  have HT : Hid (wishB st m p (r + 1) q = (decide (p ≠ q) && hearsB st m q p (r + 1) && !stopsB st m p r)) := Lib.hid (by unfold wishB; rw [show (((r + 1 : Nat) : Int) - 1) = (r : Int) by omega])
                  have HN := Lib.hid (show orN (wishB st m p (r + 1)) (aft k st m r) (aft k st m r p) (q + 1) = if wishB st m p (r + 1) q then orN (wishB st m p (r + 1)) (aft k st m r) (aft k st m r p) q ||| aft k st m r q else orN (wishB st m p (r + 1)) (aft k st m r) (aft k st m r p) q from rfl)
                  have b0 : wr.cell? ⟨w.heap.size, 0, none⟩ = some (.slice I k ci) := hB.cell 0
                  have b1 : wr.cell? ⟨w.heap.size, 1, none⟩ = some (.slice S m cs) := hB.cell 1
                  have HSK : Hid (wishB st m p (r + 1) q = false → OwnInts wr wb.heap.size (some ⟨g2, 0, none⟩) k c2 (fl k (fun i => if i = p then orN (wishB st m p (r + 1)) (aft k st m r) (aft k st m r p) (q + 1) else upTo p (aft k st m (r + 1)) (aft k st m r) i))) := Lib.hid (fun h => by rw [HN.out, h]; exact hO2)
                  have HO := Lib.hid hO
                  have HO2 := Lib.hid hO2
                  have HB := Lib.hid hB
                  clear hO hO2 hB
                  cases e1 : ((p : Int) != (q : Int))
                  · have HS0 := Lib.hid (HSK.out (by rw [HT.out, show decide (p ≠ q) = false by simp at e1; simp; omega]; rfl))
                    go_wp2
                    go_roundw
                    case rel => exact ⟨q + 1, by omega, by go_num, HO.out, HS0.out, HB.out, hK⟩
                    case measure => simp [intOf]; omega
                  · have HPQ : Hid (decide (p ≠ q) = true) := Lib.hid (by simp at e1; simp; omega)
                    go_wp2_with fail
                    refine (CH.out _ hK).mono ?_
                    rintro e w1 ⟨rfl, hk1⟩
                    have b0' := cell_keeps hk1 b0
                    have b1' := cell_keeps hk1 b1
                    cases e2 : hearsB st m q p (r + 1)
                    · have HS0 := Lib.hid (HSK.out (by rw [HT.out, e2, HPQ.out]; rfl))
                      go_wp2
                      go_roundw
                      case rel => exact ⟨q + 1, by omega, by go_num, HO.out.keeps hk1, HS0.out.keeps hk1, HB.out.keeps hk1, hK.step hk1⟩
                      case measure => simp [intOf]; omega
                    · go_wp2_with fail
                      refine (CS.out _ (hK.step hk1)).mono ?_
                      rintro e w2 ⟨rfl, hk2⟩
                      cases e3 : stopsB st m p r
                      · have HWT := Lib.hid (show wishB st m p (r + 1) q = true by rw [HT.out, e2, e3, HPQ.out]; rfl)
                        have hkk := hk1.step hk2
                        have o1 := HO.out.keeps hkk
                        have o2 := HO2.out.keeps hkk
                        have hbb := HB.out.keeps hkk
                        have hb1 := o1.block
                        have hb2 := o2.block
                        have hc1 := o1.cell q hlq
                        have hc2 := o2.cell p hlt
                        have hf2 := o2.frozen p
                        rw [fl_getD _ _ _ hlq] at hc1
                        rw [fl_getD _ _ _ hlt, if_pos rfl] at hc2
                        have hp16 : 2 ^ k ≤ 16 := Nat.le_trans (Nat.pow_le_pow_right (by omega) (show k ≤ 4 by omega)) (by omega)
                        have ha1 := aft_lt k st m r q hlq
                        have ha2 := orN_lt (f := wishB st m p (r + 1)) q (aft_lt k st m r p hlt) (fun i hi => aft_lt k st m r i (by omega))
                        have hor := bits_or (orN (wishB st m p (r + 1)) (aft k st m r) (aft k st m r p) q) (aft k st m r q) (by omega) (by omega)
                        have HO1 := Lib.hid o1
                        have HO2 := Lib.hid o2
                        have HBB := Lib.hid hbb
                        have HNE := Lib.hid hgg
                        have HN2 : Hid (orN (wishB st m p (r + 1)) (aft k st m r) (aft k st m r p) (q + 1) = orN (wishB st m p (r + 1)) (aft k st m r) (aft k st m r p) q ||| aft k st m r q) := Lib.hid (by rw [HN.out, HWT.out]; rfl)
                        clear o1 o2 hbb ha1 ha2 hp16
                        generalize orN (wishB st m p (r + 1)) (aft k st m r) (aft k st m r p) q = va at *
                        generalize aft k st m r q = vb at *
                        go_wp2_with fail
                        go_region
                        go_wp2
                        go_roundw
                        case rel =>
                          refine ⟨q + 1, by omega, by go_num, (HO1.out.keeps (Keeps.drew1 _)).set_other _ _ _ (fun e => HNE.out e.symm), ?_, (HBB.out.keeps (Keeps.drew1 _)).set_other _ _ (by simp; omega), ((hK.step hkk).step (Keeps.drew1 _)).setCell (by simp; omega) _⟩
                          have := (HO2.out.keeps (Keeps.drew1 _)).set p ((va ||| vb : Nat) : Int)
                          rw [fl_set] at this
                          rw [HN2.out]
                          rw [fl_congr k _ (fun i => if i = p then va ||| vb else if i = p then va else upTo p (aft k st m (r + 1)) (aft k st m r) i) (fun i _ => by by_cases h : i = p <;> simp [h])]
                          exact this
                        case measure => simp [intOf]; omega
                      · have HS0 := Lib.hid (HSK.out (by rw [HT.out, e2, e3, HPQ.out]; rfl))
                        have hkk := hk1.step hk2
                        go_wp2
                        go_roundw
                        case rel => exact ⟨q + 1, by omega, by go_num, HO.out.keeps hkk, HS0.out.keeps hkk, HB.out.keeps hkk, hK.step hkk⟩
                        case measure => simp [intOf]; omega
                · obtain rfl : q = k := by omega
                  have HO := Lib.hid hO
                  have HO2 := Lib.hid hO2
                  have HB := Lib.hid hB
                  clear hO hO2 hB
                  go_wp2
                  go_roundw
                  case rel =>
                    refine ⟨p + 1, by omega, by go_num, HO.out, ?_, HB.out, hK⟩
                    rw [← upTo_set, HW.out]
                    exact HO2.out
                  case measure => simp [intOf]; omega
            · obtain rfl : p = k := by omega
              have HO := Lib.hid hO
              have HO2 := Lib.hid hO2
              have HB := Lib.hid hB
              clear hO hO2 hB
              go_wp2
              go_roundw
              case rel =>
                refine ⟨r + 1, c2, g2, HRL.out, by go_num, rfl, ?_, HB.out, hK⟩
                rw [fl_congr p _ (upTo p (aft p st m (r + 1)) (aft p st m r)) (fun i hi => by unfold upTo; rw [if_pos hi])]
                exact HO2.out.mono hKb2.out
              case measure => simp [intOf]; omega
        · obtain rfl : r = R := by omega
          have HO := Lib.hid hO
          have HB := Lib.hid hB
          clear hO hB
          go_wp2
          go_ret
          exact ⟨g, c, rfl, HO.out, hK⟩
end Go.Proofs.Ytepgogaoppdllaa
