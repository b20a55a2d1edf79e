/-
  The reference's insert: a list with one more at its place, if it is not there. Conditions: lists of equal lengths; bounds on lengths.
-/
import Derived.Test.YtaejakejnllimaaIns
namespace Go.Proofs.Ytaejakejnllimaa
set_option maxRecDepth 100000
set_option linter.unusedVariables false
open Go.RowKit

theorem Crd.empty {W : World} {lo g : Nat} (h : Blk W g 23 #[]) (hlo : lo ≤ g) : Crd W lo (some ⟨g, 0, none⟩) 0 0 [] :=
  ⟨⟨rfl, .inr ⟨g, 0, #[], rfl, hlo, h, Nat.le_refl _, Nat.zero_le _, rfl, rfl⟩⟩, fun h hh => by simp at hh⟩
theorem Keeps.grownAt {w0 W W' : World} (h : Keeps w0 W) {g1 : Nat} (hg : W.grownBy W' (some g1)) (h1 : w0.heap.size ≤ g1) : Keeps w0 W' :=
  ⟨hg.os.trans h.os, hg.tape.trans h.tape, hg.output.trans h.output, Nat.le_trans h.size hg.size, fun i hi => (hg.block i (Nat.lt_of_lt_of_le hi h.size) (fun e => absurd (show i = g1 by simpa using e) (by omega))).trans (h.block i hi)⟩
set_option maxRecDepth 100000 in
set_option maxHeartbeats 4000000 in
theorem insert_any (g m c lo n : Nat) (R : List Hdr) (x : Hdr) (w : World) (hR : Crn w lo (some ⟨g, 0, none⟩) m R) (hx : OwnInts w lo (some ⟨x.g, 0, none⟩) x.l.length x.d x.l) (hn : n ≤ 1000) (hxl : x.l.length = n) (hl : ∀ h ∈ R, h.l.length = n) (hm : m ≤ 100000) (hmc : m ≤ c) (hc : c ≤ 9223372036854775807) (hlo : lo ≤ w.heap.size) :
    Calls Try.prog 59 #[.slice (some ⟨g, 0, none⟩) m c, x.v] w fun e w' => ∃ g' m' c' R', e = .returned (.slice (some ⟨g', 0, none⟩) m' c') ∧ R'.map (·.l) = insL x.l (R.map (·.l)) ∧ (∀ h ∈ R', h ∈ R ∨ h = x) ∧ Crn w' lo (some ⟨g', 0, none⟩) m' R' ∧ (m' ≤ c' ∧ c' ≤ 9223372036854775807) ∧ Keeps w w' ∧ (w.heap.size ≤ g' ∨ (g' = g ∧ m' = m ∧ c' = c ∧ R' = R)) := by
  have hlen := hR.len
  have HR := Lib.hid hR
  have HX := Lib.hid hx
  have HL : Hid (∀ i, i < m → (R.getD i default).l.length = n) := Lib.hid (fun i hi => by
    refine hl _ ?_
    rw [List.getD_eq_getElem?_getD, List.getElem?_eq_getElem (by omega)]
    exact List.getElem_mem _)
  have HG : Hid (∀ i, i < m → (R.map (·.l)).getD i [] = (R.getD i default).l) := Lib.hid (fun i hi => by
    rw [List.getD_eq_getElem?_getD, List.getElem?_map, List.getElem?_eq_getElem (by omega), List.getD_eq_getElem?_getD, List.getElem?_eq_getElem (by omega)]
    rfl)
  have HXL := Lib.hid hxl
  have HLEN := Lib.hid hlen
  clear hR hx hl hlen
  unfold Hdr.v
  rw [hxl]
  obtain ⟨xg, hxg⟩ : ∃ y, y = x.g := ⟨_, rfl⟩
  obtain ⟨xc, hxc⟩ : ∃ y, y = x.c := ⟨_, rfl⟩
  rw [← hxg, ← hxc]
  have HXG := Lib.hid (And.intro hxg hxc)
  have CLS : Hid (∀ w', Keeps w w' → ∀ i, i < m → Calls Try.prog 78 #[.slice (some ⟨(R.getD i default).g, 0, none⟩) n (R.getD i default).c, .slice (some ⟨xg, 0, none⟩) n xc] w' fun e w'' => e = .returned (.bool (ltL (R.getD i default).l x.l)) ∧ Keeps w' w'') := Lib.hid (fun w' hk i hi =>
    less_any _ _ n _ _ _ _ w' (HL.out i hi) hxl (by omega) (by have h := ((HR.out.keeps hk).rowD i hi).ints; rwa [HL.out i hi] at h) (by have h := (HX.out.keeps hk).ints; rw [hxl] at h; rwa [hxg]))
  have CSM : Hid (∀ w', Keeps w w' → ∀ i, i < m → Calls Try.prog 39 #[.slice (some ⟨(R.getD i default).g, 0, none⟩) n (R.getD i default).c, .slice (some ⟨xg, 0, none⟩) n xc] w' fun e w'' => e = .returned (.bool (decide ((R.getD i default).l = x.l))) ∧ Keeps w' w'') := Lib.hid (fun w' hk i hi =>
    same_any _ _ n _ _ _ _ w' (HL.out i hi) hxl (by omega) (by have h := ((HR.out.keeps hk).rowD i hi).ints; rwa [HL.out i hi] at h) (by have h := (HX.out.keeps hk).ints; rw [hxl] at h; rwa [hxg]))
  have HCELL : Hid (∀ w', Keeps w w' → ∀ i, i < m → w'.cell? ⟨g, i, none⟩ = some (.slice (some ⟨(R.getD i default).g, 0, none⟩) n (R.getD i default).c)) := Lib.hid (fun w' hk i hi => by
    rw [(HR.out.keeps hk).cell i hi]
    unfold Hdr.v
    rw [HL.out i hi])
  clear hxg hxc hxl
  go_enter Try.func59, Try.ntmps59
  go_wp2_with fail
  go_loopw [5] (fun i wr => ∃ k : Nat, k ≤ m ∧ i = .int .i64 k ∧ Hid (∀ i, i < k → ltL (R.getD i default).l x.l = true) ∧ Hid (Keeps w wr)) (fun i _ => m - (intOf i).toNat)
  case atStart => exact ⟨0, by omega, rfl, Lib.hid (fun i hi => absurd hi (Nat.not_lt_zero _)), Lib.hid (Keeps.refl _)⟩
  case round =>
    obtain ⟨k, hk, rfl, HA, HK⟩ := hrel
    by_cases hlt : k < m
    · have hki : (k : Int) < m := by omega
      have hcell := HCELL.out wr HK.out k hlt
      have HLE := Lib.hid (CLS.out wr HK.out k hlt)
      have CS2 := Lib.hid (fun w' hk => CSM.out w' hk k hlt)
      generalize hgk : (R.getD k default).g = gk at *
      generalize hck : (R.getD k default).c = ck at *
      cases hb : ltL (R.getD k default).l x.l
      · rw [hb] at HLE
        have HST : Hid (k = cutL x.l (R.map (·.l))) := Lib.hid (cutL_eq (by rw [List.length_map, HLEN.out]; omega) (fun i hi => by rw [HG.out i (by omega)]; exact HA.out i hi) (fun _ => by rw [HG.out k hlt]; exact hb))
        clear hb
        go_wp2_with fail
        refine HLE.out.mono ?_
        rintro e w1 ⟨rfl, hk1⟩
        have HK1 := Lib.hid (HK.out.step hk1)
        have hcell1 := cell_keeps hk1 hcell
        have CS3 := Lib.hid (CS2.out w1 HK1.out)
        clear hk1 hcell HLE CS2
        cases hs : decide ((R.getD k default).l = x.l)
        · rw [hs] at CS3
          have HNE : Hid (insL x.l (R.map (·.l)) = (R.take k).map (·.l) ++ x.l :: (R.drop k).map (·.l)) := Lib.hid (by
            unfold insL
            rw [← HST.out, if_neg (fun h => of_decide_eq_false hs (by rw [← HG.out k hlt]; exact h.2)), List.map_take, List.map_drop])
          clear hs
          go_wp2_with fail
          refine CS3.out.mono ?_
          rintro e w2 ⟨rfl, hk2⟩
          have HK2 := Lib.hid (HK1.out.step hk2)
          clear hk2 CS3 hcell1
          have hkm : (k : Int) ≤ m := by omega
          have hkc : (k : Int) ≤ c := by omega
          have hmci : (m : Int) ≤ c := by omega
          have hck2 : c ≠ k := by omega
          have hck3 : (c : Int) ≠ k := by omega
          have HZ1 : Hid (∀ W, Keeps w W → ∀ j, j < k → W.cell? ⟨g, 0 + j, none⟩ = some ((R.take k).getD j default).v) := Lib.hid (fun W hK j hj => by
            rw [Nat.zero_add, (HR.out.keeps hK).cell j (by omega), List.getD_eq_getElem?_getD, List.getD_eq_getElem?_getD, List.getElem?_take_of_lt hj])
          have HZ2 : Hid (∀ W, Keeps w W → ∀ j, j < m - k → W.cell? ⟨g, k + j, none⟩ = some ((R.drop k).getD j default).v) := Lib.hid (fun W hK j hj => by
            rw [(HR.out.keeps hK).cell (k + j) (by omega), List.getD_eq_getElem?_getD, List.getD_eq_getElem?_getD, List.getElem?_drop])
          have HRW : Hid (∀ W, Keeps w W → ∀ h ∈ R, OwnInts W lo (some ⟨h.g, 0, none⟩) h.l.length h.d h.l) := Lib.hid (fun W hK h hh => (HR.out.keeps hK).row h hh)
          have HXW : Hid (∀ W, Keeps w W → ∀ h ∈ [x], OwnInts W lo (some ⟨h.g, 0, none⟩) h.l.length h.d h.l) := Lib.hid (fun W hK h hh => by rw [List.mem_singleton] at hh; subst hh; exact HX.out.keeps hK)
          have HXV : Hid (∀ W B, Blk W B 23 #[.slice (some ⟨xg, 0, none⟩) n xc] → ∀ j, j < 1 → W.cell? ⟨B, 0 + j, none⟩ = some (([x].getD j default)).v) := Lib.hid (fun W B hb j hj => by
            obtain rfl : j = 0 := by omega
            rw [Nat.zero_add, hb.cell 0]
            unfold Hdr.v
            rw [HXG.out.1, HXG.out.2, ← HXL.out]
            rfl)
          have HTK : Hid ((R.take k).length = k) := Lib.hid (by rw [List.length_take]; have := HLEN.out; omega)
          have HDP : Hid ((R.drop k).length = m - k) := Lib.hid (by rw [List.length_drop]; have := HLEN.out; omega)
          have hsz2 : w.heap.size ≤ w2.heap.size := HK2.out.size
          have HBa : Hid (Blk (w2.alloc (.cells #[] 23)).drew w2.heap.size 23 #[]) := Lib.hid (Blk.new w2 _ _)
          have HBb : Hid (Blk ((w2.alloc (.cells #[] 23)).alloc (.cells #[.slice (some ⟨xg, 0, none⟩) n xc] 23)).drew w2.heap.size 23 #[]) := Lib.hid ((Blk.new w2 _ _).keeps ((Keeps.alloc _ _).step (Keeps.drew1 _)))
          have HBb2 : Hid (Blk ((w2.alloc (.cells #[] 23)).alloc (.cells #[.slice (some ⟨xg, 0, none⟩) n xc] 23)).drew (w2.heap.size + 1) 23 #[.slice (some ⟨xg, 0, none⟩) n xc]) := Lib.hid (blk_at (by simp) (Blk.new (w2.alloc (.cells #[] 23)) #[.slice (some ⟨xg, 0, none⟩) n xc] 23))
          have HBc : Hid (Blk ((w2.alloc (.cells #[.slice (some ⟨xg, 0, none⟩) n xc] 23)).alloc (.cells #[] 23)).drew (w2.heap.size + 1) 23 #[]) := Lib.hid (blk_at (by simp) (Blk.new (w2.alloc (.cells #[.slice (some ⟨xg, 0, none⟩) n xc] 23)) #[] 23))
          have HBc2 : Hid (Blk ((w2.alloc (.cells #[.slice (some ⟨xg, 0, none⟩) n xc] 23)).alloc (.cells #[] 23)).drew w2.heap.size 23 #[.slice (some ⟨xg, 0, none⟩) n xc]) := Lib.hid ((Blk.new w2 _ _).keeps ((Keeps.alloc _ _).step (Keeps.drew1 _)))
          have KA : Hid (Keeps w2 (w2.alloc (.cells #[] 23)).drew) := Lib.hid ((Keeps.alloc w2 _).step (Keeps.drew1 _))
          have KB : Hid (Keeps w2 ((w2.alloc (.cells #[] 23)).alloc (.cells #[.slice (some ⟨xg, 0, none⟩) n xc] 23)).drew) := Lib.hid (((Keeps.alloc w2 _).step (Keeps.alloc _ _)).step (Keeps.drew1 _))
          have KC : Hid (Keeps w2 ((w2.alloc (.cells #[.slice (some ⟨xg, 0, none⟩) n xc] 23)).alloc (.cells #[] 23)).drew) := Lib.hid (((Keeps.alloc w2 _).step (Keeps.alloc _ _)).step (Keeps.drew1 _))
          have hlo2 : lo ≤ w2.heap.size := by omega
          go_wp2_with fail
          go_region_law (first | (refine step_spread_crd rfl (.tmp 40) (.tmp 43) rfl lo g4 (k + 1) c4 _ _ rfl hC4 _ _ (m - k) _ rfl (R.drop k) HDP.out (HZ2.out _ (HK2.out.step hK4)) (fun h hh => HRW.out _ (HK2.out.step hK4) h (List.mem_of_mem_drop hh)) (by omega) (Nat.le_trans hlo2 hK4.size) ?_; intro g5 c5 w5 hC5 hg5 hor5) | (refine step_spread_crd rfl (.tmp 37) (.tmp 39) rfl lo g3 k c3 _ _ rfl (hC3.keeps (Keeps.alloc _ _)) w3.heap.size 0 1 1 rfl [x] rfl (HXV.out _ _ (hpA w3)) (HXW.out _ ((HK2.out.step hK3).step (Keeps.alloc _ _))) (by omega) (Nat.le_trans (Nat.le_trans hlo2 hK3.size) (Keeps.alloc w3 _).size) ?_; intro g4 c4 w4 hC4 hg4 hor4; have hK4 := (hK3.step (Keeps.alloc w3 _)).grownAt hg4 hg3w; have hg4w : w2.heap.size ≤ g4 := (by have h1 := (hK3.step (Keeps.alloc w3 (.cells #[.slice (some ⟨xg, 0, none⟩) n xc] 23))).size; rcases hor4 with e | e <;> omega)) | (refine step_spread_crd rfl (.tmp 37) (.tmp 39) rfl lo g3 k c3 _ _ rfl hC3 _ 0 1 1 rfl [x] rfl (HXV.out _ _ hBx3) (HXW.out _ (HK2.out.step hK3)) (by omega) (Nat.le_trans hlo2 hK3.size) ?_; intro g4 c4 w4 hC4 hg4 hor4; have hK4 := hK3.grownAt hg4 hg3w; have hg4w : w2.heap.size ≤ g4 := (by have h1 := hK3.size; rcases hor4 with e | e <;> omega)) | (refine step_spread_crd rfl (.tmp 33) (.tmp 36) rfl lo (w2.heap.size) 0 0 [] _ rfl (Crd.empty HBa.out (by omega)) g 0 k c rfl (R.take k) HTK.out (HZ1.out _ (HK2.out.step KA.out)) (fun h hh => HRW.out _ (HK2.out.step KA.out) h (List.mem_of_mem_take hh)) (by omega) (Nat.le_trans hlo2 (KA.out).size) ?_; intro g3 c3 w3 hC3 hg3 hor3; rw [Nat.zero_add, List.nil_append] at hC3; have hK3 := (KA.out).grownAt hg3 (by omega); have hg3w : w2.heap.size ≤ g3 := (by have h1 := (KA.out).size; rcases hor3 with e | e <;> omega); have hpA : ∀ W : World, Blk (W.alloc (.cells #[.slice (some ⟨xg, 0, none⟩) n xc] 23)) W.heap.size 23 #[.slice (some ⟨xg, 0, none⟩) n xc] := fun W => Blk.new W _ _) | (refine step_spread_crd rfl (.tmp 33) (.tmp 36) rfl lo (w2.heap.size) 0 0 [] _ rfl (Crd.empty HBb.out (by omega)) g 0 k c rfl (R.take k) HTK.out (HZ1.out _ (HK2.out.step KB.out)) (fun h hh => HRW.out _ (HK2.out.step KB.out) h (List.mem_of_mem_take hh)) (by omega) (Nat.le_trans hlo2 (KB.out).size) ?_; intro g3 c3 w3 hC3 hg3 hor3; rw [Nat.zero_add, List.nil_append] at hC3; have hK3 := (KB.out).grownAt hg3 (by omega); have hg3w : w2.heap.size ≤ g3 := (by have h1 := (KB.out).size; rcases hor3 with e | e <;> omega); have hBx3 := HBb2.out.grown hg3 (by simp)) | (refine step_spread_crd rfl (.tmp 33) (.tmp 36) rfl lo (w2.heap.size + 1) 0 0 [] _ rfl (Crd.empty HBc.out (by omega)) g 0 k c rfl (R.take k) HTK.out (HZ1.out _ (HK2.out.step KC.out)) (fun h hh => HRW.out _ (HK2.out.step KC.out) h (List.mem_of_mem_take hh)) (by omega) (Nat.le_trans hlo2 (KC.out).size) ?_; intro g3 c3 w3 hC3 hg3 hor3; rw [Nat.zero_add, List.nil_append] at hC3; have hK3 := (KC.out).grownAt hg3 (by omega); have hg3w : w2.heap.size ≤ g3 := (by have h1 := (KC.out).size; rcases hor3 with e | e <;> omega); have hBx3 := HBc2.out.grown hg3 (by simp)))
          all_goals
            have HK5 := Lib.hid (HK2.out.step (hK4.grownAt hg5 hg4w))
            have HC5 := Lib.hid hC5
            have HGE : Hid (w.heap.size ≤ g5) := Lib.hid (by have h1 := hK4.size; rcases hor5 with e | e <;> omega)
            have HCC : Hid (k + 1 + (m - k) ≤ c5 ∧ c5 ≤ 9223372036854775807) := Lib.hid (by
              obtain ⟨_, _, _, h1, h2, _, _⟩ := hC5.top_blk
              unfold maxLen at h2
              omega)
            have HFE : Hid ((R.take k ++ [x] ++ R.drop k).map (·.l) = insL x.l (R.map (·.l))) := Lib.hid (by rw [HNE.out]; simp)
            have HFM : Hid (∀ h ∈ R.take k ++ [x] ++ R.drop k, h ∈ R ∨ h = x) := Lib.hid (fun h hh => by
              rcases List.mem_append.1 hh with e | e
              · rcases List.mem_append.1 e with e | e
                · exact .inl (List.mem_of_mem_take e)
                · exact .inr (List.mem_singleton.1 e)
              · exact .inl (List.mem_of_mem_drop e))
            go_wp2_with fail
            go_ret
            first | exact ⟨g5, k + 1 + (m - k), c5, rfl, _, HFE.out, HFM.out, HC5.out.crn, HCC.out, HK5.out, .inl HGE.out⟩ | exact ⟨g5, k + 1 + (m - k), c5, _, rfl, HFE.out, HFM.out, HC5.out.crn, HCC.out, HK5.out, .inl HGE.out⟩
        · rw [hs] at CS3
          have HEQ : Hid (insL x.l (R.map (·.l)) = R.map (·.l)) := Lib.hid (by
            unfold insL
            rw [← HST.out, if_pos ⟨by rw [List.length_map, HLEN.out]; exact hlt, by rw [HG.out k hlt]; exact of_decide_eq_true hs⟩])
          clear hs
          go_wp2_with fail
          refine CS3.out.mono ?_
          rintro e w2 ⟨rfl, hk2⟩
          have HK2 := Lib.hid (HK1.out.step hk2)
          clear hk2 CS3
          go_wp2_with fail
          go_ret
          exact ⟨g, m, c, R, rfl, HEQ.out.symm, fun h hh => .inl hh, HR.out.keeps HK2.out, ⟨hmc, hc⟩, HK2.out, .inr ⟨rfl, rfl, rfl, rfl⟩⟩
      · rw [hb] at HLE
        have HB := Lib.hid hb
        clear hb
        go_wp2_with fail
        refine HLE.out.mono ?_
        rintro e w1 ⟨rfl, hk1⟩
        have HK1 := Lib.hid (HK.out.step hk1)
        clear hk1 CS2
        go_wp2_with fail
        go_roundw
        case rel =>
          refine ⟨k + 1, by omega, by go_num, Lib.hid (fun i hi => ?_), HK1⟩
          by_cases e : i = k
          · rw [e]; exact HB.out
          · exact HA.out i (by omega)
        case measure => simp [intOf]; omega
    · obtain rfl : k = m := by omega
      have HNE : Hid (insL x.l (R.map (·.l)) = R.map (·.l) ++ [x.l]) := Lib.hid (by
        have h : k = cutL x.l (R.map (·.l)) := cutL_eq (by rw [List.length_map, HLEN.out]; omega) (fun i hi => by rw [HG.out i (by omega)]; exact HA.out i hi) (fun h => by rw [List.length_map, HLEN.out] at h; omega)
        unfold insL
        rw [← h, if_neg (fun h => by have := h.1; rw [List.length_map, HLEN.out] at this; omega), List.take_of_length_le (by rw [List.length_map, HLEN.out]; omega), List.drop_eq_nil_of_le (by rw [List.length_map, HLEN.out]; omega)])
      replace HNE : Hid (insL x.l (R.map (·.l)) = (R.take k).map (·.l) ++ x.l :: (R.drop k).map (·.l)) := Lib.hid (by rw [HNE.out, List.take_of_length_le (by have := HLEN.out; omega), List.drop_eq_nil_of_le (by have := HLEN.out; omega)]; simp)
      have hkc : (k : Int) ≤ c := by omega
      have hkk0 : ¬ (k : Int) < k := by omega
      by_cases hck2 : c = k
      · replace hck2 := hck2.symm
        subst hck2
        have HZ1 : Hid (∀ W, Keeps w W → ∀ j, j < k → W.cell? ⟨g, 0 + j, none⟩ = some ((R.take k).getD j default).v) := Lib.hid (fun W hK j hj => by
          rw [Nat.zero_add, (HR.out.keeps hK).cell j (by omega), List.getD_eq_getElem?_getD, List.getD_eq_getElem?_getD, List.getElem?_take_of_lt hj])
        have HZ2 : Hid (∀ W, Keeps w W → ∀ j, j < 0 → W.cell? ⟨g, k + j, none⟩ = some ((R.drop k).getD j default).v) := Lib.hid (fun W hK j hj => by
          rw [(HR.out.keeps hK).cell (k + j) (by omega), List.getD_eq_getElem?_getD, List.getD_eq_getElem?_getD, List.getElem?_drop])
        have HRW : Hid (∀ W, Keeps w W → ∀ h ∈ R, OwnInts W lo (some ⟨h.g, 0, none⟩) h.l.length h.d h.l) := Lib.hid (fun W hK h hh => (HR.out.keeps hK).row h hh)
        have HXW : Hid (∀ W, Keeps w W → ∀ h ∈ [x], OwnInts W lo (some ⟨h.g, 0, none⟩) h.l.length h.d h.l) := Lib.hid (fun W hK h hh => by rw [List.mem_singleton] at hh; subst hh; exact HX.out.keeps hK)
        have HXV : Hid (∀ W B, Blk W B 23 #[.slice (some ⟨xg, 0, none⟩) n xc] → ∀ j, j < 1 → W.cell? ⟨B, 0 + j, none⟩ = some (([x].getD j default)).v) := Lib.hid (fun W B hb j hj => by
          obtain rfl : j = 0 := by omega
          rw [Nat.zero_add, hb.cell 0]
          unfold Hdr.v
          rw [HXG.out.1, HXG.out.2, ← HXL.out]
          rfl)
        have HTK : Hid ((R.take k).length = k) := Lib.hid (by rw [List.length_take]; have := HLEN.out; omega)
        have HDP : Hid ((R.drop k).length = 0) := Lib.hid (by rw [List.length_drop]; have := HLEN.out; omega)
        have hsz2 : w.heap.size ≤ wr.heap.size := HK.out.size
        have HBa : Hid (Blk (wr.alloc (.cells #[] 23)).drew wr.heap.size 23 #[]) := Lib.hid (Blk.new wr _ _)
        have HBb : Hid (Blk ((wr.alloc (.cells #[] 23)).alloc (.cells #[.slice (some ⟨xg, 0, none⟩) n xc] 23)).drew wr.heap.size 23 #[]) := Lib.hid ((Blk.new wr _ _).keeps ((Keeps.alloc _ _).step (Keeps.drew1 _)))
        have HBb2 : Hid (Blk ((wr.alloc (.cells #[] 23)).alloc (.cells #[.slice (some ⟨xg, 0, none⟩) n xc] 23)).drew (wr.heap.size + 1) 23 #[.slice (some ⟨xg, 0, none⟩) n xc]) := Lib.hid (blk_at (by simp) (Blk.new (wr.alloc (.cells #[] 23)) #[.slice (some ⟨xg, 0, none⟩) n xc] 23))
        have HBc : Hid (Blk ((wr.alloc (.cells #[.slice (some ⟨xg, 0, none⟩) n xc] 23)).alloc (.cells #[] 23)).drew (wr.heap.size + 1) 23 #[]) := Lib.hid (blk_at (by simp) (Blk.new (wr.alloc (.cells #[.slice (some ⟨xg, 0, none⟩) n xc] 23)) #[] 23))
        have HBc2 : Hid (Blk ((wr.alloc (.cells #[.slice (some ⟨xg, 0, none⟩) n xc] 23)).alloc (.cells #[] 23)).drew wr.heap.size 23 #[.slice (some ⟨xg, 0, none⟩) n xc]) := Lib.hid ((Blk.new wr _ _).keeps ((Keeps.alloc _ _).step (Keeps.drew1 _)))
        have KA : Hid (Keeps wr (wr.alloc (.cells #[] 23)).drew) := Lib.hid ((Keeps.alloc wr _).step (Keeps.drew1 _))
        have KB : Hid (Keeps wr ((wr.alloc (.cells #[] 23)).alloc (.cells #[.slice (some ⟨xg, 0, none⟩) n xc] 23)).drew) := Lib.hid (((Keeps.alloc wr _).step (Keeps.alloc _ _)).step (Keeps.drew1 _))
        have KC : Hid (Keeps wr ((wr.alloc (.cells #[.slice (some ⟨xg, 0, none⟩) n xc] 23)).alloc (.cells #[] 23)).drew) := Lib.hid (((Keeps.alloc wr _).step (Keeps.alloc _ _)).step (Keeps.drew1 _))
        have hlo2 : lo ≤ wr.heap.size := by omega
        go_wp2_with fail
        go_region_law (first | (refine step_spread_crd rfl (.tmp 40) (.tmp 43) rfl lo g4 (k + 1) c4 _ _ rfl hC4 _ _ (0) _ rfl (R.drop k) HDP.out (fun j hj => absurd hj (Nat.not_lt_zero _)) (fun h hh => HRW.out _ (HK.out.step hK4) h (List.mem_of_mem_drop hh)) (by omega) (Nat.le_trans hlo2 hK4.size) ?_; intro g5 c5 w5 hC5 hg5 hor5) | (refine step_spread_crd rfl (.tmp 37) (.tmp 39) rfl lo g3 k c3 _ _ rfl (hC3.keeps (Keeps.alloc _ _)) w3.heap.size 0 1 1 rfl [x] rfl (HXV.out _ _ (hpA w3)) (HXW.out _ ((HK.out.step hK3).step (Keeps.alloc _ _))) (by omega) (Nat.le_trans (Nat.le_trans hlo2 hK3.size) (Keeps.alloc w3 _).size) ?_; intro g4 c4 w4 hC4 hg4 hor4; have hK4 := (hK3.step (Keeps.alloc w3 _)).grownAt hg4 hg3w; have hg4w : wr.heap.size ≤ g4 := (by have h1 := (hK3.step (Keeps.alloc w3 (.cells #[.slice (some ⟨xg, 0, none⟩) n xc] 23))).size; rcases hor4 with e | e <;> omega)) | (refine step_spread_crd rfl (.tmp 37) (.tmp 39) rfl lo g3 k c3 _ _ rfl hC3 _ 0 1 1 rfl [x] rfl (HXV.out _ _ hBx3) (HXW.out _ (HK.out.step hK3)) (by omega) (Nat.le_trans hlo2 hK3.size) ?_; intro g4 c4 w4 hC4 hg4 hor4; have hK4 := hK3.grownAt hg4 hg3w; have hg4w : wr.heap.size ≤ g4 := (by have h1 := hK3.size; rcases hor4 with e | e <;> omega)) | (refine step_spread_crd rfl (.tmp 33) (.tmp 36) rfl lo (wr.heap.size) 0 0 [] _ rfl (Crd.empty HBa.out (by omega)) g 0 k k rfl (R.take k) HTK.out (HZ1.out _ (HK.out.step KA.out)) (fun h hh => HRW.out _ (HK.out.step KA.out) h (List.mem_of_mem_take hh)) (by omega) (Nat.le_trans hlo2 (KA.out).size) ?_; intro g3 c3 w3 hC3 hg3 hor3; rw [Nat.zero_add, List.nil_append] at hC3; have hK3 := (KA.out).grownAt hg3 (by omega); have hg3w : wr.heap.size ≤ g3 := (by have h1 := (KA.out).size; rcases hor3 with e | e <;> omega); have hpA : ∀ W : World, Blk (W.alloc (.cells #[.slice (some ⟨xg, 0, none⟩) n xc] 23)) W.heap.size 23 #[.slice (some ⟨xg, 0, none⟩) n xc] := fun W => Blk.new W _ _) | (refine step_spread_crd rfl (.tmp 33) (.tmp 36) rfl lo (wr.heap.size) 0 0 [] _ rfl (Crd.empty HBb.out (by omega)) g 0 k k rfl (R.take k) HTK.out (HZ1.out _ (HK.out.step KB.out)) (fun h hh => HRW.out _ (HK.out.step KB.out) h (List.mem_of_mem_take hh)) (by omega) (Nat.le_trans hlo2 (KB.out).size) ?_; intro g3 c3 w3 hC3 hg3 hor3; rw [Nat.zero_add, List.nil_append] at hC3; have hK3 := (KB.out).grownAt hg3 (by omega); have hg3w : wr.heap.size ≤ g3 := (by have h1 := (KB.out).size; rcases hor3 with e | e <;> omega); have hBx3 := HBb2.out.grown hg3 (by simp)) | (refine step_spread_crd rfl (.tmp 33) (.tmp 36) rfl lo (wr.heap.size + 1) 0 0 [] _ rfl (Crd.empty HBc.out (by omega)) g 0 k k rfl (R.take k) HTK.out (HZ1.out _ (HK.out.step KC.out)) (fun h hh => HRW.out _ (HK.out.step KC.out) h (List.mem_of_mem_take hh)) (by omega) (Nat.le_trans hlo2 (KC.out).size) ?_; intro g3 c3 w3 hC3 hg3 hor3; rw [Nat.zero_add, List.nil_append] at hC3; have hK3 := (KC.out).grownAt hg3 (by omega); have hg3w : wr.heap.size ≤ g3 := (by have h1 := (KC.out).size; rcases hor3 with e | e <;> omega); have hBx3 := HBc2.out.grown hg3 (by simp)))
        all_goals
          have HK5 := Lib.hid (HK.out.step (hK4.grownAt hg5 hg4w))
          have HC5 := Lib.hid hC5
          have HGE : Hid (w.heap.size ≤ g5) := Lib.hid (by have h1 := hK4.size; rcases hor5 with e | e <;> omega)
          have HCC : Hid (k + 1 + 0 ≤ c5 ∧ c5 ≤ 9223372036854775807) := Lib.hid (by
            obtain ⟨_, _, _, h1, h2, _, _⟩ := hC5.top_blk
            unfold maxLen at h2
            omega)
          have HFE : Hid ((R.take k ++ [x] ++ R.drop k).map (·.l) = insL x.l (R.map (·.l))) := Lib.hid (by rw [HNE.out]; simp)
          have HFM : Hid (∀ h ∈ R.take k ++ [x] ++ R.drop k, h ∈ R ∨ h = x) := Lib.hid (fun h hh => by
            rcases List.mem_append.1 hh with e | e
            · rcases List.mem_append.1 e with e | e
              · exact .inl (List.mem_of_mem_take e)
              · exact .inr (List.mem_singleton.1 e)
            · exact .inl (List.mem_of_mem_drop e))
          go_wp2_with fail
          go_ret
          first | exact ⟨g5, k + 1 + 0, c5, rfl, _, HFE.out, HFM.out, HC5.out.crn, HCC.out, HK5.out, .inl HGE.out⟩ | exact ⟨g5, k + 1 + 0, c5, _, rfl, HFE.out, HFM.out, HC5.out.crn, HCC.out, HK5.out, .inl HGE.out⟩
      · have hck3 : (c : Int) ≠ k := by omega
        have HZ1 : Hid (∀ W, Keeps w W → ∀ j, j < k → W.cell? ⟨g, 0 + j, none⟩ = some ((R.take k).getD j default).v) := Lib.hid (fun W hK j hj => by
          rw [Nat.zero_add, (HR.out.keeps hK).cell j (by omega), List.getD_eq_getElem?_getD, List.getD_eq_getElem?_getD, List.getElem?_take_of_lt hj])
        have HZ2 : Hid (∀ W, Keeps w W → ∀ j, j < 0 → W.cell? ⟨g, k + j, none⟩ = some ((R.drop k).getD j default).v) := Lib.hid (fun W hK j hj => by
          rw [(HR.out.keeps hK).cell (k + j) (by omega), List.getD_eq_getElem?_getD, List.getD_eq_getElem?_getD, List.getElem?_drop])
        have HRW : Hid (∀ W, Keeps w W → ∀ h ∈ R, OwnInts W lo (some ⟨h.g, 0, none⟩) h.l.length h.d h.l) := Lib.hid (fun W hK h hh => (HR.out.keeps hK).row h hh)
        have HXW : Hid (∀ W, Keeps w W → ∀ h ∈ [x], OwnInts W lo (some ⟨h.g, 0, none⟩) h.l.length h.d h.l) := Lib.hid (fun W hK h hh => by rw [List.mem_singleton] at hh; subst hh; exact HX.out.keeps hK)
        have HXV : Hid (∀ W B, Blk W B 23 #[.slice (some ⟨xg, 0, none⟩) n xc] → ∀ j, j < 1 → W.cell? ⟨B, 0 + j, none⟩ = some (([x].getD j default)).v) := Lib.hid (fun W B hb j hj => by
          obtain rfl : j = 0 := by omega
          rw [Nat.zero_add, hb.cell 0]
          unfold Hdr.v
          rw [HXG.out.1, HXG.out.2, ← HXL.out]
          rfl)
        have HTK : Hid ((R.take k).length = k) := Lib.hid (by rw [List.length_take]; have := HLEN.out; omega)
        have HDP : Hid ((R.drop k).length = 0) := Lib.hid (by rw [List.length_drop]; have := HLEN.out; omega)
        have hsz2 : w.heap.size ≤ wr.heap.size := HK.out.size
        have HBa : Hid (Blk (wr.alloc (.cells #[] 23)).drew wr.heap.size 23 #[]) := Lib.hid (Blk.new wr _ _)
        have HBb : Hid (Blk ((wr.alloc (.cells #[] 23)).alloc (.cells #[.slice (some ⟨xg, 0, none⟩) n xc] 23)).drew wr.heap.size 23 #[]) := Lib.hid ((Blk.new wr _ _).keeps ((Keeps.alloc _ _).step (Keeps.drew1 _)))
        have HBb2 : Hid (Blk ((wr.alloc (.cells #[] 23)).alloc (.cells #[.slice (some ⟨xg, 0, none⟩) n xc] 23)).drew (wr.heap.size + 1) 23 #[.slice (some ⟨xg, 0, none⟩) n xc]) := Lib.hid (blk_at (by simp) (Blk.new (wr.alloc (.cells #[] 23)) #[.slice (some ⟨xg, 0, none⟩) n xc] 23))
        have HBc : Hid (Blk ((wr.alloc (.cells #[.slice (some ⟨xg, 0, none⟩) n xc] 23)).alloc (.cells #[] 23)).drew (wr.heap.size + 1) 23 #[]) := Lib.hid (blk_at (by simp) (Blk.new (wr.alloc (.cells #[.slice (some ⟨xg, 0, none⟩) n xc] 23)) #[] 23))
        have HBc2 : Hid (Blk ((wr.alloc (.cells #[.slice (some ⟨xg, 0, none⟩) n xc] 23)).alloc (.cells #[] 23)).drew wr.heap.size 23 #[.slice (some ⟨xg, 0, none⟩) n xc]) := Lib.hid ((Blk.new wr _ _).keeps ((Keeps.alloc _ _).step (Keeps.drew1 _)))
        have KA : Hid (Keeps wr (wr.alloc (.cells #[] 23)).drew) := Lib.hid ((Keeps.alloc wr _).step (Keeps.drew1 _))
        have KB : Hid (Keeps wr ((wr.alloc (.cells #[] 23)).alloc (.cells #[.slice (some ⟨xg, 0, none⟩) n xc] 23)).drew) := Lib.hid (((Keeps.alloc wr _).step (Keeps.alloc _ _)).step (Keeps.drew1 _))
        have KC : Hid (Keeps wr ((wr.alloc (.cells #[.slice (some ⟨xg, 0, none⟩) n xc] 23)).alloc (.cells #[] 23)).drew) := Lib.hid (((Keeps.alloc wr _).step (Keeps.alloc _ _)).step (Keeps.drew1 _))
        have hlo2 : lo ≤ wr.heap.size := by omega
        go_wp2_with fail
        go_region_law (first | (refine step_spread_crd rfl (.tmp 40) (.tmp 43) rfl lo g4 (k + 1) c4 _ _ rfl hC4 _ _ (0) _ rfl (R.drop k) HDP.out (fun j hj => absurd hj (Nat.not_lt_zero _)) (fun h hh => HRW.out _ (HK.out.step hK4) h (List.mem_of_mem_drop hh)) (by omega) (Nat.le_trans hlo2 hK4.size) ?_; intro g5 c5 w5 hC5 hg5 hor5) | (refine step_spread_crd rfl (.tmp 37) (.tmp 39) rfl lo g3 k c3 _ _ rfl (hC3.keeps (Keeps.alloc _ _)) w3.heap.size 0 1 1 rfl [x] rfl (HXV.out _ _ (hpA w3)) (HXW.out _ ((HK.out.step hK3).step (Keeps.alloc _ _))) (by omega) (Nat.le_trans (Nat.le_trans hlo2 hK3.size) (Keeps.alloc w3 _).size) ?_; intro g4 c4 w4 hC4 hg4 hor4; have hK4 := (hK3.step (Keeps.alloc w3 _)).grownAt hg4 hg3w; have hg4w : wr.heap.size ≤ g4 := (by have h1 := (hK3.step (Keeps.alloc w3 (.cells #[.slice (some ⟨xg, 0, none⟩) n xc] 23))).size; rcases hor4 with e | e <;> omega)) | (refine step_spread_crd rfl (.tmp 37) (.tmp 39) rfl lo g3 k c3 _ _ rfl hC3 _ 0 1 1 rfl [x] rfl (HXV.out _ _ hBx3) (HXW.out _ (HK.out.step hK3)) (by omega) (Nat.le_trans hlo2 hK3.size) ?_; intro g4 c4 w4 hC4 hg4 hor4; have hK4 := hK3.grownAt hg4 hg3w; have hg4w : wr.heap.size ≤ g4 := (by have h1 := hK3.size; rcases hor4 with e | e <;> omega)) | (refine step_spread_crd rfl (.tmp 33) (.tmp 36) rfl lo (wr.heap.size) 0 0 [] _ rfl (Crd.empty HBa.out (by omega)) g 0 k c rfl (R.take k) HTK.out (HZ1.out _ (HK.out.step KA.out)) (fun h hh => HRW.out _ (HK.out.step KA.out) h (List.mem_of_mem_take hh)) (by omega) (Nat.le_trans hlo2 (KA.out).size) ?_; intro g3 c3 w3 hC3 hg3 hor3; rw [Nat.zero_add, List.nil_append] at hC3; have hK3 := (KA.out).grownAt hg3 (by omega); have hg3w : wr.heap.size ≤ g3 := (by have h1 := (KA.out).size; rcases hor3 with e | e <;> omega); have hpA : ∀ W : World, Blk (W.alloc (.cells #[.slice (some ⟨xg, 0, none⟩) n xc] 23)) W.heap.size 23 #[.slice (some ⟨xg, 0, none⟩) n xc] := fun W => Blk.new W _ _) | (refine step_spread_crd rfl (.tmp 33) (.tmp 36) rfl lo (wr.heap.size) 0 0 [] _ rfl (Crd.empty HBb.out (by omega)) g 0 k c rfl (R.take k) HTK.out (HZ1.out _ (HK.out.step KB.out)) (fun h hh => HRW.out _ (HK.out.step KB.out) h (List.mem_of_mem_take hh)) (by omega) (Nat.le_trans hlo2 (KB.out).size) ?_; intro g3 c3 w3 hC3 hg3 hor3; rw [Nat.zero_add, List.nil_append] at hC3; have hK3 := (KB.out).grownAt hg3 (by omega); have hg3w : wr.heap.size ≤ g3 := (by have h1 := (KB.out).size; rcases hor3 with e | e <;> omega); have hBx3 := HBb2.out.grown hg3 (by simp)) | (refine step_spread_crd rfl (.tmp 33) (.tmp 36) rfl lo (wr.heap.size + 1) 0 0 [] _ rfl (Crd.empty HBc.out (by omega)) g 0 k c rfl (R.take k) HTK.out (HZ1.out _ (HK.out.step KC.out)) (fun h hh => HRW.out _ (HK.out.step KC.out) h (List.mem_of_mem_take hh)) (by omega) (Nat.le_trans hlo2 (KC.out).size) ?_; intro g3 c3 w3 hC3 hg3 hor3; rw [Nat.zero_add, List.nil_append] at hC3; have hK3 := (KC.out).grownAt hg3 (by omega); have hg3w : wr.heap.size ≤ g3 := (by have h1 := (KC.out).size; rcases hor3 with e | e <;> omega); have hBx3 := HBc2.out.grown hg3 (by simp)))
        all_goals
          have HK5 := Lib.hid (HK.out.step (hK4.grownAt hg5 hg4w))
          have HC5 := Lib.hid hC5
          have HGE : Hid (w.heap.size ≤ g5) := Lib.hid (by have h1 := hK4.size; rcases hor5 with e | e <;> omega)
          have HCC : Hid (k + 1 + 0 ≤ c5 ∧ c5 ≤ 9223372036854775807) := Lib.hid (by
            obtain ⟨_, _, _, h1, h2, _, _⟩ := hC5.top_blk
            unfold maxLen at h2
            omega)
          have HFE : Hid ((R.take k ++ [x] ++ R.drop k).map (·.l) = insL x.l (R.map (·.l))) := Lib.hid (by rw [HNE.out]; simp)
          have HFM : Hid (∀ h ∈ R.take k ++ [x] ++ R.drop k, h ∈ R ∨ h = x) := Lib.hid (fun h hh => by
            rcases List.mem_append.1 hh with e | e
            · rcases List.mem_append.1 e with e | e
              · exact .inl (List.mem_of_mem_take e)
              · exact .inr (List.mem_singleton.1 e)
            · exact .inl (List.mem_of_mem_drop e))
          go_wp2_with fail
          go_ret
          first | exact ⟨g5, k + 1 + 0, c5, rfl, _, HFE.out, HFM.out, HC5.out.crn, HCC.out, HK5.out, .inl HGE.out⟩ | exact ⟨g5, k + 1 + 0, c5, _, rfl, HFE.out, HFM.out, HC5.out.crn, HCC.out, HK5.out, .inl HGE.out⟩
end Go.Proofs.Ytaejakejnllimaa
