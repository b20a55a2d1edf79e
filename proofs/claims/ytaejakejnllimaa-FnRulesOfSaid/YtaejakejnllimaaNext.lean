/-
  impl.nextOf: the crowds behind one meeting. Conditions: valid rules and a crowd.
-/
import Derived.Test.YtaejakejnllimaaNextI
namespace Go.Proofs.Ytaejakejnllimaa
set_option maxRecDepth 100000
set_option linter.unusedVariables false
open Go.RowKit

theorem il_list (l : List Int) (n : Nat) (h : l.length = n) : il n (fun i => l.getD i 0) = l := il_self l n h
/-- The list of crowds so far, the rules' box. -/
structure NSt (w : World) (bx : Nat) (cs : Array Value) (g m c : Nat) (R : List Hdr) (L : List (List Int)) (wr : World) : Prop where
  crd : Crd wr w.heap.size (some ⟨g, 0, none⟩) m c R
  cont : R.map (·.l) = L
  apart : (R.map (·.g)).Nodup
  box : Blk wr bx 26 cs
  keeps : Keeps w wr
theorem NSt.step {w : World} {bx : Nat} {cs : Array Value} {g m c : Nat} {R : List Hdr} {L : List (List Int)} {wr w' : World} (h : NSt w bx cs g m c R L wr) (k : Keeps wr w') : NSt w bx cs g m c R L w' :=
  ⟨h.crd.keeps k, h.cont, h.apart, h.box.keeps k, h.keeps.step k⟩
theorem own_blk {w : World} {lo g n c : Nat} {l : List Int} (h : OwnInts w lo (some ⟨g, 0, none⟩) n c l) : ∃ cur, Blk w g 3 cur := by
  rcases h.2 with ⟨e, _⟩ | ⟨g', cap, cur, e, _, hg, _⟩
  · cases e
  · cases e; exact ⟨cur, hg⟩
set_option maxRecDepth 100000 in
set_option maxHeartbeats 8000000 in
theorem nextOf_any (S A B C : Option Addr) (n cS cA cB cC : Nat) (s : Nat → Int) (rA rB : Nat → Option Addr × Nat × Nat) (F G : Nat → Nat → Nat) (l : List Int) (w : World) (hR : RulN w S n s A rA F B rB G) (hl : Crw n l) (hC : Ints w C n (fun i => l.getD i 0)) :
    Calls Try.prog 40 #[.agg #[.slice S n cS, .slice A n cA, .slice B n cB], .slice C n cC] w fun e w' => ∃ R g k, e = .returned (.slice (some ⟨g, 0, none⟩) k k) ∧ R.map (·.l) = nextL F G n l ∧ (R.map (·.g)).Nodup ∧ Crn w' w.heap.size (some ⟨g, 0, none⟩) k R ∧ Keeps w w' := by
  have hn1 := hR.n1
  have hn4 := hR.n4
  have HR := Lib.hid hR
  have HW := Lib.hid hl
  obtain ⟨dC, oC, rfl, _⟩ := hC 0 (by omega)
  have HC : Hid (∀ i, i < n → w.cell? ⟨dC, oC + i, none⟩ = some (.int .i64 (l.getD i 0))) := Lib.hid (fun i hi => by
    obtain ⟨_, _, e, hc⟩ := hC i hi
    cases e
    exact hc)
  have HCI := Lib.hid hC
  clear hR hl hC
  have HB0 : Hid (NSt w w.heap.size #[.slice S n cS, .slice A n cA, .slice B n cB] (w.heap.size + 1) 0 0 [] [] ((w.alloc (.cells #[.slice S n cS, .slice A n cA, .slice B n cB] 26)).alloc (.cells #[] 23))) := Lib.hid (by
    have h1 := Crd.made (w.alloc (.cells #[.slice S n cS, .slice A n cA, .slice B n cB] 26)) w.heap.size (Keeps.alloc w _).size
    rw [World.size_alloc] at h1
    exact ⟨h1, rfl, List.nodup_nil, (Blk.new w _ _).keeps (Keeps.alloc _ _), (Keeps.alloc w _).step (Keeps.alloc _ _)⟩)
  go_enter Try.func40, Try.ntmps40
  go_wp2_with fail
  go_loopw [12, 5] (fun i v wr => ∃ (a g m c : Nat) (R : List Hdr), a ≤ n ∧ i = .int .i64 a ∧ m ≤ 4 * a ∧ v = .slice (some ⟨g, 0, none⟩) m c ∧ Hid (NSt w w.heap.size #[.slice S n cS, .slice A n cA, .slice B n cB] g m c R (allM F G l n a) wr)) (fun i _ _ => n - (intOf i).toNat)
  case atStart => exact ⟨0, w.heap.size + 1, 0, 0, [], by omega, rfl, by omega, rfl, HB0⟩
  case round =>
    clear HB0
    obtain ⟨a, g, m, c, R, ha, rfl, hm, rfl, HS⟩ := hrel
    by_cases hlt : a < n
    · have hai : (a : Int) < n := by omega
      go_wp2_with fail
      go_loopw [17, 5] (fun i v wr => ∃ (b g m c : Nat) (R : List Hdr), b ≤ n ∧ i = .int .i64 b ∧ m ≤ 4 * a + b ∧ v = .slice (some ⟨g, 0, none⟩) m c ∧ Hid (NSt w w.heap.size #[.slice S n cS, .slice A n cA, .slice B n cB] g m c R (allM F G l n a ++ rowM F G l a b) wr)) (fun i _ _ => n - (intOf i).toNat)
      case atStart => exact ⟨0, g, m, c, R, by omega, rfl, by omega, rfl, Lib.hid (by rw [rowM, List.append_nil]; exact HS.out)⟩
      case round =>
        clear HS
        obtain ⟨b, g, m, c, R, hb, rfl, hm, rfl, HS⟩ := hrel
        by_cases hltb : b < n
        · have hbi : (b : Int) < n := by omega
          go_wp2_with fail
          refine (slClone_any dC oC n cC (fun i => l.getD i 0) wr hn1 (by omega) (fun i hi => cell_keeps HS.out.keeps (HC.out i hi))).mono ?_
          rintro e w2 ⟨g8, c8, rfl, hO2, hk2⟩
          have HO2 : Hid (OwnInts w2 wr.heap.size (some ⟨g8, 0, none⟩) n c8 l) := Lib.hid (by rw [il_list l n HW.out.len] at hO2; exact hO2)
          have HS2 := Lib.hid (HS.out.step hk2)
          have HK2 := Lib.hid hk2
          have hcl := own_clip hO2
          have hcl1 := hcl.1
          clear hO2 hk2 hcl
          go_wp2_with fail
          refine (slClip_any g8 n c8 w2 hcl1).mono ?_
          rintro e w3 ⟨rfl, rfl⟩
          have hla := HW.out.at a hlt
          have hlb := HW.out.at b hltb
          have HO3 := Lib.hid (HO2.out.set a (l.getD a 0 - 1))
          have HO4 : Hid (OwnInts ((w2.setCell ⟨g8, a, none⟩ (.int .i64 (l.getD a 0 - 1))).setCell ⟨g8, b, none⟩ (.int .i64 ((l.set a (l.getD a 0 - 1)).getD b 0 - 1))) wr.heap.size (some ⟨g8, 0, none⟩) n c8 (decL l a b)) := Lib.hid (HO3.out.set b _)
          have c1 := HO2.out.cell a hlt
          have f1 := HO2.out.frozen a
          have c2 := HO3.out.cell b hltb
          have f2 := HO3.out.frozen b
          have hbd : -1 ≤ (l.set a (l.getD a 0 - 1)).getD b 0 ∧ (l.set a (l.getD a 0 - 1)).getD b 0 ≤ 5 := by
            rw [getD_set _ _ _ _ (by rw [HW.out.len]; exact hlt)]
            split <;> omega
          obtain ⟨va, hva⟩ : ∃ va, va = l.getD a 0 := ⟨_, rfl⟩
          rw [← hva] at hla HO3 HO4 c1 c2 f2 hbd
          obtain ⟨vb, hvb⟩ : ∃ vb, vb = (l.set a (va - 1)).getD b 0 := ⟨_, rfl⟩
          rw [← hvb] at HO4 c2 hbd
          have hwa : wrap64 (va - 1) = va - 1 := by unfold wrap64; omega
          have hwb : wrap64 (vb - 1) = vb - 1 := by unfold wrap64; omega
          clear hva hvb
          have HS4 : Hid (NSt w w.heap.size #[.slice S n cS, .slice A n cA, .slice B n cB] g m c R (allM F G l n a ++ rowM F G l a b) ((w2.setCell ⟨g8, a, none⟩ (.int .i64 (va - 1))).setCell ⟨g8, b, none⟩ (.int .i64 (vb - 1)))) := Lib.hid (by
            have hg8 := HO2.out.block.1
            obtain ⟨cur8, hcur8⟩ := own_blk HO2.out
            refine ⟨⟨?_, fun h hh => ?_⟩, HS2.out.cont, HS2.out.apart, ?_, Below.setCell (Below.setCell HS2.out.keeps (show w.heap.size ≤ g8 by have := HS.out.keeps.size; omega) _) (show w.heap.size ≤ g8 by have := HS.out.keeps.size; omega) _⟩
            · exact own_kept (own_kept HS2.out.crd.top (grown_set _ _ _ _) (fun k hk e => by have := (own_block HS.out.crd.top k hk).2; simp at e; omega)) (grown_set _ _ _ _) (fun k hk e => by have := (own_block HS.out.crd.top k hk).2; simp at e; omega)
            · have hlt8 := (own_block (HS.out.crd.row h hh) h.g rfl).2
              exact own_block_same (HS2.out.crd.row h hh) (by rw [Below.heap_setCell _ _ _ _ (show h.g ≠ g8 by omega), Below.heap_setCell _ _ _ _ (show h.g ≠ g8 by omega)])
            · have hlt8 := HS.out.box.lt
              exact (HS2.out.box.set_other _ _ (by simp only; omega)).set_other _ _ (by simp only; omega))
          have HLO := Lib.hid HO2.out.block.1
          have HOK := Lib.hid (dec_pos HW.out hlt hltb)
          have HDL := Lib.hid (decL_len (c := l) (a := a) (b := b))
          have HWL := Lib.hid HW.out.len
          go_wp2_with fail
          clear c1 f1 c2 f2 HO3 HO2 HS2 HK2 hbd hla hlb hcl1
          generalize ((w2.setCell ⟨g8, a, none⟩ (.int .i64 (va - 1))).setCell ⟨g8, b, none⟩ (.int .i64 (vb - 1))) = w4 at *
          clear hwa hwb
          obtain ⟨n', hn'⟩ : ∃ n', n = n' + 1 := ⟨n - 1, by omega⟩
          have CM : Hid (Calls Try.prog 63 #[.slice (some ⟨g8, 0, none⟩) n n] w4 fun e w' => e = .returned (.int .i64 (lowF (fun i => (decL l a b).getD i 0) n')) ∧ w4 = w') := Lib.hid (by
            rw [hn']
            refine slMin_any _ n' _ _ w4 (by omega) ?_
            rw [← hn']
            exact HO4.out.ints)
          have HLP : Hid (0 ≤ lowF (fun i => (decL l a b).getD i 0) n' ↔ okB l a b = true) := Lib.hid (by
            rw [lowF_pos, HOK.out]
            exact ⟨fun h j hj => h j (by omega), fun h j hj => h j (by omega)⟩)
          clear hn'
          generalize lowF (fun i => (decL l a b).getD i 0) n' = lw at *
          refine CM.out.mono ?_
          rintro e w5 ⟨rfl, rfl⟩
          cases hok : okB l a b
          · have hlw : lw < 0 := by
              rcases Int.lt_or_le lw 0 with h | h
              · exact h
              · have := HLP.out.1 h
                rw [hok] at this
                cases this
            have HNX : Hid (rowM F G l a (b + 1) = rowM F G l a b) := Lib.hid (by
              have : meetsB F G l a b = false := by unfold meetsB; rw [hok]; rfl
              rw [rowM, this]
              simp)
            clear hok HLP CM
            go_wp2_with fail
            go_roundw
            case rel => exact ⟨b + 1, g, m, c, R, by omega, by go_num, by omega, rfl, Lib.hid (by rw [HNX.out]; exact HS4.out)⟩
            case measure => simp [intOf]; omega
          · have hlw : ¬ lw < 0 := by have := HLP.out.2 hok; omega
            have HOK2 := Lib.hid hok
            have HME : Hid (meetsB F G l a b = !decide (meetL F G l a b = l)) := Lib.hid (by unfold meetsB; rw [hok]; rfl)
            have HML : Hid ((meetL F G l a b).length = n) := Lib.hid (by rw [meetL_len, HWL.out])
            obtain ⟨hFn, hGn⟩ := HR.out.rul a b hlt hltb
            obtain ⟨⟨dA, oA, eA, hcA⟩, hIA⟩ := HR.out.first a hlt
            obtain ⟨⟨dB, oB, eB, hcB⟩, hIB⟩ := HR.out.second a hlt
            rw [HR.out.lA a hlt] at hcA hIA
            rw [HR.out.lB a hlt] at hcB hIB
            obtain ⟨dF, oF, eF, hcF⟩ := hIA b hltb
            obtain ⟨dG, oG, eG, hcG⟩ := hIB b hltb
            rw [eF] at hcA
            rw [eG] at hcB
            obtain ⟨xA, hxA⟩ : ∃ x, x = (rA a).2.2 := ⟨_, rfl⟩
            obtain ⟨xB, hxB⟩ : ∃ x, x = (rB a).2.2 := ⟨_, rfl⟩
            rw [← hxA] at hcA
            rw [← hxB] at hcB
            have b0 : w4.cell? ⟨w.heap.size, 1, none⟩ = some (.slice A n cA) := HS4.out.box.cell 1
            have b1 : w4.cell? ⟨w.heap.size, 2, none⟩ = some (.slice B n cB) := HS4.out.box.cell 2
            subst eA
            subst eB
            clear hIA hIB eF eG hxA hxB hok HLP CM
            have HO5 := Lib.hid (HO4.out.set (F a b) ((decL l a b).getD (F a b) 0 + 1))
            have HO6 : Hid (OwnInts ((w4.setCell ⟨g8, F a b, none⟩ (.int .i64 ((decL l a b).getD (F a b) 0 + 1))).setCell ⟨g8, G a b, none⟩ (.int .i64 ((incL (decL l a b) (F a b)).getD (G a b) 0 + 1))) wr.heap.size (some ⟨g8, 0, none⟩) n c8 (meetL F G l a b)) := Lib.hid (HO5.out.set (G a b) _)
            have c1 := HO4.out.cell (F a b) hFn
            have f1 := HO4.out.frozen (F a b)
            have c2 : (w4.setCell ⟨g8, F a b, none⟩ (.int .i64 ((decL l a b).getD (F a b) 0 + 1))).cell? ⟨g8, G a b, none⟩ = some (.int .i64 ((incL (decL l a b) (F a b)).getD (G a b) 0)) := HO5.out.cell (G a b) hGn
            have f2 := HO5.out.frozen (G a b)
            have hFb : 0 ≤ (decL l a b).getD (F a b) 0 ∧ (decL l a b).getD (F a b) 0 ≤ 5 := by
              refine ⟨(dec_pos HW.out hlt hltb).1 HOK2.out _ hFn, ?_⟩
              have := HW.out.at (F a b) hFn
              rw [decL_at (by rw [HWL.out]; exact hlt) (by rw [HWL.out]; exact hltb)]
              split <;> split <;> omega
            have hGb : 0 ≤ (incL (decL l a b) (F a b)).getD (G a b) 0 ∧ (incL (decL l a b) (F a b)).getD (G a b) 0 ≤ 6 := by
              have h1 := (dec_pos HW.out hlt hltb).1 HOK2.out _ hGn
              have h2 := HW.out.at (G a b) hGn
              rw [incL_at (by rw [HDL.out, HWL.out]; exact hFn), decL_at (by rw [HWL.out]; exact hlt) (by rw [HWL.out]; exact hltb)]
              rw [decL_at (by rw [HWL.out]; exact hlt) (by rw [HWL.out]; exact hltb)] at h1
              split <;> split <;> split <;> omega
            have hg8 : w.heap.size < g8 := by have := HLO.out; have := HS.out.box.lt; omega
            have hdB : dB ≠ g8 := fun e => by have := World.block_lt_of_cell? w _ hcB; simp only at this; omega
            have hdG : dG ≠ g8 := fun e => by have := World.block_lt_of_cell? w _ hcG; simp only at this; omega
            have hbx : w.heap.size ≠ g8 := by omega
            replace hcA := cell_keeps HS4.out.keeps hcA
            replace hcB := cell_keeps HS4.out.keeps hcB
            replace hcF := cell_keeps HS4.out.keeps hcF
            replace hcG := cell_keeps HS4.out.keeps hcG
            obtain ⟨vF, hvF⟩ : ∃ v, v = (decL l a b).getD (F a b) 0 := ⟨_, rfl⟩
            obtain ⟨vG, hvG⟩ : ∃ v, v = (incL (decL l a b) (F a b)).getD (G a b) 0 := ⟨_, rfl⟩
            obtain ⟨pF, hpF⟩ : ∃ p, p = F a b := ⟨_, rfl⟩
            obtain ⟨pG, hpG⟩ : ∃ p, p = G a b := ⟨_, rfl⟩
            dsimp only at hcF hcG
            rw [← hvF, ← hpF] at c1 HO5
            rw [← hvF, ← hvG, ← hpF, ← hpG] at c2
            rw [← hvF, ← hvG, ← hpF, ← hpG] at HO6
            rw [← hpF] at hcF f1 hFn
            rw [← hpG] at hcG hGn
            rw [← hvF, ← hpF, ← hpG] at f2
            rw [← hvF] at hFb
            rw [← hvG] at hGb
            have hwF : wrap64 (vF + 1) = vF + 1 := by unfold wrap64; omega
            have hwG : wrap64 (vG + 1) = vG + 1 := by unfold wrap64; omega
            have hpFi : (pF : Int) < n := by omega
            have hpGi : (pG : Int) < n := by omega
            clear hvF hvG hpF hpG
            go_wp2_with fail
            have hc0n : 1 ≤ n := by omega
            have HS6 : Hid (NSt w w.heap.size #[.slice S n cS, .slice (some ⟨dA, oA, none⟩) n cA, .slice (some ⟨dB, oB, none⟩) n cB] g m c R (allM F G l n a ++ rowM F G l a b) ((w4.setCell ⟨g8, pF, none⟩ (.int .i64 (vF + 1))).setCell ⟨g8, pG, none⟩ (.int .i64 (vG + 1)))) := Lib.hid (by
              have hh4 := HO4.out.block.1
              refine ⟨⟨?_, fun h hh => ?_⟩, HS4.out.cont, HS4.out.apart, ?_, Below.setCell (Below.setCell HS4.out.keeps (show w.heap.size ≤ g8 by omega) _) (show w.heap.size ≤ g8 by omega) _⟩
              · exact own_kept (own_kept HS4.out.crd.top (grown_set _ _ _ _) (fun k hk e => by have := (own_block HS.out.crd.top k hk).2; simp at e; omega)) (grown_set _ _ _ _) (fun k hk e => by have := (own_block HS.out.crd.top k hk).2; simp at e; omega)
              · have hlt8 := (own_block (HS.out.crd.row h hh) h.g rfl).2
                exact own_block_same (HS4.out.crd.row h hh) (by rw [Below.heap_setCell _ _ _ _ (show h.g ≠ g8 by omega), Below.heap_setCell _ _ _ _ (show h.g ≠ g8 by omega)])
              · have hlt8 := HS.out.box.lt
                exact (HS4.out.box.set_other _ _ (by simp only; omega)).set_other _ _ (by simp only; omega))
            have hlo8 := HLO.out
            clear c1 f1 c2 f2 HO5 HO4 HS4 hcA hcB hcF hcG b0 b1
            generalize ((w4.setCell ⟨g8, pF, none⟩ (.int .i64 (vF + 1))).setCell ⟨g8, pG, none⟩ (.int .i64 (vG + 1))) = w6 at *
            have CE : Hid (Calls Try.prog 64 #[.slice (some ⟨g8, 0, none⟩) n n, .slice (some ⟨dC, oC, none⟩) n cC] w6 fun e w' => e = .returned (.bool (decide (meetL F G l a b = l))) ∧ ∃ q, w' = w6.drewN q) := Lib.hid (by
              have h := slEqualQ_any (some ⟨g8, 0, none⟩) (some ⟨dC, oC, none⟩) n cC (meetL F G l a b) l w6 (by rw [HML.out]; omega) (by rw [HWL.out]; omega) (by rw [HML.out]; exact HO6.out.ints) (by rw [HWL.out]; exact HCI.out.keeps HS6.out.keeps)
              rwa [HML.out, HWL.out] at h)
            have HDW : Hid (∀ q, Keeps w6 (w6.drewN q)) := Lib.hid (fun q => Keeps.drewN w6 q)
            cases hme : decide (meetL F G l a b = l)
            · rw [hme] at HME CE
              have HNX : Hid (rowM F G l a (b + 1) = rowM F G l a b ++ [meetL F G l a b]) := Lib.hid (by rw [rowM, HME.out]; rfl)
              refine CE.out.mono ?_
              rintro e w7 ⟨rfl, q, rfl⟩
              have HO7 := Lib.hid (HO6.out.keeps (HDW.out q))
              have HS7 := Lib.hid (HS6.out.step (HDW.out q))
              have HSZ : Hid (w.heap.size ≤ (w6.drewN q).heap.size) := Lib.hid HS7.out.keeps.size
              have HNEW : Hid (∀ h ∈ R, h.g ≠ g8) := Lib.hid (fun h hh => by have := (own_block (HS.out.crd.row h hh) h.g rfl).2; omega)
              clear CE HDW hme HO6 HS6
              generalize w6.drewN q = w7 at *
              go_wp2_with (first | (at_builtin; refine wp_app_crd rfl _ _ rfl w.heap.size (some ⟨g, 0, none⟩) m c R w7 rfl HS7.out.crd ⟨g8, n, c8, meetL F G l a b⟩ (by rw [HML.out]; exact HO7.out.mono HS.out.keeps.size) _ (by unfold Hdr.v; rw [HML.out]) rfl (by omega) HSZ.out ?_; intro g9 c9 w9 hC9 hg9))
              have HS9 : Hid (NSt w w.heap.size #[.slice S n cS, .slice (some ⟨dA, oA, none⟩) n cA, .slice (some ⟨dB, oB, none⟩) n cB] g9 (m + 1) c9 (R ++ [⟨g8, n, c8, meetL F G l a b⟩]) (allM F G l n a ++ rowM F G l a (b + 1)) w9) := Lib.hid ⟨hC9, by rw [List.map_append, HS7.out.cont, HNX.out, ← List.append_assoc]; rfl, by
                rw [List.map_append, List.nodup_append]
                refine ⟨HS7.out.apart, by simp, fun x hx y hy => ?_⟩
                simp only [List.map_cons, List.map_nil, List.mem_singleton] at hy
                subst hy
                obtain ⟨h, hh, rfl⟩ := List.mem_map.1 hx
                exact HNEW.out h hh, HS7.out.box.grown hg9 (own_other' HS7.out.crd.top HS7.out.box (by decide)), HS7.out.keeps.grown HS7.out.crd.top (Nat.le_refl _) hg9⟩
              clear hC9 hg9
              go_roundw
              case rel => exact ⟨b + 1, g9, m + 1, c9, _, by omega, by go_num, by omega, rfl, HS9⟩
              case measure => simp [intOf]; omega
            · rw [hme] at HME CE
              have HNX : Hid (rowM F G l a (b + 1) = rowM F G l a b) := Lib.hid (by rw [rowM, HME.out]; simp)
              refine CE.out.mono ?_
              rintro e w7 ⟨rfl, q, rfl⟩
              have HS7 := Lib.hid (HS6.out.step (HDW.out q))
              clear CE HDW hme HO6 HS6
              go_wp2_with fail
              go_roundw
              case rel => exact ⟨b + 1, g, m, c, R, by omega, by go_num, by omega, rfl, Lib.hid (by rw [HNX.out]; exact HS7.out)⟩
              case measure => simp [intOf]; omega
        · obtain rfl : b = n := by omega
          go_wp2_with fail
          go_roundw
          case rel => exact ⟨a + 1, g, m, c, R, by omega, by go_num, by omega, rfl, Lib.hid (by rw [allM]; exact HS.out)⟩
          case measure => simp [intOf]; omega
    · obtain rfl : a = n := by omega
      have HLN : Hid (∀ h ∈ R, h.l.length ≤ 1000) := Lib.hid (fun h hh => by
        have h1 : h.l ∈ allM F G l a a := by rw [← HS.out.cont]; exact List.mem_map_of_mem hh
        obtain ⟨p, q, _, _, _, e⟩ := mem_allM.1 h1
        rw [e, meetL_len, HW.out.len]
        omega)
      go_wp2_with fail
      refine (sorted_any g m c w.heap.size R wr w HS.out.crd (by omega) HLN.out HS.out.keeps (Nat.le_refl _) HS.out.apart).mono ?_
      rintro e w2 ⟨R2, k, rfl, hc2, hn2, hm2, hR2, hk2⟩
      have HC2 := Lib.hid hc2
      have HN2 := Lib.hid hn2
      have HR2 := Lib.hid hR2
      have HK2 := Lib.hid hk2
      clear hc2 hn2 hm2 hR2 hk2
      go_wp2_with fail
      go_ret
      exact ⟨R2, g, k, rfl, by rw [HC2.out, HS.out.cont]; rfl, HN2.out, HR2.out, HK2.out⟩
end Go.Proofs.Ytaejakejnllimaa
