/-
  The reference's nextOf. Conditions: valid rules and a crowd.
-/
import Derived.Test.YtaejakejnllimaaInsert
import Derived.Test.YtaejakejnllimaaNext
namespace Go.Proofs.Ytaejakejnllimaa
set_option maxRecDepth 100000
set_option linter.unusedVariables false
open Go.RowKit

theorem all_crw {n : Nat} {F G : Nat → Nat → Nat} {c x : List Int} {a b : Nat} (hR : Rul n F G) (h : Crw n c) (ha : a ≤ n) (hb : b ≤ n) (hx : x ∈ allM F G c n a ∨ (a < n ∧ x ∈ rowM F G c a b)) : Crw n x := by
  have key : ∀ p q, p < n → q < n → meetsB F G c p q = true → Crw n (meetL F G c p q) := fun p q hp hq hm => by
    unfold meetsB at hm
    simp only [Bool.and_eq_true] at hm
    exact (meet_crw h hp hq (hR p q hp hq).1 (hR p q hp hq).2 hm.1).1
  rcases hx with hx | ⟨h1, hx⟩
  · obtain ⟨p, q, hp, hq, hm, rfl⟩ := mem_allM.1 hx
    exact key p q (by omega) hq hm
  · obtain ⟨q, hq, hm, rfl⟩ := mem_rowM.1 hx
    exact key a q h1 (by omega) hm
/-- The list so far of the reference, the rules' box. -/
structure SSt (w : World) (bx n : Nat) (cs : Array Value) (g m c : Nat) (R : List Hdr) (L : List (List Int)) (wr : World) : Prop where
  crn : Crn wr w.heap.size (some ⟨g, 0, none⟩) m R
  cont : R.map (·.l) = canL L
  mc : m ≤ c
  c63 : c ≤ 9223372036854775807
  crw : ∀ x ∈ L, Crw n x
  box : Blk wr bx 26 cs
  keeps : Keeps w wr
section
variable {w wr w' : World} {bx n g m c : Nat} {cs : Array Value} {R : List Hdr} {L : List (List Int)}
theorem SSt.step (h : SSt w bx n cs g m c R L wr) (k : Keeps wr w') : SSt w bx n cs g m c R L w' :=
  ⟨h.crn.keeps k, h.cont, h.mc, h.c63, h.crw, h.box.keeps k, h.keeps.step k⟩
theorem SSt.lens (h : SSt w bx n cs g m c R L wr) : ∀ x ∈ R, x.l.length = n := fun x hx => by
  have h1 : x.l ∈ canL L := by rw [← h.cont]; exact List.mem_map_of_mem hx
  exact (h.crw _ ((mem_canL _ _).1 h1)).len
theorem SSt.le (h : SSt w bx n cs g m c R L wr) (hn : n ≤ 4) : m ≤ 1296 := by
  have h1 := crowds_le (L := canL L) hn (sl_canL L).nodup (fun x hx => h.crw x ((mem_canL _ _).1 hx))
  rw [← h.cont, List.length_map, h.crn.len] at h1
  exact h1
theorem Crn.other {lo lo' gg : Nat} (h : Crn w lo (some ⟨g, 0, none⟩) m R) {l : List Int} {d : Nat} (hO : OwnInts w lo' (some ⟨gg, 0, none⟩) d c l) (hne : ∀ x ∈ R, x.g ≠ gg) (o : Nat) (v : Value) : Crn (w.setCell ⟨gg, o, none⟩ v) lo (some ⟨g, 0, none⟩) m R := by
  refine ⟨h.len, ?_, fun x hx => own_block_same (h.row x hx) (Below.heap_setCell _ _ _ _ (fun e => hne x hx e))⟩
  rcases h.top with h0 | ⟨g', cur, e, h1, h2, h3⟩
  · exact .inl h0
  · refine .inr ⟨g', cur, e, h1, h2.set_other _ _ (fun e2 => ?_), h3⟩
    simp only at e2
    subst e2
    exact own_other' hO h2 (by decide) rfl
end
theorem dec_facts {w2 : World} {lo g8 n c8 a b : Nat} {l : List Int} (hO : OwnInts w2 lo (some ⟨g8, 0, none⟩) n c8 l) (hW : Crw n l) (ha : a < n) (hb : b < n) :
    ∃ va vb : Int, w2.cell? ⟨g8, a, none⟩ = some (.int .i64 va) ∧ w2.frozen? ⟨g8, a, none⟩ = false ∧ (w2.setCell ⟨g8, a, none⟩ (.int .i64 (va - 1))).cell? ⟨g8, b, none⟩ = some (.int .i64 vb) ∧ (w2.setCell ⟨g8, a, none⟩ (.int .i64 (va - 1))).frozen? ⟨g8, b, none⟩ = false ∧ wrap64 (va - 1) = va - 1 ∧ wrap64 (vb - 1) = vb - 1 ∧
      Hid (OwnInts ((w2.setCell ⟨g8, a, none⟩ (.int .i64 (va - 1))).setCell ⟨g8, b, none⟩ (.int .i64 (vb - 1))) lo (some ⟨g8, 0, none⟩) n c8 (decL l a b)) := by
  have h1 := hW.at a ha
  have h2 := hW.at b hb
  have hO3 := hO.set a (l.getD a 0 - 1)
  refine ⟨l.getD a 0, (l.set a (l.getD a 0 - 1)).getD b 0, hO.cell a ha, hO.frozen a, hO3.cell b hb, hO3.frozen b, by unfold wrap64; omega, ?_, Lib.hid (hO3.set b _)⟩
  rw [getD_set _ _ _ _ (by rw [hW.len]; exact ha)]
  unfold wrap64
  split <;> omega
theorem SSt.other {w w' : World} {bx n g m c : Nat} {cs : Array Value} {R : List Hdr} {L : List (List Int)} (h : SSt w bx n cs g m c R L w') {lo' gg d c' : Nat} {l : List Int} (hO : OwnInts w' lo' (some ⟨gg, 0, none⟩) d c' l) (hlt : ∀ x ∈ R, x.g ≠ gg) (hbx : w.heap.size ≤ gg) (o : Nat) (v : Value) : SSt w bx n cs g m c R L (w'.setCell ⟨gg, o, none⟩ v) :=
  ⟨h.crn.other hO hlt o v, h.cont, h.mc, h.c63, h.crw, h.box.set_other _ _ (fun e => by simp only at e; subst e; exact own_other' hO h.box (by decide) rfl), Below.setCell h.keeps hbx _⟩
theorem inc_facts {w4 : World} {lo g8 n c8 a b : Nat} {l : List Int} {F G : Nat → Nat → Nat} (hO : OwnInts w4 lo (some ⟨g8, 0, none⟩) n c8 (decL l a b)) (hW : Crw n l) (hok : okB l a b = true) (ha : a < n) (hb : b < n) (hF : F a b < n) (hG : G a b < n) :
    ∃ vF vG : Int, w4.cell? ⟨g8, F a b, none⟩ = some (.int .i64 vF) ∧ w4.frozen? ⟨g8, F a b, none⟩ = false ∧ (w4.setCell ⟨g8, F a b, none⟩ (.int .i64 (vF + 1))).cell? ⟨g8, G a b, none⟩ = some (.int .i64 vG) ∧ (w4.setCell ⟨g8, F a b, none⟩ (.int .i64 (vF + 1))).frozen? ⟨g8, G a b, none⟩ = false ∧ wrap64 (vF + 1) = vF + 1 ∧ wrap64 (vG + 1) = vG + 1 ∧
      Hid (OwnInts (w4.setCell ⟨g8, F a b, none⟩ (.int .i64 (vF + 1))) lo (some ⟨g8, 0, none⟩) n c8 (incL (decL l a b) (F a b)) ∧ OwnInts ((w4.setCell ⟨g8, F a b, none⟩ (.int .i64 (vF + 1))).setCell ⟨g8, G a b, none⟩ (.int .i64 (vG + 1))) lo (some ⟨g8, 0, none⟩) n c8 (meetL F G l a b)) := by
  have hl := hW.len
  have hd := (dec_pos hW ha hb).1 hok
  have h1 := hW.at (F a b) hF
  have h2 := hW.at (G a b) hG
  have hO5 := hO.set (F a b) ((decL l a b).getD (F a b) 0 + 1)
  refine ⟨(decL l a b).getD (F a b) 0, (incL (decL l a b) (F a b)).getD (G a b) 0, hO.cell _ hF, hO.frozen _, hO5.cell _ hG, hO5.frozen _, ?_, ?_, Lib.hid ⟨hO5, hO5.set (G a b) _⟩⟩
  · have := hd _ hF
    rw [decL_at (by omega) (by omega)] at this ⊢
    unfold wrap64
    split <;> split <;> omega
  · have := hd _ hG
    rw [incL_at (by rw [decL_len]; omega)]
    rw [decL_at (by omega) (by omega)] at this ⊢
    unfold wrap64
    split <;> split <;> split <;> omega
set_option maxRecDepth 100000 in
set_option maxHeartbeats 8000000 in
theorem snextOf_any (S A B C : Option Addr) (n cS cA cB cC : Nat) (s : Nat → Int) (rA rB : Nat → Option Addr × Nat × Nat) (F G : Nat → Nat → Nat) (l : List Int) (w : World) (hR : RulN w S n s A rA F B rB G) (hl : Crw n l) (hC : Ints w C n (fun i => l.getD i 0)) :
    Calls Try.prog 51 #[.agg #[.slice S n cS, .slice A n cA, .slice B n cB], .slice C n cC] w fun e w' => ∃ R g m c, e = .returned (.slice (some ⟨g, 0, none⟩) m c) ∧ R.map (·.l) = nextL F G n l ∧ Crn w' w.heap.size (some ⟨g, 0, none⟩) m R ∧ (m ≤ c ∧ c ≤ 9223372036854775807) ∧ Keeps w w' := by
  have hn1 := hR.n1
  have hn4 := hR.n4
  have HR := Lib.hid hR
  have HW := Lib.hid hl
  obtain ⟨dC, oC, rfl, _⟩ := hC 0 (by omega)
  have HC : Hid (∀ i, i < n → w.cell? ⟨dC, oC + i, none⟩ = some (.int .i64 (l.getD i 0))) := Lib.hid (fun i hi => by
    obtain ⟨_, _, e, hc⟩ := hC i hi
    cases e
    exact hc)
  have HCI := Lib.hid hC
  have HWL := Lib.hid hl.len
  clear hR hl hC
  have HB0 : Hid (SSt w w.heap.size n #[.slice S n cS, .slice A n cA, .slice B n cB] (w.heap.size + 1) 0 0 [] [] ((w.alloc (.cells #[.slice S n cS, .slice A n cA, .slice B n cB] 26)).alloc (.cells #[] 23))) := Lib.hid (by
    have h1 := Crd.made (w.alloc (.cells #[.slice S n cS, .slice A n cA, .slice B n cB] 26)) w.heap.size (Keeps.alloc w _).size
    rw [World.size_alloc] at h1
    exact ⟨h1.crn, rfl, Nat.le_refl _, by omega, fun x hx => by simp at hx, (Blk.new w _ _).keeps (Keeps.alloc _ _), (Keeps.alloc w _).step (Keeps.alloc _ _)⟩)
  go_enter Try.func51, Try.ntmps51
  go_wp2_with fail
  go_loopw [7, 5] (fun i v wr => ∃ (a g m c : Nat) (R : List Hdr), a ≤ n ∧ i = .int .i64 a ∧ v = .slice (some ⟨g, 0, none⟩) m c ∧ Hid (SSt w w.heap.size n #[.slice S n cS, .slice A n cA, .slice B n cB] g m c R (allM F G l n a) wr)) (fun i _ _ => n - (intOf i).toNat)
  case atStart => exact ⟨0, w.heap.size + 1, 0, 0, [], by omega, rfl, rfl, HB0⟩
  case round =>
    clear HB0
    obtain ⟨a, g, m, c, R, ha, rfl, rfl, HS⟩ := hrel
    by_cases hlt : a < n
    · have hai : (a : Int) < n := by omega
      go_wp2_with fail
      go_loopw [8, 5] (fun i v wr => ∃ (b g m c : Nat) (R : List Hdr), b ≤ n ∧ i = .int .i64 b ∧ v = .slice (some ⟨g, 0, none⟩) m c ∧ Hid (SSt w w.heap.size n #[.slice S n cS, .slice A n cA, .slice B n cB] g m c R (allM F G l n a ++ rowM F G l a b) wr)) (fun i _ _ => n - (intOf i).toNat)
      case atStart => exact ⟨0, g, m, c, R, by omega, rfl, rfl, Lib.hid (by rw [rowM, List.append_nil]; exact HS.out)⟩
      case round =>
        clear HS
        obtain ⟨b, g, m, c, R, hb, rfl, rfl, HS⟩ := hrel
        by_cases hltb : b < n
        · have hbi : (b : Int) < n := by omega
          have ca := cell_keeps HS.out.keeps (HC.out a hlt)
          have cb := cell_keeps HS.out.keeps (HC.out b hltb)
          have hla := HW.out.at a hlt
          have hlb := HW.out.at b hltb
          have HOKD : Hid (okB l a b = ((!(l.getD a 0 == 0) && !(l.getD b 0 == 0)) && !(decide (a = b) && decide (l.getD a 0 < 2)))) := Lib.hid rfl
          have HNO : Hid (okB l a b = false → rowM F G l a (b + 1) = rowM F G l a b) := Lib.hid (fun h => by
            have : meetsB F G l a b = false := by unfold meetsB; rw [h]; rfl
            rw [rowM, this]
            simp)
          obtain ⟨ya, hya⟩ : ∃ y, y = l.getD a 0 := ⟨_, rfl⟩
          obtain ⟨yb, hyb⟩ : ∃ y, y = l.getD b 0 := ⟨_, rfl⟩
          rw [← hya] at ca hla HOKD
          rw [← hyb] at cb hlb HOKD
          clear hya hyb
          by_cases h1 : ya = 0
          · have h1' : (ya == 0) = true := by simp [h1]
            have HNX := Lib.hid (HNO.out (by rw [HOKD.out]; rw [h1']; rfl))
            clear HOKD HNO
            go_wp2_with fail
            go_roundw
            case rel => exact ⟨b + 1, g, m, c, R, by omega, by go_num, rfl, Lib.hid (by rw [HNX.out]; exact HS.out)⟩
            case measure => simp [intOf]; omega
          · have h1' : (ya == 0) = false := by simp [h1]
            by_cases h2 : yb = 0
            · have h2' : (yb == 0) = true := by simp [h2]
              have HNX := Lib.hid (HNO.out (by rw [HOKD.out]; rw [h1', h2']; rfl))
              clear HOKD HNO
              go_wp2_with fail
              go_roundw
              case rel => exact ⟨b + 1, g, m, c, R, by omega, by go_num, rfl, Lib.hid (by rw [HNX.out]; exact HS.out)⟩
              case measure => simp [intOf]; omega
            · have h2' : (yb == 0) = false := by simp [h2]
              by_cases hab : a = b
              · subst hab
                obtain rfl : ya = yb := by
                  rw [ca] at cb
                  injection cb with cb
                  injection cb
                clear cb hlb hbi
                by_cases h3 : ya < 2
                · have HNX := Lib.hid (HNO.out (by rw [HOKD.out]; rw [h1', decide_eq_true rfl, decide_eq_true h3]; rfl))
                  clear HOKD HNO
                  go_wp2_with fail
                  go_roundw
                  case rel => exact ⟨a + 1, g, m, c, R, by omega, by go_num, rfl, Lib.hid (by rw [HNX.out]; exact HS.out)⟩
                  case measure => simp [intOf]; omega
                · have HOK2 : Hid (okB l a a = true) := Lib.hid (by rw [HOKD.out, h1', decide_eq_true rfl, decide_eq_false h3]; rfl)
                  clear HOKD HNO
                  have HSZ : Hid (∀ x ∈ R, x.g < wr.heap.size) := Lib.hid (fun x hx => (own_block (HS.out.crn.row x hx) x.g rfl).2)
                  have hws := HS.out.keeps.size
                  go_wp2_with (first | (at_builtin; go_loud (refine wp_spread_int rfl _ _ rfl wr.heap.size (some ⟨wr.heap.size, 0, none⟩) 0 0 [] _ rfl (OwnInts.made _ _ (Nat.le_refl _)) dC oC n cC (fun i => l.getD i 0) rfl (fun i hi => cell_keeps (Keeps.alloc _ _) (cell_keeps HS.out.keeps (HC.out i hi))) (by omega) (by omega) (by simp) ?_; intro g8 c8 w2 hO2 hg2; have hO2 : OwnInts w2 wr.heap.size (some ⟨g8, 0, none⟩) n c8 l := (by have h := hO2; rw [Nat.zero_add, List.nil_append] at h; exact (il_list l n HWL.out) ▸ h); have hK2 : Keeps wr w2 := (Keeps.alloc wr _).grown (OwnInts.made wr wr.heap.size (Nat.le_refl _)) (Nat.le_refl _) hg2; have HS2 := Lib.hid (HS.out.step hK2); have HO2 := Lib.hid hO2; have hg8 := hO2.block; obtain ⟨va, vb, c1, f1, c2, f2, hwa, hwb, HO4⟩ := dec_facts hO2 HW.out hlt hlt; rw [Nat.zero_add]; clear hO2 hg2 hK2)))
                  as_aux_lemma =>
                    have HS4 : Hid (SSt w w.heap.size n #[.slice S n cS, .slice A n cA, .slice B n cB] g m c R (allM F G l n a ++ rowM F G l a a) ((w2.setCell ⟨g8, a, none⟩ (.int .i64 (va - 1))).setCell ⟨g8, a, none⟩ (.int .i64 (vb - 1)))) := Lib.hid ((HS2.out.other HO2.out (fun x hx => by have := HSZ.out x hx; omega) (by omega) _ _).other (l := l.set a (va - 1)) (by have h := HO2.out.set a (va - 1); exact h) (fun x hx => by have := HSZ.out x hx; omega) (by omega) _ _)
                    generalize ((w2.setCell ⟨g8, a, none⟩ (.int .i64 (va - 1))).setCell ⟨g8, a, none⟩ (.int .i64 (vb - 1))) = w4 at *
                    have HNE8 : Hid (∀ x ∈ R, x.g ≠ g8) := Lib.hid (fun x hx => by have := HSZ.out x hx; omega)
                    have HG8 : Hid (w.heap.size < g8 ∧ wr.heap.size ≤ g8) := Lib.hid (by have := HS.out.box.lt; omega)
                    clear c1 f1 c2 f2 hwa hwb HS2 HO2
                    obtain ⟨hFn, hGn⟩ := HR.out.rul a a hlt hlt
                    obtain ⟨⟨dA, oA, eA, hcA⟩, hIA⟩ := HR.out.first a hlt
                    obtain ⟨⟨dB, oB, eB, hcB⟩, hIB⟩ := HR.out.second a hlt
                    rw [HR.out.lA a hlt] at hcA hIA
                    rw [HR.out.lB a hlt] at hcB hIB
                    obtain ⟨dF, oF, eF, hcF⟩ := hIA a hlt
                    obtain ⟨dG, oG, eG, hcG⟩ := hIB a hlt
                    rw [eF] at hcA
                    rw [eG] at hcB
                    dsimp only at hcF hcG
                    obtain ⟨xA, hxA⟩ : ∃ x, x = (rA a).2.2 := ⟨_, rfl⟩
                    obtain ⟨xB, hxB⟩ : ∃ x, x = (rB a).2.2 := ⟨_, rfl⟩
                    rw [← hxA] at hcA
                    rw [← hxB] at hcB
                    subst eA
                    subst eB
                    clear hIA hIB eF eG hxA hxB
                    obtain ⟨vF, vG, hcF8, hfF8, hcG8, hfG8, hwF, hwG, HOM⟩ := inc_facts HO4.out HW.out HOK2.out hlt hlt hFn hGn
                    have HTB : Hid (∀ W, Keeps w W → W.cell? ⟨dB, oB + a, none⟩ = some (.slice (some ⟨dG, oG, none⟩) n xB) ∧ W.cell? ⟨dG, oG + a, none⟩ = some (.int .i64 (G a a))) := Lib.hid (fun W hK => ⟨cell_keeps hK hcB, cell_keeps hK hcG⟩)
                    have hdB : dB ≠ g8 := fun e => by have := World.block_lt_of_cell? w _ hcB; simp only at this; have := HG8.out; omega
                    have hdG : dG ≠ g8 := fun e => by have := World.block_lt_of_cell? w _ hcG; simp only at this; have := HG8.out; omega
                    replace hcA := cell_keeps HS4.out.keeps hcA
                    replace hcF := cell_keeps HS4.out.keeps hcF
                    have b1 : w4.cell? ⟨w.heap.size, 1, none⟩ = some (.slice (some ⟨dA, oA, none⟩) n cA) := HS4.out.box.cell 1
                    have HFN := Lib.hid (And.intro hFn hGn)
                    have hFi : ((F a a : Nat) : Int) < n := by omega
                    have hGi : ((G a a : Nat) : Int) < n := by omega
                    obtain ⟨pF, hpF⟩ : ∃ p, p = F a a := ⟨_, rfl⟩
                    obtain ⟨pG, hpG⟩ : ∃ p, p = G a a := ⟨_, rfl⟩
                    rw [← hpF] at hcF hcF8 hfF8 hcG8 hfG8 HOM hFi hFn
                    rw [← hpG] at hcG8 hfG8 HOM hGi hGn
                    rw [← hpG] at HTB
                    have HPP := Lib.hid (And.intro hpF hpG)
                    clear hpF hpG hcB hcG
                    go_wp2_with fail
                    go_region
                    have HS5 : Hid (SSt w w.heap.size n #[.slice S n cS, .slice (some ⟨dA, oA, none⟩) n cA, .slice (some ⟨dB, oB, none⟩) n cB] g m c R (allM F G l n a ++ rowM F G l a a) (w4.setCell ⟨g8, pF, none⟩ (.int .i64 (vF + 1))).drew) := Lib.hid ((HS4.out.other HO4.out HNE8.out (by have := HG8.out; omega) _ _).step (Keeps.drew1 _))
                    have HO5 : Hid (OwnInts (w4.setCell ⟨g8, pF, none⟩ (.int .i64 (vF + 1))).drew wr.heap.size (some ⟨g8, 0, none⟩) n c8 (incL (decL l a a) pF)) := Lib.hid (HOM.out.1.keeps (Keeps.drew1 _))
                    have HOM5 : Hid (OwnInts ((w4.setCell ⟨g8, pF, none⟩ (.int .i64 (vF + 1))).drew.setCell ⟨g8, pG, none⟩ (.int .i64 (vG + 1))) wr.heap.size (some ⟨g8, 0, none⟩) n c8 (meetL F G l a a)) := Lib.hid HOM.out.2
                    have e1 : (w4.setCell ⟨g8, pF, none⟩ (.int .i64 (vF + 1))).drew.cell? ⟨g8, pG, none⟩ = some (.int .i64 vG) := hcG8
                    have e2 : (w4.setCell ⟨g8, pF, none⟩ (.int .i64 (vF + 1))).drew.frozen? ⟨g8, pG, none⟩ = false := hfG8
                    clear hcF8 hfF8 hcG8 hfG8 HOM hcA hcF b1 HS4 HO4 hwF
                    as_aux_lemma =>
                      go_wp2_with fail
                      generalize (w4.setCell ⟨g8, pF, none⟩ (.int .i64 (vF + 1))).drew = w5 at *
                      obtain ⟨hcB, hcG⟩ := HTB.out w5 HS5.out.keeps
                      have b2 : w5.cell? ⟨w.heap.size, 2, none⟩ = some (.slice (some ⟨dB, oB, none⟩) n cB) := HS5.out.box.cell 2
                      go_region
                      have HS6 : Hid (SSt w w.heap.size n #[.slice S n cS, .slice (some ⟨dA, oA, none⟩) n cA, .slice (some ⟨dB, oB, none⟩) n cB] g m c R (allM F G l n a ++ rowM F G l a a) (w5.setCell ⟨g8, pG, none⟩ (.int .i64 (vG + 1))).drew) := Lib.hid ((HS5.out.other HO5.out HNE8.out (by have := HG8.out; omega) _ _).step (Keeps.drew1 _))
                      have HO6 : Hid (OwnInts (w5.setCell ⟨g8, pG, none⟩ (.int .i64 (vG + 1))).drew wr.heap.size (some ⟨g8, 0, none⟩) n c8 (meetL F G l a a)) := Lib.hid (HOM5.out.keeps (Keeps.drew1 _))
                      clear hcB hcG b2 e1 e2 HS5 HO5 HOM5 hwG
                      have HME : Hid (meetsB F G l a a = !decide (meetL F G l a a = l)) := Lib.hid (by unfold meetsB; rw [HOK2.out]; rfl)
                      have HML : Hid ((meetL F G l a a).length = n) := Lib.hid (by rw [meetL_len, HWL.out])
                      as_aux_lemma =>
                        go_wp2_with fail
                        generalize (w5.setCell ⟨g8, pG, none⟩ (.int .i64 (vG + 1))).drew = w6 at *
                        have CE := Lib.hid (same_any (some ⟨g8, 0, none⟩) (some ⟨dC, oC, none⟩) n c8 cC (meetL F G l a a) l w6 HML.out HWL.out (by omega) (HML.out ▸ HO6.out.ints) (HCI.out.keeps HS6.out.keeps))
                        as_aux_lemma =>
                          cases hme : decide (meetL F G l a a = l)
                          · rw [hme] at HME CE
                            have HNX : Hid (rowM F G l a (a + 1) = rowM F G l a a ++ [meetL F G l a a]) := Lib.hid (by rw [rowM, HME.out]; rfl)
                            clear hme
                            refine CE.out.mono ?_
                            rintro e w7 ⟨rfl, hk7⟩
                            have HS7 := Lib.hid (HS6.out.step hk7)
                            have HO7 := Lib.hid (HO6.out.keeps hk7)
                            have CI := Lib.hid (insert_any g m c w.heap.size n R ⟨g8, c8, c8, meetL F G l a a⟩ w7 HS7.out.crn (by rw [HML.out]; exact HO7.out.mono hws) (by omega) HML.out HS7.out.lens (by have := HS7.out.le hn4; omega) HS7.out.mc HS7.out.c63 HS7.out.keeps.size)
                            unfold Hdr.v at CI
                            rw [HML.out] at CI
                            clear hk7 CE HS6 HO6
                            go_wp2_with fail
                            refine CI.out.mono ?_
                            rintro e w8 ⟨g9, m9, c9, R9, rfl, hc9, hm9, hR9, hmc9, hk8, _⟩
                            have HS8 : Hid (SSt w w.heap.size n #[.slice S n cS, .slice (some ⟨dA, oA, none⟩) n cA, .slice (some ⟨dB, oB, none⟩) n cB] g9 m9 c9 R9 (allM F G l n a ++ rowM F G l a (a + 1)) w8) := Lib.hid ⟨hR9, by rw [hc9, HS7.out.cont, HNX.out, ← List.append_assoc, canL_snoc], hmc9.1, hmc9.2, fun x hx => by
                              rw [HNX.out, ← List.append_assoc] at hx
                              rcases List.mem_append.1 hx with h | h
                              · exact HS7.out.crw x h
                              · rw [List.mem_singleton] at h
                                subst h
                                exact (meet_crw HW.out hlt hlt (HR.out.rul a a hlt hlt).1 (HR.out.rul a a hlt hlt).2 HOK2.out).1, HS7.out.box.keeps hk8, HS7.out.keeps.step hk8⟩
                            clear hc9 hm9 hR9 hmc9 hk8 CI
                            go_wp2_with fail
                            go_roundw
                            case rel => exact ⟨a + 1, g9, m9, c9, R9, by omega, by go_num, rfl, HS8⟩
                            case measure => simp [intOf]; omega
                          · rw [hme] at HME CE
                            have HNX : Hid (rowM F G l a (a + 1) = rowM F G l a a) := Lib.hid (by rw [rowM, HME.out]; simp)
                            clear hme
                            refine CE.out.mono ?_
                            rintro e w7 ⟨rfl, hk7⟩
                            have HS7 := Lib.hid (HS6.out.step hk7)
                            clear hk7 CE HS6 HO6
                            go_wp2_with fail
                            go_roundw
                            case rel => exact ⟨a + 1, g, m, c, R, by omega, by go_num, rfl, Lib.hid (by rw [HNX.out]; exact HS7.out)⟩
                            case measure => simp [intOf]; omega
              · have hab' : ((a : Int) == (b : Int)) = false := by simp; omega
                have HOK2 : Hid (okB l a b = true) := Lib.hid (by rw [HOKD.out, h1', h2', decide_eq_false hab]; rfl)
                clear hab
                clear HOKD HNO
                have HSZ : Hid (∀ x ∈ R, x.g < wr.heap.size) := Lib.hid (fun x hx => (own_block (HS.out.crn.row x hx) x.g rfl).2)
                have hws := HS.out.keeps.size
                go_wp2_with (first | (at_builtin; go_loud (refine wp_spread_int rfl _ _ rfl wr.heap.size (some ⟨wr.heap.size, 0, none⟩) 0 0 [] _ rfl (OwnInts.made _ _ (Nat.le_refl _)) dC oC n cC (fun i => l.getD i 0) rfl (fun i hi => cell_keeps (Keeps.alloc _ _) (cell_keeps HS.out.keeps (HC.out i hi))) (by omega) (by omega) (by simp) ?_; intro g8 c8 w2 hO2 hg2; have hO2 : OwnInts w2 wr.heap.size (some ⟨g8, 0, none⟩) n c8 l := (by have h := hO2; rw [Nat.zero_add, List.nil_append] at h; exact (il_list l n HWL.out) ▸ h); have hK2 : Keeps wr w2 := (Keeps.alloc wr _).grown (OwnInts.made wr wr.heap.size (Nat.le_refl _)) (Nat.le_refl _) hg2; have HS2 := Lib.hid (HS.out.step hK2); have HO2 := Lib.hid hO2; have hg8 := hO2.block; obtain ⟨va, vb, c1, f1, c2, f2, hwa, hwb, HO4⟩ := dec_facts hO2 HW.out hlt hltb; rw [Nat.zero_add]; clear hO2 hg2 hK2)))
                as_aux_lemma =>
                  have HS4 : Hid (SSt w w.heap.size n #[.slice S n cS, .slice A n cA, .slice B n cB] g m c R (allM F G l n a ++ rowM F G l a b) ((w2.setCell ⟨g8, a, none⟩ (.int .i64 (va - 1))).setCell ⟨g8, b, none⟩ (.int .i64 (vb - 1)))) := Lib.hid ((HS2.out.other HO2.out (fun x hx => by have := HSZ.out x hx; omega) (by omega) _ _).other (l := l.set a (va - 1)) (by have h := HO2.out.set a (va - 1); exact h) (fun x hx => by have := HSZ.out x hx; omega) (by omega) _ _)
                  generalize ((w2.setCell ⟨g8, a, none⟩ (.int .i64 (va - 1))).setCell ⟨g8, b, none⟩ (.int .i64 (vb - 1))) = w4 at *
                  have HNE8 : Hid (∀ x ∈ R, x.g ≠ g8) := Lib.hid (fun x hx => by have := HSZ.out x hx; omega)
                  have HG8 : Hid (w.heap.size < g8 ∧ wr.heap.size ≤ g8) := Lib.hid (by have := HS.out.box.lt; omega)
                  clear c1 f1 c2 f2 hwa hwb HS2 HO2
                  obtain ⟨hFn, hGn⟩ := HR.out.rul a b hlt hltb
                  obtain ⟨⟨dA, oA, eA, hcA⟩, hIA⟩ := HR.out.first a hlt
                  obtain ⟨⟨dB, oB, eB, hcB⟩, hIB⟩ := HR.out.second a hlt
                  rw [HR.out.lA a hlt] at hcA hIA
                  rw [HR.out.lB a hlt] at hcB hIB
                  obtain ⟨dF, oF, eF, hcF⟩ := hIA b hltb
                  obtain ⟨dG, oG, eG, hcG⟩ := hIB b hltb
                  rw [eF] at hcA
                  rw [eG] at hcB
                  dsimp only at hcF hcG
                  obtain ⟨xA, hxA⟩ : ∃ x, x = (rA a).2.2 := ⟨_, rfl⟩
                  obtain ⟨xB, hxB⟩ : ∃ x, x = (rB a).2.2 := ⟨_, rfl⟩
                  rw [← hxA] at hcA
                  rw [← hxB] at hcB
                  subst eA
                  subst eB
                  clear hIA hIB eF eG hxA hxB
                  obtain ⟨vF, vG, hcF8, hfF8, hcG8, hfG8, hwF, hwG, HOM⟩ := inc_facts HO4.out HW.out HOK2.out hlt hltb hFn hGn
                  have HTB : Hid (∀ W, Keeps w W → W.cell? ⟨dB, oB + a, none⟩ = some (.slice (some ⟨dG, oG, none⟩) n xB) ∧ W.cell? ⟨dG, oG + b, none⟩ = some (.int .i64 (G a b))) := Lib.hid (fun W hK => ⟨cell_keeps hK hcB, cell_keeps hK hcG⟩)
                  have hdB : dB ≠ g8 := fun e => by have := World.block_lt_of_cell? w _ hcB; simp only at this; have := HG8.out; omega
                  have hdG : dG ≠ g8 := fun e => by have := World.block_lt_of_cell? w _ hcG; simp only at this; have := HG8.out; omega
                  replace hcA := cell_keeps HS4.out.keeps hcA
                  replace hcF := cell_keeps HS4.out.keeps hcF
                  have b1 : w4.cell? ⟨w.heap.size, 1, none⟩ = some (.slice (some ⟨dA, oA, none⟩) n cA) := HS4.out.box.cell 1
                  have HFN := Lib.hid (And.intro hFn hGn)
                  have hFi : ((F a b : Nat) : Int) < n := by omega
                  have hGi : ((G a b : Nat) : Int) < n := by omega
                  obtain ⟨pF, hpF⟩ : ∃ p, p = F a b := ⟨_, rfl⟩
                  obtain ⟨pG, hpG⟩ : ∃ p, p = G a b := ⟨_, rfl⟩
                  rw [← hpF] at hcF hcF8 hfF8 hcG8 hfG8 HOM hFi hFn
                  rw [← hpG] at hcG8 hfG8 HOM hGi hGn
                  rw [← hpG] at HTB
                  have HPP := Lib.hid (And.intro hpF hpG)
                  clear hpF hpG hcB hcG
                  go_wp2_with fail
                  go_region
                  have HS5 : Hid (SSt w w.heap.size n #[.slice S n cS, .slice (some ⟨dA, oA, none⟩) n cA, .slice (some ⟨dB, oB, none⟩) n cB] g m c R (allM F G l n a ++ rowM F G l a b) (w4.setCell ⟨g8, pF, none⟩ (.int .i64 (vF + 1))).drew) := Lib.hid ((HS4.out.other HO4.out HNE8.out (by have := HG8.out; omega) _ _).step (Keeps.drew1 _))
                  have HO5 : Hid (OwnInts (w4.setCell ⟨g8, pF, none⟩ (.int .i64 (vF + 1))).drew wr.heap.size (some ⟨g8, 0, none⟩) n c8 (incL (decL l a b) pF)) := Lib.hid (HOM.out.1.keeps (Keeps.drew1 _))
                  have HOM5 : Hid (OwnInts ((w4.setCell ⟨g8, pF, none⟩ (.int .i64 (vF + 1))).drew.setCell ⟨g8, pG, none⟩ (.int .i64 (vG + 1))) wr.heap.size (some ⟨g8, 0, none⟩) n c8 (meetL F G l a b)) := Lib.hid HOM.out.2
                  have e1 : (w4.setCell ⟨g8, pF, none⟩ (.int .i64 (vF + 1))).drew.cell? ⟨g8, pG, none⟩ = some (.int .i64 vG) := hcG8
                  have e2 : (w4.setCell ⟨g8, pF, none⟩ (.int .i64 (vF + 1))).drew.frozen? ⟨g8, pG, none⟩ = false := hfG8
                  clear hcF8 hfF8 hcG8 hfG8 HOM hcA hcF b1 HS4 HO4 hwF
                  as_aux_lemma =>
                    go_wp2_with fail
                    generalize (w4.setCell ⟨g8, pF, none⟩ (.int .i64 (vF + 1))).drew = w5 at *
                    obtain ⟨hcB, hcG⟩ := HTB.out w5 HS5.out.keeps
                    have b2 : w5.cell? ⟨w.heap.size, 2, none⟩ = some (.slice (some ⟨dB, oB, none⟩) n cB) := HS5.out.box.cell 2
                    go_region
                    have HS6 : Hid (SSt w w.heap.size n #[.slice S n cS, .slice (some ⟨dA, oA, none⟩) n cA, .slice (some ⟨dB, oB, none⟩) n cB] g m c R (allM F G l n a ++ rowM F G l a b) (w5.setCell ⟨g8, pG, none⟩ (.int .i64 (vG + 1))).drew) := Lib.hid ((HS5.out.other HO5.out HNE8.out (by have := HG8.out; omega) _ _).step (Keeps.drew1 _))
                    have HO6 : Hid (OwnInts (w5.setCell ⟨g8, pG, none⟩ (.int .i64 (vG + 1))).drew wr.heap.size (some ⟨g8, 0, none⟩) n c8 (meetL F G l a b)) := Lib.hid (HOM5.out.keeps (Keeps.drew1 _))
                    clear hcB hcG b2 e1 e2 HS5 HO5 HOM5 hwG
                    have HME : Hid (meetsB F G l a b = !decide (meetL F G l a b = l)) := Lib.hid (by unfold meetsB; rw [HOK2.out]; rfl)
                    have HML : Hid ((meetL F G l a b).length = n) := Lib.hid (by rw [meetL_len, HWL.out])
                    as_aux_lemma =>
                      go_wp2_with fail
                      generalize (w5.setCell ⟨g8, pG, none⟩ (.int .i64 (vG + 1))).drew = w6 at *
                      have CE := Lib.hid (same_any (some ⟨g8, 0, none⟩) (some ⟨dC, oC, none⟩) n c8 cC (meetL F G l a b) l w6 HML.out HWL.out (by omega) (HML.out ▸ HO6.out.ints) (HCI.out.keeps HS6.out.keeps))
                      as_aux_lemma =>
                        cases hme : decide (meetL F G l a b = l)
                        · rw [hme] at HME CE
                          have HNX : Hid (rowM F G l a (b + 1) = rowM F G l a b ++ [meetL F G l a b]) := Lib.hid (by rw [rowM, HME.out]; rfl)
                          clear hme
                          refine CE.out.mono ?_
                          rintro e w7 ⟨rfl, hk7⟩
                          have HS7 := Lib.hid (HS6.out.step hk7)
                          have HO7 := Lib.hid (HO6.out.keeps hk7)
                          have CI := Lib.hid (insert_any g m c w.heap.size n R ⟨g8, c8, c8, meetL F G l a b⟩ w7 HS7.out.crn (by rw [HML.out]; exact HO7.out.mono hws) (by omega) HML.out HS7.out.lens (by have := HS7.out.le hn4; omega) HS7.out.mc HS7.out.c63 HS7.out.keeps.size)
                          unfold Hdr.v at CI
                          rw [HML.out] at CI
                          clear hk7 CE HS6 HO6
                          go_wp2_with fail
                          refine CI.out.mono ?_
                          rintro e w8 ⟨g9, m9, c9, R9, rfl, hc9, hm9, hR9, hmc9, hk8, _⟩
                          have HS8 : Hid (SSt w w.heap.size n #[.slice S n cS, .slice (some ⟨dA, oA, none⟩) n cA, .slice (some ⟨dB, oB, none⟩) n cB] g9 m9 c9 R9 (allM F G l n a ++ rowM F G l a (b + 1)) w8) := Lib.hid ⟨hR9, by rw [hc9, HS7.out.cont, HNX.out, ← List.append_assoc, canL_snoc], hmc9.1, hmc9.2, fun x hx => by
                            rw [HNX.out, ← List.append_assoc] at hx
                            rcases List.mem_append.1 hx with h | h
                            · exact HS7.out.crw x h
                            · rw [List.mem_singleton] at h
                              subst h
                              exact (meet_crw HW.out hlt hltb (HR.out.rul a b hlt hltb).1 (HR.out.rul a b hlt hltb).2 HOK2.out).1, HS7.out.box.keeps hk8, HS7.out.keeps.step hk8⟩
                          clear hc9 hm9 hR9 hmc9 hk8 CI
                          go_wp2_with fail
                          go_roundw
                          case rel => exact ⟨b + 1, g9, m9, c9, R9, by omega, by go_num, rfl, HS8⟩
                          case measure => simp [intOf]; omega
                        · rw [hme] at HME CE
                          have HNX : Hid (rowM F G l a (b + 1) = rowM F G l a b) := Lib.hid (by rw [rowM, HME.out]; simp)
                          clear hme
                          refine CE.out.mono ?_
                          rintro e w7 ⟨rfl, hk7⟩
                          have HS7 := Lib.hid (HS6.out.step hk7)
                          clear hk7 CE HS6 HO6
                          go_wp2_with fail
                          go_roundw
                          case rel => exact ⟨b + 1, g, m, c, R, by omega, by go_num, rfl, Lib.hid (by rw [HNX.out]; exact HS7.out)⟩
                          case measure => simp [intOf]; omega
        · obtain rfl : b = n := by omega
          go_wp2_with fail
          go_roundw
          case rel => exact ⟨a + 1, g, m, c, R, by omega, by go_num, rfl, Lib.hid (by rw [allM]; exact HS.out)⟩
          case measure => simp [intOf]; omega
    · obtain rfl : a = n := by omega
      go_wp2_with fail
      go_ret
      exact ⟨R, g, m, c, rfl, HS.out.cont, HS.out.crn, ⟨HS.out.mc, HS.out.c63⟩, HS.out.keeps⟩
end Go.Proofs.Ytaejakejnllimaa
