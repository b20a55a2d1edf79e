/-
  The reference's reached: a crowd and all that may come of it. Conditions: valid rules and a crowd.
-/
import Derived.Test.YtaejakejnllimaaSNext
import Derived.Test.YtaejakejnllimaaRchI
import Derived.Test.YtaejakejnllimaaSubQ
namespace Go.Proofs.Ytaejakejnllimaa
set_option maxRecDepth 100000
set_option linter.unusedVariables false
open Go.RowKit

theorem Crn.grown {w w' : World} {lo g m q : Nat} {R : List Hdr} {cs : Array Value} (h : Crn w lo (some ⟨g, 0, none⟩) m R) (hg : w.grownBy w' (some q)) (hq : Blk w q 23 cs) (hne : m = 0 ∨ g ≠ q) : Crn w' lo (some ⟨g, 0, none⟩) m R := by
  refine ⟨h.len, ?_, fun z hz => (h.row z hz).grown hg hq (by decide)⟩
  rcases h.top with h0 | ⟨g', cur, e, h1, h2, h3⟩
  · exact .inl h0
  · cases e
    by_cases hm : m = 0
    · exact .inl hm
    · refine .inr ⟨g, cur, rfl, h1, h2.grown hg (fun e => ?_), h3⟩
      rcases hne with h4 | h4
      · exact hm h4
      · exact h4 (by simpa using e)
theorem Crn.lt {w : World} {lo g m : Nat} {R : List Hdr} (h : Crn w lo (some ⟨g, 0, none⟩) m R) (hm : m ≠ 0) : lo ≤ g ∧ g < w.heap.size := by
  rcases h.top with h0 | ⟨g', cur, e, h1, h2, h3⟩
  · exact absurd h0 hm
  · cases e; exact ⟨h1, h2.lt⟩
/-- What is reached so far, and the queue. -/
structure PSt (F G : Nat → Nat → Nat) (l : List Int) (w : World) (bx n : Nat) (cs : Array Value) (g m c : Nat) (R : List Hdr) (gq off nq cq : Nat) (T : List Hdr) (wr : World) : Prop where
  crn : Crn wr w.heap.size (some ⟨g, 0, none⟩) m R
  sl : SL (R.map (·.l))
  mc : m ≤ c
  c63 : c ≤ 9223372036854775807
  mem : l ∈ R.map (·.l)
  rch : ∀ x ∈ R.map (·.l), Rch F G n l x
  sub : SubQ wr w.heap.size gq off nq cq T
  row : ∀ t ∈ T, OwnInts wr w.heap.size (some ⟨t.g, 0, none⟩) t.l.length t.d t.l
  tin : ∀ t ∈ T, t.l ∈ R.map (·.l)
  ne : g ≠ gq
  nm : nq ≤ m
  box : Blk wr bx 26 cs
  keeps : Keeps w wr
section
variable {F G : Nat → Nat → Nat} {l : List Int} {w wr w' : World} {bx n g m c gq off nq cq : Nat} {cs : Array Value} {R T : List Hdr}
theorem PSt.step (h : PSt F G l w bx n cs g m c R gq off nq cq T wr) (k : Keeps wr w') : PSt F G l w bx n cs g m c R gq off nq cq T w' :=
  ⟨h.crn.keeps k, h.sl, h.mc, h.c63, h.mem, h.rch, h.sub.keeps k, fun t ht => (h.row t ht).keeps k, h.tin, h.ne, h.nm, h.box.keeps k, h.keeps.step k⟩
theorem PSt.crw (h : PSt F G l w bx n cs g m c R gq off nq cq T wr) (hR : Rul n F G) (hl : Crw n l) : ∀ x ∈ R.map (·.l), Crw n x := fun x hx => ((h.rch x hx).crw hR hl).1
theorem PSt.lens (h : PSt F G l w bx n cs g m c R gq off nq cq T wr) (hR : Rul n F G) (hl : Crw n l) : ∀ x ∈ R, x.l.length = n := fun x hx => (h.crw hR hl _ (List.mem_map_of_mem hx)).len
theorem PSt.le (h : PSt F G l w bx n cs g m c R gq off nq cq T wr) (hR : Rul n F G) (hl : Crw n l) (hn : n ≤ 4) : 1 ≤ m ∧ m ≤ 1296 := by
  have h1 := crowds_le hn h.sl.nodup (h.crw hR hl)
  have h2 := List.length_pos_of_mem h.mem
  rw [List.length_map, h.crn.len] at h1 h2
  exact ⟨h2, h1⟩
theorem PSt.pop {x : Hdr} {p d : Nat} (h : PSt F G l w bx n cs g m c R gq off (p + 1) (d + 1) (x :: T) wr) : PSt F G l w bx n cs g m c R gq (off + 1) p d T wr :=
  ⟨h.crn, h.sl, h.mc, h.c63, h.mem, h.rch, h.sub.pop, fun t ht => h.row t (List.mem_cons_of_mem _ ht), fun t ht => h.tin t (List.mem_cons_of_mem _ ht), h.ne, by have := h.nm; omega, h.box, h.keeps⟩
theorem PSt.pop0 {x : Hdr} (h : PSt F G l w bx n cs g m c R gq off 1 1 (x :: T) wr) : PSt F G l w bx n cs g m c R gq off 0 0 T wr :=
  ⟨h.crn, h.sl, h.mc, h.c63, h.mem, h.rch, h.sub.pop0, fun t ht => h.row t (List.mem_cons_of_mem _ ht), fun t ht => h.tin t (List.mem_cons_of_mem _ ht), h.ne, by omega, h.box, h.keeps⟩
theorem PSt.add (h : PSt F G l w bx n cs g m c R gq off nq cq T wr) {w6 w9 : World} (k : Keeps wr w6) {g' m' c' : Nat} {R' : List Hdr} {y : Hdr} (hC : Crn w6 w.heap.size (some ⟨g', 0, none⟩) m' R') (hc : R'.map (·.l) = insL y.l (R.map (·.l))) (hm : m < m') (hmc : m' ≤ c' ∧ c' ≤ 9223372036854775807) (hge : wr.heap.size ≤ g')
    (hy : OwnInts wr w.heap.size (some ⟨y.g, 0, none⟩) y.l.length y.d y.l) (hr : Rch F G n l y.l) {gq' off' cq' : Nat} (hS : SubQ w9 w.heap.size gq' off' (nq + 1) cq' (T ++ [y])) (hg : w6.grownBy w9 (some gq)) (hor : gq' = gq ∨ w6.heap.size ≤ gq') :
    PSt F G l w bx n cs g' m' c' R' gq' off' (nq + 1) cq' (T ++ [y]) w9 := by
  obtain ⟨ct, hq⟩ := (h.sub.keeps k).blk
  have hql := h.sub.lt
  have hks := k.size
  have hgl := (hC.lt (by omega)).2
  refine ⟨hC.grown hg hq (.inr (by omega)), by rw [hc]; exact sl_insL _ h.sl, hmc.1, hmc.2, by rw [hc, mem_insL]; exact .inr h.mem, fun x hx => ?_, hS, fun t ht => ?_, fun t ht => ?_, by omega, by have := h.nm; omega, (h.box.keeps k).grown hg (fun e => ?_), ?_⟩
  · rw [hc, mem_insL] at hx
    rcases hx with rfl | hx
    · exact hr
    · exact h.rch x hx
  · rcases List.mem_append.1 ht with e | e
    · exact ((h.row t e).keeps k).grown hg hq (by decide)
    · rw [List.mem_singleton] at e
      subst e
      exact (hy.keeps k).grown hg hq (by decide)
  · rw [hc, mem_insL]
    rcases List.mem_append.1 ht with e | e
    · exact .inr (h.tin t e)
    · rw [List.mem_singleton] at e
      subst e
      exact .inl rfl
  · have e2 : bx = gq := by simpa using e
    subst e2
    exact blk_ne (h.box.keeps k) hq (by decide) rfl
  · exact (h.keeps.step k).grownAt hg h.sub.1
/-- The nexts R2 of the crowd X that was taken, of which those ahead of j are there. -/
structure JSt (F G : Nat → Nat → Nat) (n lo4 g2 k2 j m0 n0 : Nat) (X : List Int) (R2 : List Hdr) (m : Nat) (R : List Hdr) (gq nq : Nat) (T : List Hdr) (wr : World) : Prop where
  crn : Crn wr lo4 (some ⟨g2, 0, none⟩) k2 R2
  ne : k2 = 0 ∨ g2 ≠ gq
  cl : ∀ x ∈ R.map (·.l), x ∈ T.map (·.l) ∨ x = X ∨ ∀ y ∈ nextL F G n x, y ∈ R.map (·.l)
  nin : ∀ q, q < j → (R2.getD q default).l ∈ R.map (·.l)
  xin : X ∈ R.map (·.l)
  cnt : m0 ≤ m ∧ nq + m0 ≤ n0 + m
variable {lo4 g2 k2 j m0 n0 : Nat} {X : List Int} {R2 : List Hdr}
theorem JSt.step (h : JSt F G n lo4 g2 k2 j m0 n0 X R2 m R gq nq T wr) (k : Keeps wr w') : JSt F G n lo4 g2 k2 j m0 n0 X R2 m R gq nq T w' :=
  ⟨h.crn.keeps k, h.ne, h.cl, h.nin, h.xin, h.cnt⟩
theorem JSt.skip (h : JSt F G n lo4 g2 k2 j m0 n0 X R2 m R gq nq T wr) (hy : (R2.getD j default).l ∈ R.map (·.l)) : JSt F G n lo4 g2 k2 (j + 1) m0 n0 X R2 m R gq nq T wr :=
  ⟨h.crn, h.ne, h.cl, fun q hq => by
    by_cases e : q = j
    · subst e; exact hy
    · exact h.nin q (by omega), h.xin, h.cnt⟩
theorem JSt.add (h : JSt F G n lo4 g2 k2 j m0 n0 X R2 m R gq nq T wr) (hP : PSt F G l w bx n cs g m c R gq off nq cq T wr) {w6 w9 : World} (k : Keeps wr w6) {m' : Nat} {R' : List Hdr} (hm : m' = m + 1) (hc : R'.map (·.l) = insL (R2.getD j default).l (R.map (·.l)))
    (hg : w6.grownBy w9 (some gq)) {gq' : Nat} (hor : gq' = gq ∨ w6.heap.size ≤ gq') : JSt F G n lo4 g2 k2 (j + 1) m0 n0 X R2 m' R' gq' (nq + 1) (T ++ [R2.getD j default]) w9 := by
  obtain ⟨ct, hq⟩ := (hP.sub.keeps k).blk
  have hks := k.size
  refine ⟨(h.crn.keeps k).grown hg hq h.ne, ?_, fun x hx => ?_, fun q hq' => ?_, ?_, by have := h.cnt; omega⟩
  · rcases h.ne with e | e
    · exact .inl e
    · by_cases hk : k2 = 0
      · exact .inl hk
      · have := (h.crn.lt hk).2
        exact .inr (by omega)
  · rw [hc, mem_insL] at hx
    rcases hx with rfl | hx
    · exact .inl (by rw [List.map_append]; exact List.mem_append_right _ (by simp))
    · rcases h.cl x hx with e | e | e
      · exact .inl (by rw [List.map_append]; exact List.mem_append_left _ e)
      · exact .inr (.inl e)
      · exact .inr (.inr fun y hy => by rw [hc, mem_insL]; exact .inr (e y hy))
  · rw [hc, mem_insL]
    by_cases e : q = j
    · subst e; exact .inl rfl
    · exact .inr (h.nin q (by omega))
  · rw [hc, mem_insL]; exact .inr h.xin
end
def slLen : Value → Nat
  | .slice _ n _ => n
  | _ => 0
set_option maxRecDepth 100000 in
set_option maxHeartbeats 8000000 in
theorem reached_any (S A B C : Option Addr) (n cS cA cB cC : Nat) (s : Nat → Int) (rA rB : Nat → Option Addr × Nat × Nat) (F G : Nat → Nat → Nat) (l : List Int) (w : World) (hR : RulN w S n s A rA F B rB G) (hl : Crw n l) (hC : Ints w C n (fun i => l.getD i 0)) :
    Calls Try.prog 37 #[.agg #[.slice S n cS, .slice A n cA, .slice B n cB], .slice C n cC] w fun e w' => ∃ R g m c, e = .returned (.slice (some ⟨g, 0, none⟩) m c) ∧ R.map (·.l) = rchL F G n l ∧ (∀ x ∈ R.map (·.l), Rch F G n l x) ∧ Crn w' w.heap.size (some ⟨g, 0, none⟩) m R ∧ (m ≤ c ∧ c ≤ 9223372036854775807) ∧ Keeps w w' := by
  have hn1 := hR.n1
  have hn4 := hR.n4
  have HR := Lib.hid hR
  have HW := Lib.hid hl
  have HWL := Lib.hid hl.len
  obtain ⟨dC, oC, rfl, _⟩ := hC 0 (by omega)
  have HC : Hid (∀ i, i < n → w.cell? ⟨dC, oC + i, none⟩ = some (.int .i64 (l.getD i 0))) := Lib.hid (fun i hi => by
    obtain ⟨_, _, e, hc⟩ := hC i hi
    cases e
    exact hc)
  clear hR hl hC
  have HB0 : Hid (Blk (w.alloc (.cells #[.slice S n cS, .slice A n cA, .slice B n cB] 26)) w.heap.size 26 #[.slice S n cS, .slice A n cA, .slice B n cB]) := Lib.hid (Blk.new w _ _)
  have HK0 : Hid (Keeps w (w.alloc (.cells #[.slice S n cS, .slice A n cA, .slice B n cB] 26))) := Lib.hid (Keeps.alloc w _)
  go_enter Try.func37, Try.ntmps37
  go_upto_region 1 with fail
  generalize w.alloc (.cells #[.slice S n cS, .slice A n cA, .slice B n cB] 26) = w1 at *
  go_upto_region 2 with (first | (at_builtin; go_loud (refine wp_spread_int rfl _ _ rfl w1.heap.size (some ⟨w1.heap.size, 0, none⟩) 0 0 [] _ rfl (OwnInts.made _ _ (Nat.le_refl _)) dC oC n cC (fun i => l.getD i 0) rfl (fun i hi => cell_keeps (Keeps.alloc _ _) (cell_keeps HK0.out (HC.out i hi))) (by omega) (by omega) (by simp) ?_; intro g8 c8 w2 hO2 hg2; have hO2 : OwnInts w2 w1.heap.size (some ⟨g8, 0, none⟩) n c8 l := (by have h := hO2; rw [Nat.zero_add, List.nil_append] at h; exact (il_list l n HWL.out) ▸ h); have hK2 : Keeps w1 w2 := (Keeps.alloc w1 _).grown (OwnInts.made w1 w1.heap.size (Nat.le_refl _)) (Nat.le_refl _) hg2; have HB2 := Lib.hid (HB0.out.keeps hK2); have HK2 := Lib.hid (HK0.out.step hK2); have HO2 := Lib.hid hO2; rw [Nat.zero_add]; clear hO2 hg2 hK2)))
  have HS1 : Hid (w.heap.size ≤ w1.heap.size) := Lib.hid HK0.out.size
  have HBT := Lib.hid (HB2.out.keeps (Keeps.alloc w2 (.cells #[.slice (some ⟨g8, 0, none⟩) n c8] 23)))
  have HKT := Lib.hid (HK2.out.step (Keeps.alloc w2 (.cells #[.slice (some ⟨g8, 0, none⟩) n c8] 23)))
  have HOT : Hid (Crn (w2.alloc (.cells #[.slice (some ⟨g8, 0, none⟩) n c8] 23)) w.heap.size (some ⟨w2.heap.size, 0, none⟩) 1 [⟨g8, c8, c8, l⟩]) := Lib.hid (by
    have hs2 := HK2.out.size
    have hs1 := HS1.out
    refine ⟨rfl, .inr ⟨w2.heap.size, _, rfl, hs2, Blk.new w2 _ _, ?_⟩, fun x hx => ?_⟩
    · simp only [List.map_cons, List.map_nil]
      unfold Hdr.v
      rw [HWL.out]
      rfl
    · rw [List.mem_singleton] at hx
      subst hx
      have := (HO2.out.mono hs1).keeps (Keeps.alloc w2 (.cells #[.slice (some ⟨g8, 0, none⟩) n c8] 23))
      rw [← HWL.out] at this
      rw [HWL.out] at this ⊢
      exact this)
  have HGT : Hid (w2.heap.size < (w2.alloc (.cells #[.slice (some ⟨g8, 0, none⟩) n c8] 23)).heap.size) := Lib.hid (by simp)
  clear HB0 HK0 HB2 HK2 HO2
  generalize w2.alloc (.cells #[.slice (some ⟨g8, 0, none⟩) n c8] 23) = w3 at *
  generalize w2.heap.size = gt at *
  as_aux_lemma =>
    go_wp2_with (first | (at_builtin; go_loud (refine wp_spread_int rfl _ _ rfl w3.heap.size (some ⟨w3.heap.size, 0, none⟩) 0 0 [] _ rfl (OwnInts.made _ _ (Nat.le_refl _)) dC oC n cC (fun i => l.getD i 0) rfl (fun i hi => cell_keeps (Keeps.alloc _ _) (cell_keeps HKT.out (HC.out i hi))) (by omega) (by omega) (by simp) ?_; intro g9 c9 w2 hO2 hg2; have hO2 : OwnInts w2 w3.heap.size (some ⟨g9, 0, none⟩) n c9 l := (by have h := hO2; rw [Nat.zero_add, List.nil_append] at h; exact (il_list l n HWL.out) ▸ h); have hK2 : Keeps w3 w2 := (Keeps.alloc w3 _).grown (OwnInts.made w3 w3.heap.size (Nat.le_refl _)) (Nat.le_refl _) hg2; have HK4 := Lib.hid hK2; have HO2 := Lib.hid hO2; rw [Nat.zero_add]; clear hO2 hg2 hK2)))
    have HP : Hid (PSt F G l w w.heap.size n #[.slice S n cS, .slice A n cA, .slice B n cB] gt 1 1 [⟨g8, c8, c8, l⟩] w2.heap.size 0 1 1 [⟨g9, c9, c9, l⟩] (w2.alloc (.cells #[.slice (some ⟨g9, 0, none⟩) n c9] 23)) ∧ ∀ x ∈ [(⟨g8, c8, c8, l⟩ : Hdr)].map (·.l), x ∈ [(⟨g9, c9, c9, l⟩ : Hdr)].map (·.l) ∨ ∀ y ∈ nextL F G n x, y ∈ [(⟨g8, c8, c8, l⟩ : Hdr)].map (·.l)) := Lib.hid (by
      have hk := HK4.out.step (Keeps.alloc w2 (.cells #[.slice (some ⟨g9, 0, none⟩) n c9] 23))
      have hs4 := HK4.out.size
      have hst := HKT.out.size
      have hgt := HGT.out
      refine ⟨⟨HOT.out.keeps hk, by unfold SL; simp, Nat.le_refl _, by omega, by simp, fun x hx => ?_, ?_, fun t ht => ?_, fun t ht => ?_, by omega, Nat.le_refl _, HBT.out.keeps hk, HKT.out.step hk⟩, fun x hx => .inl hx⟩
      · simp only [List.map_cons, List.map_nil, List.mem_singleton] at hx
        subst hx
        exact .refl
      · have h := SubQ.new w2 w.heap.size ⟨g9, c9, c9, l⟩ (by omega)
        unfold Hdr.v at h
        rw [HWL.out] at h
        exact h
      · rw [List.mem_singleton] at ht
        subst ht
        have h := (HO2.out.mono hst).keeps (Keeps.alloc w2 (.cells #[.slice (some ⟨g9, 0, none⟩) n c9] 23))
        rw [← HWL.out] at h
        rw [HWL.out] at h ⊢
        exact h
      · rw [List.mem_singleton] at ht
        subst ht
        simp)
    clear HBT HKT HOT HGT HK4 HO2
    go_loopw [5, 6] (fun o t wr => ∃ (g m c : Nat) (R : List Hdr) (gq off nq cq : Nat) (T : List Hdr), o = .slice (some ⟨g, 0, none⟩) m c ∧ t = .slice (some ⟨gq, off, none⟩) nq cq ∧ Hid (PSt F G l w w.heap.size n #[.slice S n cS, .slice A n cA, .slice B n cB] g m c R gq off nq cq T wr ∧ ∀ x ∈ R.map (·.l), x ∈ T.map (·.l) ∨ ∀ y ∈ nextL F G n x, y ∈ R.map (·.l))) (fun o t _ => 2 * (1297 - slLen o) + slLen t)
    case atStart => exact ⟨_, 1, 1, _, _, 0, 1, 1, _, rfl, rfl, HP⟩
    case round =>
      clear HP
      obtain ⟨g, m, c, R, gq, off, nq, cq, T, rfl, rfl, HP⟩ := hrel
      have hm := HP.out.1.le HR.out.rul HW.out hn4
      cases T with
      | nil =>
        obtain rfl : nq = 0 := HP.out.1.sub.len.symm
        have HEQ : Hid (R.map (·.l) = rchL F G n l) := Lib.hid ((rchL_eq (F := F) (G := G) (n := n) (c := l) HP.out.1.sl (fun x => ⟨HP.out.1.rch x, fun h => by
          induction h with
          | refl => exact HP.out.1.mem
          | step _ h5 ih =>
            rcases HP.out.2 _ ih with e | e
            · simp at e
            · exact e _ h5⟩)).symm)
        go_wp2_with fail
        go_ret
        exact ⟨R, g, m, c, rfl, HEQ.out, fun x hx => HP.out.1.rch _ (List.mem_map_of_mem hx), HP.out.1.crn, ⟨HP.out.1.mc, HP.out.1.c63⟩, HP.out.1.keeps⟩
      | cons X T =>
        obtain ⟨p, rfl⟩ : ∃ p, nq = p + 1 := ⟨nq - 1, by have := HP.out.1.sub.len; simp at this; omega⟩
        have hcap := HP.out.1.sub.cap
        obtain ⟨d, rfl⟩ : ∃ d, cq = d + 1 := ⟨cq - 1, by omega⟩
        have hq0 : (0 : Int) < ((p + 1 : Nat) : Int) := by omega
        have HXI : Hid (X.l ∈ R.map (·.l)) := Lib.hid (HP.out.1.tin X (List.mem_cons_self ..))
        have HX : Hid (Crw n X.l) := Lib.hid (HP.out.1.crw HR.out.rul HW.out _ HXI.out)
        have HRX : Hid (Rch F G n l X.l) := Lib.hid (HP.out.1.rch _ HXI.out)
        have hcell := HP.out.1.sub.cell 0 (by omega)
        rw [Nat.add_zero, List.getD_cons_zero] at hcell
        unfold Hdr.v at hcell
        rw [HX.out.len] at hcell
        have HXO := Lib.hid (HP.out.1.row X (List.mem_cons_self ..)).ints
        rw [HX.out.len] at HXO
        have CN : Hid (∀ W, Keeps wr W → Calls Try.prog 51 #[.agg #[.slice S n cS, .slice A n cA, .slice B n cB], .slice (some ⟨X.g, 0, none⟩) n X.c] W fun e w' => ∃ R g m c, e = .returned (.slice (some ⟨g, 0, none⟩) m c) ∧ R.map (·.l) = nextL F G n X.l ∧ Crn w' W.heap.size (some ⟨g, 0, none⟩) m R ∧ (m ≤ c ∧ c ≤ 9223372036854775807) ∧ Keeps W w') := Lib.hid (fun W hK => snextOf_any S A B (some ⟨X.g, 0, none⟩) n cS cA cB X.c s rA rB F G X.l W (HR.out.keeps (HP.out.1.keeps.step hK)) HX.out (HXO.out.keeps hK))
        have b0 : wr.cell? ⟨w.heap.size, 0, none⟩ = some (.slice S n cS) := HP.out.1.box.cell 0
        have b1 : wr.cell? ⟨w.heap.size, 1, none⟩ = some (.slice A n cA) := HP.out.1.box.cell 1
        have b2 : wr.cell? ⟨w.heap.size, 2, none⟩ = some (.slice B n cB) := HP.out.1.box.cell 2
        have HLO : Hid (gq < wr.heap.size) := Lib.hid HP.out.1.sub.lt
        have hlo4 := HP.out.1.keeps.size
        obtain ⟨xg, hxg⟩ : ∃ x, x = X.g := ⟨_, rfl⟩
        obtain ⟨xc, hxc⟩ : ∃ x, x = X.c := ⟨_, rfl⟩
        rw [← hxg, ← hxc] at hcell CN
        clear hxg hxc HXO
        go_upto_region 4 with fail
        go_region_law (first | (refine step_go 51 #[.tmp 21, .tmp 24] #[26, 23] rfl rfl (fun _ _ => rfl) (by simp [Act.eval]) (CN.out _ (Keeps.drew1 _)) ?_; rintro e w4 ⟨R2, g2, k2, c2, rfl, hc2, hR2, _, hk2⟩; refine ⟨_, rfl, ?_⟩))
        all_goals
          simp only [Act.put, List.getElem_toArray, List.getElem_cons_succ, List.getElem_cons_zero, List.setIfInBounds_toArray, List.set_cons_succ, List.set_cons_zero]
          have HC2 := Lib.hid hc2
          have HR2 := Lib.hid hR2
          have hk2l := hR2.len
          have HY2 : Hid (∀ j, j < k2 → (R2.getD j default).l ∈ nextL F G n X.l) := Lib.hid (fun j hj => by rw [← HC2.out]; exact getD_map (by omega))
          have hk2b : k2 ≤ 1296 := by
            have h1 := crowds_le (L := nextL F G n X.l) hn4 (sl_canL _).nodup (fun x hx => (next_crw HR.out.rul HX.out hx).1)
            rw [← HC2.out, List.length_map] at h1
            omega
          have HP4 : Hid (PSt F G l w w.heap.size n #[.slice S n cS, .slice A n cA, .slice B n cB] g m c R gq off (p + 1) (d + 1) (X :: T) w4 ∧ ∀ x ∈ R.map (·.l), x ∈ (X :: T).map (·.l) ∨ ∀ y ∈ nextL F G n x, y ∈ R.map (·.l)) := Lib.hid ⟨HP.out.1.step ((Keeps.drew1 _).step hk2), HP.out.2⟩
          have HNE : Hid (k2 = 0 ∨ g2 ≠ gq) := Lib.hid (by
            by_cases hk : k2 = 0
            · exact .inl hk
            · have h1 := (hR2.lt hk).1
              have h2 := HLO.out
              have h3 : wr.drew.heap.size = wr.heap.size := rfl
              exact .inr (by omega))
          obtain ⟨mm, hmm⟩ : ∃ x, x = m := ⟨_, rfl⟩
          obtain ⟨nn, hnn⟩ : ∃ x, x = p := ⟨_, rfl⟩
          have HJ4 : Hid (JSt F G n wr.heap.size g2 k2 0 mm nn X.l R2 m R gq p T w4) := Lib.hid ⟨HR2.out, HNE.out, fun x hx => by
            rcases HP4.out.2 x hx with e | e
            · rw [List.map_cons] at e
              rcases List.mem_cons.1 e with e | e
              · exact .inr (.inl e)
              · exact .inl e
            · exact .inr (.inr e), fun q hq => absurd hq (Nat.not_lt_zero _), HXI.out, by omega⟩
          have HMN := Lib.hid (And.intro hmm hnn)
          clear hc2 hR2 hk2 hk2l CN b0 b1 b2 HP hcell HNE HR2 HLO hmm hnn
          by_cases hd : d = 0
          case' pos =>
            subst hd
            obtain rfl : p = 0 := by have := HP4.out.1.sub.cap; omega
            have HP5 : Hid (PSt F G l w w.heap.size n #[.slice S n cS, .slice A n cA, .slice B n cB] g m c R gq off 0 0 T w4) := Lib.hid HP4.out.1.pop0
            clear HP4 hcap hq0
            simp only [Nat.zero_add, Int.cast_ofNat_Int, Int.zero_add]
            go_wp2_with fail
          case' neg =>
            have HP5 : Hid (PSt F G l w w.heap.size n #[.slice S n cS, .slice A n cA, .slice B n cB] g m c R gq (off + 1) p d T w4) := Lib.hid HP4.out.1.pop
            clear HP4 hq0
            go_wp2_with fail
          all_goals
            as_aux_lemma =>
              generalize hlo : wr.heap.size = lo4 at *
              go_loopw [8, 5, 6] (fun i o t wi => ∃ (j g m c : Nat) (R : List Hdr) (gq off nq cq : Nat) (T : List Hdr), j ≤ k2 ∧ i = .int .i64 j ∧ o = .slice (some ⟨g, 0, none⟩) m c ∧ t = .slice (some ⟨gq, off, none⟩) nq cq ∧ Hid (PSt F G l w w.heap.size n #[.slice S n cS, .slice A n cA, .slice B n cB] g m c R gq off nq cq T wi ∧ JSt F G n lo4 g2 k2 j mm nn X.l R2 m R gq nq T wi)) (fun i _ _ _ => k2 - (intOf i).toNat)
              case atStart => exact ⟨0, g, m, c, R, gq, _, _, _, T, by omega, rfl, rfl, rfl, Lib.hid ⟨HP5.out, HJ4.out⟩⟩
              case round =>
                clear HP5 HJ4 hm
                obtain ⟨j, g, m, c, R, gq, off, nq, cq, T, hj, rfl, rfl, rfl, HP⟩ := hrel
                have hm := HP.out.1.le HR.out.rul HW.out hn4
                by_cases hltj : j < k2
                · have hji : (j : Int) < k2 := by omega
                  have HYN := Lib.hid (HY2.out j hltj)
                  have HYC := Lib.hid (next_crw HR.out.rul HX.out HYN.out).1
                  have hcy := HP.out.2.crn.cell j hltj
                  have HYO := Lib.hid ((HP.out.2.crn.rowD j hltj).mono hlo4)
                  have HYL := Lib.hid HYC.out.len
                  have HYR : Hid (Rch F G n l (R2.getD j default).l) := Lib.hid (HRX.out.step HYN.out)
                  unfold Hdr.v at hcy
                  rw [HYL.out] at hcy
                  obtain ⟨y, hy⟩ : ∃ y, y = R2.getD j default := ⟨_, rfl⟩
                  rw [← hy] at hcy HYO HYL HYC HYN HYR
                  have HYE := Lib.hid hy
                  clear hy
                  have CI := Lib.hid (insert_any g m c w.heap.size n R y wr HP.out.1.crn HYO.out (by omega) HYL.out (HP.out.1.lens HR.out.rul HW.out) (by omega) HP.out.1.mc HP.out.1.c63 HP.out.1.keeps.size)
                  unfold Hdr.v at CI
                  rw [HYL.out] at CI
                  go_wp2_with fail
                  refine CI.out.mono ?_
                  rintro e w6 ⟨g', m', c', R', rfl, hc', hsub', hC', hmc', hk6, hor6⟩
                  have HML : Hid ((m' = m ∧ y.l ∈ R.map (·.l)) ∨ m' = m + 1) := Lib.hid (by
                    have h1 := congrArg List.length hc'
                    have h2 := insL_len y.l (R.map (·.l))
                    by_cases hin : y.l ∈ R.map (·.l)
                    · rw [insL_mem HP.out.1.sl hin] at h1
                      rw [List.length_map, hC'.len, List.length_map, HP.out.1.crn.len] at h1
                      exact .inl ⟨h1, hin⟩
                    · rw [insL_new hin] at h1
                      rw [List.length_map, hC'.len, List.length_map, HP.out.1.crn.len] at h1
                      exact .inr h1)
                  rcases HML.out with ⟨rfl, hin⟩ | rfl
                  · have HP7 : Hid (PSt F G l w w.heap.size n #[.slice S n cS, .slice A n cA, .slice B n cB] g m' c R gq off nq cq T w6 ∧ JSt F G n lo4 g2 k2 (j + 1) mm nn X.l R2 m' R gq nq T w6) := Lib.hid ⟨HP.out.1.step hk6, (HP.out.2.step hk6).skip (by rw [← HYE.out]; exact hin)⟩
                    clear HML CI hc' hsub' hC' hmc' hk6 hor6 hin HP hcy
                    go_wp2_with fail
                    go_roundw
                    case rel => exact ⟨j + 1, g, m', c, R, gq, off, nq, cq, T, by omega, by go_num, rfl, rfl, HP7⟩
                    case measure => simp [intOf]; omega
                  · have hmi : (m : Int) < ((m + 1 : Nat) : Int) := by omega
                    have hge : wr.heap.size ≤ g' := by
                      rcases hor6 with h | h
                      · exact h
                      · omega
                    have c6 := cell_keeps hk6 hcy
                    have HQ6 := Lib.hid (HP.out.1.sub.keeps hk6)
                    have hs6 : w.heap.size ≤ w6.heap.size := (HP.out.1.keeps.step hk6).size
                    have HC' := Lib.hid hC'
                    have HCC := Lib.hid (And.intro hc' hmc')
                    have HK6 := Lib.hid hk6
                    have hnm := HP.out.1.nm
                    clear HML CI hc' hsub' hC' hmc' hk6 hor6 hcy
                    go_wp2_with (first | (at_builtin; refine wp_app_subq rfl _ _ rfl w.heap.size gq off nq cq T w6 rfl HQ6.out y _ (by unfold Hdr.v; rw [HYL.out]) _ rfl rfl (by omega) hs6 ?_; intro gq9 off9 cq9 w9 hS9 hg9 hor9))
                    have HP9 : Hid (PSt F G l w w.heap.size n #[.slice S n cS, .slice A n cA, .slice B n cB] g' (m + 1) c' R' gq9 off9 (nq + 1) cq9 (T ++ [y]) w9 ∧ JSt F G n lo4 g2 k2 (j + 1) mm nn X.l R2 (m + 1) R' gq9 (nq + 1) (T ++ [y]) w9) := Lib.hid ⟨HP.out.1.add HK6.out HC'.out HCC.out.1 (by omega) HCC.out.2 hge HYO.out HYR.out hS9 hg9 hor9, by
                      have h := HP.out.2.add HP.out.1 HK6.out rfl (by rw [← HYE.out]; exact HCC.out.1) hg9 hor9
                      rw [← HYE.out] at h
                      exact h⟩
                    clear HP HC' HCC HK6 hS9 hg9 hor9 c6 HQ6 hge hmi
                    go_wp2_with fail
                    go_roundw
                    case rel => exact ⟨j + 1, g', m + 1, c', R', gq9, off9, nq + 1, cq9, T ++ [y], by omega, by go_num, rfl, rfl, HP9⟩
                    case measure => simp [intOf]; omega
                · obtain rfl : j = k2 := by omega
                  have HPF : Hid (∀ x ∈ R.map (·.l), x ∈ T.map (·.l) ∨ ∀ y ∈ nextL F G n x, y ∈ R.map (·.l)) := Lib.hid (fun x hx => by
                    rcases HP.out.2.cl x hx with e | e | e
                    · exact .inl e
                    · subst e
                      refine .inr fun y hy => ?_
                      rw [← HC2.out] at hy
                      obtain ⟨q, hq, rfl⟩ := mem_mapD hy
                      rw [HP.out.2.crn.len] at hq
                      exact HP.out.2.nin q hq
                    · exact .inr e)
                  have hcnt := HP.out.2.cnt
                  have hmn := HMN.out
                  go_wp2_with fail
                  go_roundw
                  case rel => exact ⟨g, m, c, R, gq, off, nq, cq, T, rfl, rfl, Lib.hid ⟨HP.out.1, HPF.out⟩⟩
                  case measure => simp [slLen]; omega
end Go.Proofs.Ytaejakejnllimaa
