/-
  impl.reachedOf: a crowd and all that may come of it. Conditions: valid rules and a crowd.
-/
import Derived.Test.YtaejakejnllimaaNext
import Derived.Test.YtaejakejnllimaaIns
import Derived.Test.YtaejakejnllimaaVoice
import Derived.Test.YtaejakejnllimaaStep
namespace Go.Proofs.Ytaejakejnllimaa
set_option maxRecDepth 100000
set_option linter.unusedVariables false
open Go.RowKit

def hdrR (R : List Hdr) (i : Nat) : Option Addr × Nat × Nat := (some ⟨(R.getD i default).g, 0, none⟩, (R.getD i default).l.length, (R.getD i default).c)
def numR (R : List Hdr) (i j : Nat) : Int := (R.getD i default).l.getD j 0
theorem Crn.rows {w : World} {lo g m : Nat} {R : List Hdr} (h : Crn w lo (some ⟨g, 0, none⟩) m R) : Rows w (some ⟨g, 0, none⟩) m (hdrR R) (numR R) := fun i hi =>
  ⟨⟨g, 0, rfl, by rw [Nat.zero_add]; exact h.cell i hi⟩, (h.rowD i hi).ints⟩
theorem getD_mem {R : List Hdr} {i : Nat} (h : i < R.length) : R.getD i default ∈ R := by
  rw [List.getD_eq_getElem?_getD, List.getElem?_eq_getElem h]
  exact List.getElem_mem h
theorem getD_app {R : List Hdr} {i : Nat} (h : i < R.length) (E : List Hdr) : (R ++ E).getD i default = R.getD i default := by
  rw [List.getD_eq_getElem?_getD, List.getD_eq_getElem?_getD, List.getElem?_append_left h]
theorem getD_map {R : List Hdr} {i : Nat} (h : i < R.length) : (R.getD i default).l ∈ R.map (·.l) := List.mem_map_of_mem (getD_mem h)
theorem mem_getD' {R : List Hdr} {z : Hdr} (h : z ∈ R) : ∃ i, i < R.length ∧ z = R.getD i default := by
  obtain ⟨i, hi, e⟩ := List.getElem_of_mem h
  exact ⟨i, hi, by rw [List.getD_eq_getElem?_getD, List.getElem?_eq_getElem hi]; exact e.symm⟩
theorem mem_mapD {R : List Hdr} {y : List Int} (h : y ∈ R.map (·.l)) : ∃ i, i < R.length ∧ y = (R.getD i default).l := by
  obtain ⟨z, hz, rfl⟩ := List.mem_map.1 h
  obtain ⟨i, hi, e⟩ := mem_getD' hz
  exact ⟨i, hi, by rw [← e]⟩
theorem any_lists (R : List Hdr) (y : List Int) : anyB (fun i => decide ((R.getD i default).l = y)) R.length = decide (y ∈ R.map (·.l)) := by
  by_cases h : y ∈ R.map (·.l)
  · rw [decide_eq_true h, anyB_iff]
    obtain ⟨i, hi, e⟩ := mem_mapD h
    exact ⟨i, hi, decide_eq_true e.symm⟩
  · rw [decide_eq_false h, anyB_false]
    intro i hi
    refine decide_eq_false (fun e => h ?_)
    rw [← e]
    exact getD_map hi
/-- Two blocks of lists with different first heads are different. -/
theorem blk_apart {w : World} {g g2 : Nat} {cur cur2 : Array Value} {R R2 : List Hdr} {m k : Nat} (h : Blk w g 23 cur) (h2 : Blk w g2 23 cur2) (e : cur.toList.take m = R.map Hdr.v) (e2 : cur2.toList.take k = R2.map Hdr.v) (hm : 1 ≤ R.length) (hk : 1 ≤ R2.length) (hne : (R.getD 0 default).g ≠ (R2.getD 0 default).g) : g ≠ g2 := by
  intro hg
  subst hg
  unfold Blk at h h2
  rw [h] at h2
  cases h2
  match R, R2, hm, hk with
  | x :: R, y :: R2, _, _ =>
    have h3 : (cur.toList.take m).head? = (cur.toList.take k).head? := by
      cases hc : cur.toList with
      | nil => simp
      | cons z t =>
        rw [hc] at e e2
        cases m with
        | zero => simp at e
        | succ m => cases k with
          | zero => simp at e2
          | succ k => rfl
    rw [e, e2] at h3
    simp only [List.map_cons, List.head?_cons, Option.some.injEq] at h3
    unfold Hdr.v at h3
    injection h3 with h3
    injection h3 with h3
    injection h3 with h3
    exact hne h3
/-- What is reached so far; of those ahead of i all nexts are there. -/
structure QSt (F G : Nat → Nat → Nat) (l : List Int) (w : World) (bx n : Nat) (cs : Array Value) (g m c i : Nat) (R : List Hdr) (wr : World) : Prop where
  crd : Crd wr w.heap.size (some ⟨g, 0, none⟩) m c R
  apart : (R.map (·.g)).Nodup
  nod : (R.map (·.l)).Nodup
  mem : l ∈ R.map (·.l)
  rch : ∀ x ∈ R.map (·.l), Rch F G n l x
  done : ∀ p, p < i → ∀ y ∈ nextL F G n ((R.getD p default).l), y ∈ R.map (·.l)
  box : Blk wr bx 26 cs
  keeps : Keeps w wr
section
variable {F G : Nat → Nat → Nat} {l : List Int} {w wr w' : World} {bx n g m c i : Nat} {cs : Array Value} {R : List Hdr}
theorem QSt.step (h : QSt F G l w bx n cs g m c i R wr) (k : Keeps wr w') : QSt F G l w bx n cs g m c i R w' :=
  ⟨h.crd.keeps k, h.apart, h.nod, h.mem, h.rch, h.done, h.box.keeps k, h.keeps.step k⟩
theorem QSt.crw (h : QSt F G l w bx n cs g m c i R wr) (hR : Rul n F G) (hl : Crw n l) : ∀ x ∈ R.map (·.l), Crw n x := fun x hx => ((h.rch x hx).crw hR hl).1
theorem QSt.le (h : QSt F G l w bx n cs g m c i R wr) (hR : Rul n F G) (hl : Crw n l) (hn : n ≤ 4) : m ≤ 1296 := by
  have h1 := crowds_le hn h.nod (h.crw hR hl)
  rw [List.length_map, h.crd.len] at h1
  exact h1
/-- The nexts R2 of the i-th one X, of which those ahead of j are there. -/
structure ISt (lo4 g2 k2 j i m : Nat) (X : List Int) (R2 : List Hdr) (g : Nat) (R : List Hdr) (wr : World) : Prop where
  crn : Crn wr lo4 (some ⟨g2, 0, none⟩) k2 R2
  hd : (R.getD 0 default).g < lo4
  at' : (R.getD i default).l = X
  lt : i < m
  nin : ∀ q, q < j → (R2.getD q default).l ∈ R.map (·.l)
  blk : ∀ z ∈ R, z.g < lo4 ∨ ∃ q, q < j ∧ z.g = (R2.getD q default).g
variable {lo4 g2 k2 j : Nat} {X : List Int} {R2 : List Hdr}
theorem ISt.step (h : ISt lo4 g2 k2 j i m X R2 g R wr) (k : Keeps wr w') : ISt lo4 g2 k2 j i m X R2 g R w' :=
  ⟨h.crn.keeps k, h.hd, h.at', h.lt, h.nin, h.blk⟩
theorem ISt.skip (h : ISt lo4 g2 k2 j i m X R2 g R wr) (hy : (R2.getD j default).l ∈ R.map (·.l)) : ISt lo4 g2 k2 (j + 1) i m X R2 g R wr :=
  ⟨h.crn, h.hd, h.at', h.lt, fun q hq => by
    by_cases e : q = j
    · subst e; exact hy
    · exact h.nin q (by omega), fun z hz => by
    rcases h.blk z hz with e | ⟨q, h1, h2⟩
    · exact .inl e
    · exact .inr ⟨q, by omega, h2⟩⟩
/-- One more is appended. -/
theorem step_both (hQ : QSt F G l w bx n cs g m c i R wr) (hI : ISt lo4 g2 k2 j i m X R2 g R wr) (hj : j < k2) (hn2 : (R2.map (·.g)).Nodup) (hlo : w.heap.size ≤ lo4) (hnew : (R2.getD j default).l ∉ R.map (·.l)) (hrch : Rch F G n l (R2.getD j default).l)
    {g' c' : Nat} {w' : World} (hC : Crd w' w.heap.size (some ⟨g', 0, none⟩) (m + 1) c' (R ++ [R2.getD j default])) (hg : wr.grownBy w' (some g)) :
    QSt F G l w bx n cs g' (m + 1) c' i (R ++ [R2.getD j default]) w' ∧ ISt lo4 g2 k2 (j + 1) i (m + 1) X R2 g' (R ++ [R2.getD j default]) w' := by
  have hlen := hQ.crd.len
  have hlen2 := hI.crn.len
  have hm1 : 1 ≤ m := by have := hI.lt; omega
  have h0 : (R2.getD 0 default).g ≥ lo4 := (own_block (hI.crn.rowD 0 (by omega)) (R2.getD 0 default).g rfl).1
  have hne : g ≠ g2 := by
    obtain ⟨cur, h1, _, _, _, _, h2⟩ := hQ.crd.top_blk
    rcases hI.crn.top with h | ⟨g3, cur2, e, _, h3, h4⟩
    · omega
    · cases e
      exact blk_apart h1 h3 h2 h4 (by omega) (by omega) (by have := hI.hd; omega)
  have hkr : ∀ z : Hdr, OwnInts wr lo4 (some ⟨z.g, 0, none⟩) z.l.length z.d z.l → OwnInts w' lo4 (some ⟨z.g, 0, none⟩) z.l.length z.d z.l := fun z hz => own_kept hz hg (fun b hb e => own_type hz hQ.crd.top (by decide) b hb (by simpa using e))
  refine ⟨⟨hC, ?_, ?_, ?_, ?_, ?_, ?_, ?_⟩, ⟨⟨hlen2, ?_, fun z hz => hkr z (hI.crn.row z hz)⟩, ?_, ?_, by have := hI.lt; omega, ?_, ?_⟩⟩
  · rw [List.map_append, List.nodup_append]
    refine ⟨hQ.apart, by simp, fun x hx y hy => ?_⟩
    simp only [List.map_cons, List.map_nil, List.mem_singleton] at hy
    subst hy
    obtain ⟨z, hz, rfl⟩ := List.mem_map.1 hx
    have hge := (own_block (hI.crn.rowD j hj) (R2.getD j default).g rfl).1
    rcases hI.blk z hz with e | ⟨q, h1, h2⟩
    · omega
    · rw [h2]
      intro e
      have h5 : (R2.map (·.g))[q]? = (R2.map (·.g))[j]? := by
        rw [List.getElem?_map, List.getElem?_map, List.getElem?_eq_getElem (by omega), List.getElem?_eq_getElem (by omega)]
        rw [List.getD_eq_getElem?_getD, List.getD_eq_getElem?_getD, List.getElem?_eq_getElem (by omega), List.getElem?_eq_getElem (by omega)] at e
        simpa using e
      have := (List.getElem?_inj (by rw [List.length_map]; omega) hn2).1 h5
      omega
  · rw [List.map_append, List.nodup_append]
    refine ⟨hQ.nod, by simp, fun x hx y hy => ?_⟩
    simp only [List.map_cons, List.map_nil, List.mem_singleton] at hy
    subst hy
    intro e
    subst e
    exact hnew hx
  · rw [List.map_append]; exact List.mem_append_left _ hQ.mem
  · intro x hx
    rw [List.map_append] at hx
    rcases List.mem_append.1 hx with h | h
    · exact hQ.rch x h
    · simp only [List.map_cons, List.map_nil, List.mem_singleton] at h
      subst h
      exact hrch
  · intro p hp y hy
    have := hI.lt
    rw [getD_app (by omega)] at hy
    rw [List.map_append]
    exact List.mem_append_left _ (hQ.done p hp y hy)
  · exact hQ.box.grown hg (own_other' hQ.crd.top hQ.box (by decide))
  · exact hQ.keeps.grown hQ.crd.top (Nat.le_refl _) hg
  · rcases hI.crn.top with h | ⟨g3, cur2, e, h1, h3, h4⟩
    · exact .inl h
    · cases e
      exact .inr ⟨g2, cur2, rfl, h1, h3.grown hg (by simp; omega), h4⟩
  · rw [getD_app (by omega)]; exact hI.hd
  · have := hI.lt
    rw [getD_app (by omega)]; exact hI.at'
  · intro q hq
    rw [List.map_append]
    by_cases e : q = j
    · subst e; exact List.mem_append_right _ (by simp)
    · exact List.mem_append_left _ (hI.nin q (by omega))
  · intro z hz
    rcases List.mem_append.1 hz with h | h
    · rcases hI.blk z h with e | ⟨q, h1, h2⟩
      · exact .inl e
      · exact .inr ⟨q, by omega, h2⟩
    · rw [List.mem_singleton] at h
      subst h
      exact .inr ⟨j, by omega, rfl⟩
end
theorem rch1_any (b : Nat) (A B : Option Addr) (c d : Nat) (x y : List Int) (w : World) (hx1 : x.length ≤ 1000) (hy1 : y.length ≤ 1000) (hx : Ints w A x.length (fun i => x.getD i 0)) (hy : Ints w B y.length (fun i => y.getD i 0)) (hc : w.cell? ⟨b, 0, none⟩ = some (.slice B y.length d)) :
    Calls Try.prog 76 #[.slice A x.length c, .pointer (some ⟨b, 0, none⟩)] w fun e w' => e = .returned (.bool (decide (x = y))) ∧ Keeps w w' := by
  have CE := Lib.hid (slEqualQ_any A B c d x y w (by omega) (by omega) hx hy)
  have HQ : Hid (∀ q, Keeps w (w.drewN q)) := Lib.hid (fun q => Keeps.drewN w q)
  clear hx hy
  generalize decide (x = y) = v at *
  go_enter Try.func76, Try.ntmps76
  go_wp2_with fail
  refine CE.out.mono ?_
  rintro e w1 ⟨rfl, q, rfl⟩
  go_wp2_with fail
  go_ret
  exact ⟨rfl, HQ.out q⟩
set_option maxRecDepth 100000 in
set_option maxHeartbeats 8000000 in
theorem reachedOf_any (S A B C : Option Addr) (n cS cA cB cC : Nat) (s : Nat → Int) (rA rB : Nat → Option Addr × Nat × Nat) (F G : Nat → Nat → Nat) (l : List Int) (w : World) (hR : RulN w S n s A rA F B rB G) (hl : Crw n l) (hC : Ints w C n (fun i => l.getD i 0)) :
    Calls Try.prog 52 #[.agg #[.slice S n cS, .slice A n cA, .slice B n cB], .slice C n cC] w fun e w' => ∃ R g k, e = .returned (.slice (some ⟨g, 0, none⟩) k k) ∧ R.map (·.l) = rchL F G n l ∧ (∀ x ∈ R.map (·.l), Rch F G n l x) ∧ (R.map (·.g)).Nodup ∧ Crn w' w.heap.size (some ⟨g, 0, none⟩) k R ∧ Keeps w w' := by
  have hmf : ∀ (fn : Fn) (first cap : Array Value) (w : World), (Instr.makeFunc fn first cap).run Try.prog w = .ok (.func fn first cap) w := fun _ _ _ _ => rfl
  have hn1 := hR.n1
  have hn4 := hR.n4
  have HR := Lib.hid hR
  have HW := Lib.hid hl
  have HWL := Lib.hid hl.len
  obtain ⟨dC, oC, rfl, _⟩ := hC 0 (by omega)
  have HC : Hid (∀ i, i < n → w.cell? ⟨dC, oC + i, none⟩ = some (.int .i64 (l.getD i 0))) := Lib.hid (fun i hi => by
    obtain ⟨_, _, e, hc⟩ := hC i hi
    cases e
    exact hc)
  clear hR hl hC
  have HB0 : Hid (Blk (w.alloc (.cells #[.slice S n cS, .slice A n cA, .slice B n cB] 26)) w.heap.size 26 #[.slice S n cS, .slice A n cA, .slice B n cB]) := Lib.hid (Blk.new w _ _)
  have HK0 : Hid (Keeps w (w.alloc (.cells #[.slice S n cS, .slice A n cA, .slice B n cB] 26))) := Lib.hid (Keeps.alloc w _)
  go_enter Try.func52, Try.ntmps52
  go_wp2_with fail
  generalize w.alloc (.cells #[.slice S n cS, .slice A n cA, .slice B n cB] 26) = w1 at *
  refine (slClone_any dC oC n cC (fun i => l.getD i 0) w1 hn1 (by omega) (fun i hi => cell_keeps HK0.out (HC.out i hi))).mono ?_
  rintro e w2 ⟨g8, c8, rfl, hO2, hk2⟩
  have HO2 : Hid (OwnInts w2 w1.heap.size (some ⟨g8, 0, none⟩) n c8 l) := Lib.hid (by rw [il_list l n HWL.out] at hO2; exact hO2)
  have HK2 := Lib.hid (HK0.out.step hk2)
  have HB2 := Lib.hid (HB0.out.keeps hk2)
  have hcl := own_clip hO2
  have hcl1 := hcl.1
  clear hO2 hk2 hcl HB0
  go_wp2_with fail
  refine (slClip_any g8 n c8 w2 hcl1).mono ?_
  rintro e w3 ⟨rfl, rfl⟩
  have HQ : Hid (QSt F G l w w.heap.size n #[.slice S n cS, .slice A n cA, .slice B n cB] w2.heap.size 1 1 0 [⟨g8, n, c8, l⟩] (w2.alloc (.cells #[.slice (some ⟨g8, 0, none⟩) n n] 23))) := Lib.hid (by
    have hs1 := HK0.out.size
    have hs2 := HK2.out.size
    refine ⟨⟨⟨rfl, .inr ⟨w2.heap.size, 1, #[.slice (some ⟨g8, 0, none⟩) n n], rfl, hs2, Blk.new w2 _ _, Nat.le_refl _, by unfold maxLen; omega, rfl, ?_⟩⟩, fun x hx => ?_⟩, by simp, by simp, by simp, fun x hx => ?_, fun p hp => absurd hp (Nat.not_lt_zero _), HB2.out.keeps (Keeps.alloc _ _), HK2.out.step (Keeps.alloc _ _)⟩
    · simp only [List.map_cons, List.map_nil]
      unfold Hdr.v
      rw [HWL.out]
      rfl
    · rw [List.mem_singleton] at hx
      subst hx
      have := (HO2.out.mono hs1).keeps (Keeps.alloc w2 (.cells #[.slice (some ⟨g8, 0, none⟩) n n] 23))
      rw [← HWL.out] at this
      rw [HWL.out] at this ⊢
      exact this
    · simp only [List.map_cons, List.map_nil, List.mem_singleton] at hx
      subst hx
      exact .refl)
  clear HO2 HK2 HB2 HK0 hcl1
  go_wp2_with fail
  go_loopw [6, 5] (fun i v wr => ∃ (j g m c : Nat) (R : List Hdr), j ≤ m ∧ i = .int .i64 j ∧ v = .slice (some ⟨g, 0, none⟩) m c ∧ Hid (QSt F G l w w.heap.size n #[.slice S n cS, .slice A n cA, .slice B n cB] g m c j R wr)) (fun i _ _ => 1297 - (intOf i).toNat)
  case atStart => exact ⟨0, w2.heap.size, 1, 1, _, by omega, rfl, rfl, HQ⟩
  case round =>
    clear HQ
    obtain ⟨i, g, m, c, R, hi, rfl, rfl, HQ⟩ := hrel
    have hm := HQ.out.le HR.out.rul HW.out hn4
    by_cases hlt : i < m
    · have hii : (i : Int) < m := by omega
      have HX : Hid (Crw n ((R.getD i default).l)) := Lib.hid (HQ.out.crw HR.out.rul HW.out _ (getD_map (by rw [HQ.out.crd.len]; exact hlt)))
      have HRX : Hid (Rch F G n l ((R.getD i default).l)) := Lib.hid (HQ.out.rch _ (getD_map (by rw [HQ.out.crd.len]; exact hlt)))
      have hcell := HQ.out.crd.cellD i hlt
      have HXI := Lib.hid (HQ.out.crd.rowD i hlt).ints
      have HX0 := Lib.hid (HQ.out.crd.rowD 0 (by omega))
      unfold Hdr.v at hcell
      rw [HX.out.len] at hcell HXI
      have HAT : Hid ((R.getD i default).l = (R.getD i default).l) := Lib.hid rfl
      obtain ⟨xg, hxg⟩ : ∃ x, x = (R.getD i default).g := ⟨_, rfl⟩
      obtain ⟨xc, hxc⟩ : ∃ x, x = (R.getD i default).c := ⟨_, rfl⟩
      obtain ⟨X, hX⟩ : ∃ x, x = (R.getD i default).l := ⟨_, rfl⟩
      rw [← hxg, ← hxc] at hcell
      rw [← hxg] at HXI
      rw [← hX] at HX HRX HXI
      have HXE := Lib.hid hX
      clear hxg hxc hX HAT
      have CN : Hid (∀ W, Keeps wr W → Calls Try.prog 40 #[.agg #[.slice S n cS, .slice A n cA, .slice B n cB], .slice (some ⟨xg, 0, none⟩) n xc] W fun e w' => ∃ R g k, e = .returned (.slice (some ⟨g, 0, none⟩) k k) ∧ R.map (·.l) = nextL F G n X ∧ (R.map (·.g)).Nodup ∧ Crn w' W.heap.size (some ⟨g, 0, none⟩) k R ∧ Keeps W w') := Lib.hid (fun W hK => nextOf_any S A B (some ⟨xg, 0, none⟩) n cS cA cB xc s rA rB F G X W (HR.out.keeps (HQ.out.keeps.step hK)) HX.out (HXI.out.keeps hK))
      have b0 : wr.cell? ⟨w.heap.size, 0, none⟩ = some (.slice S n cS) := HQ.out.box.cell 0
      have b1 : wr.cell? ⟨w.heap.size, 1, none⟩ = some (.slice A n cA) := HQ.out.box.cell 1
      have b2 : wr.cell? ⟨w.heap.size, 2, none⟩ = some (.slice B n cB) := HQ.out.box.cell 2
      go_wp2_with fail
      go_region_law (first | (refine step_go 40 #[.tmp 19, .tmp 23] #[26, 23] rfl rfl (fun _ _ => rfl) (by simp [Act.eval]) (CN.out _ (Keeps.drew1 _)) ?_; rintro e w4 ⟨R2, g2, k2, rfl, hc2, hn2, hR2, hk2⟩; refine ⟨_, rfl, ?_⟩))
      all_goals
        have HC2 := Lib.hid hc2
        have HN2 := Lib.hid hn2
        have hk2l := hR2.len
        have HY2 : Hid (∀ j, j < k2 → (R2.getD j default).l ∈ nextL F G n X) := Lib.hid (fun j hj => by rw [← HC2.out]; exact getD_map (by omega))
        have hk2b : k2 ≤ 1296 := by
          have h1 := crowds_le (L := nextL F G n X) hn4 (sl_canL _).nodup (fun x hx => (next_crw HR.out.rul HX.out hx).1)
          rw [← HC2.out, List.length_map] at h1
          omega
        have HQ4 : Hid (QSt F G l w w.heap.size n #[.slice S n cS, .slice A n cA, .slice B n cB] g m c i R w4 ∧ ISt wr.heap.size g2 k2 0 i m X R2 g R w4) := Lib.hid ⟨HQ.out.step ((Keeps.drew1 _).step hk2), hR2, (own_block HX0.out (R.getD 0 default).g rfl).2, HXE.out.symm, hlt, fun q hq => absurd hq (Nat.not_lt_zero _), fun z hz => .inl (own_block (HQ.out.crd.row z hz) z.g rfl).2⟩
        have hlo4 := HQ.out.keeps.size
        obtain ⟨lo4, hlo4'⟩ : ∃ x, x = wr.heap.size := ⟨_, rfl⟩
        rw [← hlo4'] at HQ4 hlo4
        clear hc2 hn2 hR2 hk2 hk2l CN b0 b1 b2 HXI HX0 HXE hcell HQ hlo4'
        go_wp2_with fail
        simp only [Act.put, List.getElem_toArray, List.getElem_cons_succ, List.getElem_cons_zero, List.setIfInBounds_toArray, List.set_cons_succ, List.set_cons_zero]
        go_loopw [26, 5] (fun q v wr' => ∃ (j g m c : Nat) (R : List Hdr), j ≤ k2 ∧ q = .int .i64 j ∧ v = .slice (some ⟨g, 0, none⟩) m c ∧ Hid (QSt F G l w w.heap.size n #[.slice S n cS, .slice A n cA, .slice B n cB] g m c i R wr' ∧ ISt lo4 g2 k2 j i m X R2 g R wr')) (fun q _ _ => k2 - (intOf q).toNat)
        case atStart => exact ⟨0, g, m, c, R, by omega, rfl, rfl, HQ4⟩
        case round =>
          clear HQ4 hm hii hlt hi
          obtain ⟨j, g, m, c, R, hj, rfl, rfl, HQ⟩ := hrel
          have hm := HQ.out.1.le HR.out.rul HW.out hn4
          by_cases hltj : j < k2
          · have hji : (j : Int) < k2 := by omega
            have HYN := Lib.hid (HY2.out j hltj)
            have HYC := Lib.hid (next_crw HR.out.rul HX.out HYN.out).1
            have hcy := HQ.out.2.crn.cell j hltj
            have HYO := Lib.hid (HQ.out.2.crn.rowD j hltj)
            have HYL := Lib.hid HYC.out.len
            unfold Hdr.v at hcy
            rw [HYL.out] at hcy
            obtain ⟨y, hy⟩ : ∃ y, y = R2.getD j default := ⟨_, rfl⟩
            rw [← hy] at hcy HYO HYL HYC HYN
            have HYE := Lib.hid hy
            clear hy
            go_wp2_with fail
            have CC : Hid (Calls Try.prog 56 #[.slice (some ⟨g, 0, none⟩) m c, .func (.func 76) #[] #[.pointer (some ⟨wr.heap.size, 0, none⟩)]] (wr.alloc (.cells #[.slice (some ⟨y.g, 0, none⟩) n y.c] 23)) fun e w' => e = .returned (.bool (decide (y.l ∈ R.map (·.l)))) ∧ Keeps (wr.alloc (.cells #[.slice (some ⟨y.g, 0, none⟩) n y.c] 23)) w') := Lib.hid (by
              have h := rowcontains_any 76 #[.pointer (some ⟨wr.heap.size, 0, none⟩)] (some ⟨g, 0, none⟩) m c (hdrR R) (numR R) (fun i => decide ((R.getD i default).l = y.l)) (wr.alloc (.cells #[.slice (some ⟨y.g, 0, none⟩) n y.c] 23)) (by omega) ((HQ.out.1.crd.crn.keeps (Keeps.alloc _ _)).rows) (fun _ _ => rfl) (fun k w' hk hK => by
                have hlk := (HQ.out.1.crw HR.out.rul HW.out _ (getD_map (by rw [HQ.out.1.crd.len]; exact hk))).len
                exact rch1_any wr.heap.size _ (some ⟨y.g, 0, none⟩) _ y.c _ y.l w' (by omega) (by rw [HYL.out]; omega) ((HQ.out.1.crd.rowD k hk).keeps ((Keeps.alloc _ _).step hK)).ints (HYO.out.keeps ((Keeps.alloc _ _).step hK)).ints (cell_keeps hK (by rw [HYL.out, (Blk.new wr #[.slice (some ⟨y.g, 0, none⟩) n y.c] 23).cell 0]; rfl)))
              have e := any_lists R y.l
              rw [HQ.out.1.crd.len] at e
              rw [e] at h
              exact h)
            have HQ5 := Lib.hid (And.intro (HQ.out.1.step (Keeps.alloc wr (.cells #[.slice (some ⟨y.g, 0, none⟩) n y.c] 23))) (HQ.out.2.step (Keeps.alloc wr (.cells #[.slice (some ⟨y.g, 0, none⟩) n y.c] 23))))
            have HC5 : Hid ((wr.alloc (.cells #[.slice (some ⟨y.g, 0, none⟩) n y.c] 23)).cell? ⟨wr.heap.size, 0, none⟩ = some (.slice (some ⟨y.g, 0, none⟩) n y.c)) := Lib.hid (by rw [(Blk.new wr #[.slice (some ⟨y.g, 0, none⟩) n y.c] 23).cell 0]; rfl)
            clear hcy HQ HYO
            refine CC.out.mono ?_
            rintro e w6 ⟨rfl, hk6⟩
            have HQ6 := Lib.hid (And.intro (HQ5.out.1.step hk6) (HQ5.out.2.step hk6))
            have c6 := cell_keeps hk6 HC5.out
            clear CC HQ5 HC5 hk6
            generalize wr.heap.size = bq at *
            by_cases hin : y.l ∈ R.map (·.l)
            · rw [decide_eq_true hin]
              have HQ7 : Hid (QSt F G l w w.heap.size n #[.slice S n cS, .slice A n cA, .slice B n cB] g m c i R w6 ∧ ISt lo4 g2 k2 (j + 1) i m X R2 g R w6) := Lib.hid ⟨HQ6.out.1, HQ6.out.2.skip (by rw [← HYE.out]; exact hin)⟩
              clear hin HQ6 c6
              go_wp2_with fail
              go_roundw
              case rel => exact ⟨j + 1, g, m, c, R, by omega, by go_num, rfl, HQ7⟩
              case measure => simp [intOf]; omega
            · rw [decide_eq_false hin]
              have HIN := Lib.hid hin
              clear hin
              have HSZ : Hid (w.heap.size ≤ w6.heap.size) := Lib.hid HQ6.out.1.keeps.size
              have HY6 : Hid (OwnInts w6 w.heap.size (some ⟨y.g, 0, none⟩) y.l.length y.d y.l) := Lib.hid (by
                have := (HQ6.out.2.crn.rowD j hltj).mono hlo4
                rw [← HYE.out] at this
                exact this)
              go_wp2_with (first | (at_builtin; refine wp_app_crd rfl _ _ rfl w.heap.size (some ⟨g, 0, none⟩) m c R w6 rfl HQ6.out.1.crd y HY6.out _ (by unfold Hdr.v; rw [HYL.out]) rfl (by omega) HSZ.out ?_; intro g9 c9 w9 hC9 hg9))
              have HQ9 := Lib.hid (step_both HQ6.out.1 HQ6.out.2 hltj HN2.out hlo4 (by rw [← HYE.out]; exact HIN.out) (by rw [← HYE.out]; exact HRX.out.step HYN.out) (by rw [← HYE.out]; exact hC9) hg9)
              clear hC9 hg9 HQ6 HY6 HIN c6
              go_roundw
              case rel => exact ⟨j + 1, g9, m + 1, c9, _, by omega, by go_num, rfl, HQ9⟩
              case measure => simp [intOf]; omega
          · obtain rfl : j = k2 := by omega
            have HQF : Hid (QSt F G l w w.heap.size n #[.slice S n cS, .slice A n cA, .slice B n cB] g m c (i + 1) R wr ∧ i < m) := Lib.hid ⟨⟨HQ.out.1.crd, HQ.out.1.apart, HQ.out.1.nod, HQ.out.1.mem, HQ.out.1.rch, fun p hp y hy => by
              by_cases e : p = i
              · subst e
                rw [HQ.out.2.at', ← HC2.out] at hy
                obtain ⟨q, hq, rfl⟩ := mem_mapD hy
                rw [HQ.out.2.crn.len] at hq
                exact HQ.out.2.nin q hq
              · exact HQ.out.1.done p (by omega) y hy, HQ.out.1.box, HQ.out.1.keeps⟩, HQ.out.2.lt⟩
            have him := HQF.out.2
            go_wp2_with fail
            go_roundw
            case rel => exact ⟨i + 1, g, m, c, R, by omega, by go_num, rfl, Lib.hid HQF.out.1⟩
            case measure => simp [intOf]; omega
    · obtain rfl : i = m := by omega
      have HLN : Hid (∀ h ∈ R, h.l.length ≤ 1000) := Lib.hid (fun h hh => by
        rw [(HQ.out.crw HR.out.rul HW.out _ (List.mem_map_of_mem hh)).len]
        omega)
      have HEQ : Hid (rchL F G n l = canL (R.map (·.l))) := Lib.hid (rchL_of HQ.out.mem HQ.out.rch (fun x hx y hy => by
        obtain ⟨p, hp, rfl⟩ := mem_mapD hx
        rw [HQ.out.crd.len] at hp
        exact HQ.out.done p hp y hy))
      have HRC := Lib.hid HQ.out.rch
      go_wp2_with fail
      refine (sorted_any g i c w.heap.size R wr w HQ.out.crd (by omega) HLN.out HQ.out.keeps (Nat.le_refl _) HQ.out.apart).mono ?_
      rintro e w2 ⟨R2, k, rfl, hc2, hn2, hm2, hR2, hk2⟩
      have HC2 := Lib.hid hc2
      have HN2 := Lib.hid hn2
      have HR2 := Lib.hid hR2
      have HK2 := Lib.hid hk2
      clear hc2 hn2 hm2 hR2 hk2
      go_wp2_with fail
      go_ret
      exact ⟨R2, g, k, rfl, by rw [HC2.out, HEQ.out], fun x hx => by
        rw [HC2.out, mem_canL] at hx
        exact HRC.out x hx, HN2.out, HR2.out, HK2.out⟩
end Go.Proofs.Ytaejakejnllimaa
