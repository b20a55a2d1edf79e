/-
  The search for lies that break an agreement: the plain recursion, and the contract of the program's closure. Condition: three to five generals, words 0 or 1.
-/
import Derived.Test.YtepgogaoppdllaaBroken
import Derived.Test.YtepgogaoppdllaaDraw
import Derived.Deep.RegionHeld3
namespace Go.Proofs.Ytepgogaoppdllaa
open Go.RowKit

/-- What all others do, by lies in a list. -/
def ordD (n liar : Nat) (order : Int) (l : List Int) : Nat → Int := fun i => ordF n liar (fun j => l.getD j 0) order (i + 1)
/-- The program's search, f generals to go from q on. -/
def fromI (n liar : Nat) (order : Int) : Nat → Nat → List Int → Bool × List Int
  | 0, _, l => (brkD (n - 1) (ordD n liar order l) order liar, l)
  | f + 1, q, l =>
    if q = liar then fromI n liar order f (q + 1) l else
    if (fromI n liar order f (q + 1) (l.set (liar * n + q) 0)).1 then (true, (fromI n liar order f (q + 1) (l.set (liar * n + q) 0)).2) else
    if (fromI n liar order f (q + 1) ((fromI n liar order f (q + 1) (l.set (liar * n + q) 0)).2.set (liar * n + q) 1)).1 then (true, (fromI n liar order f (q + 1) ((fromI n liar order f (q + 1) (l.set (liar * n + q) 0)).2.set (liar * n + q) 1)).2) else
    (false, (fromI n liar order f (q + 1) ((fromI n liar order f (q + 1) (l.set (liar * n + q) 0)).2.set (liar * n + q) 1)).2.set (liar * n + q) 0)
/-- Lies are 0 or 1. -/
def Bits01 (l : List Int) : Prop := ∀ i, 0 ≤ l.getD i 0 ∧ l.getD i 0 ≤ 1
theorem Bits01.set {l : List Int} (h : Bits01 l) (j : Nat) (v : Int) (hv : 0 ≤ v ∧ v ≤ 1) : Bits01 (l.set j v) := fun i => by
  have := h i
  rw [List.getD_eq_getElem?_getD, List.getElem?_set]
  rw [List.getD_eq_getElem?_getD] at this
  split
  · split
    · simpa using hv
    · simp
  · exact this
theorem fromI_bits (n liar : Nat) (order : Int) : ∀ f q l, Bits01 l → Bits01 (fromI n liar order f q l).2
  | 0, _, _, h => h
  | f + 1, q, l, h => by
    have h0 := fromI_bits n liar order f (q + 1) _ (h.set (liar * n + q) 0 (by omega))
    have h1 := fromI_bits n liar order f (q + 1) _ (h0.set (liar * n + q) 1 (by omega))
    simp only [fromI]
    split
    · exact fromI_bits n liar order f (q + 1) l h
    · split
      · exact h0
      · split
        · exact h1
        · exact h1.set _ _ (by omega)
theorem left_pos (n N liar : Nat) (order : Int) (l : List Int) (hN : n = N + 1) (h3 : 3 ≤ n) : 1 ≤ (leftL N (ordD n liar order l)).length := by
  have key : ∃ i, i < N ∧ ordD n liar order l i ≠ -1 := by
    have hne : ∀ q, q ≠ liar → ordF n liar (fun j => l.getD j 0) order q ≠ -1 := fun q hq => by
      unfold ordF
      rw [if_neg hq]
      split <;> omega
    by_cases h : liar = 1
    · exact ⟨1, by omega, hne 2 (by omega)⟩
    · exact ⟨0, by omega, hne 1 (by omega)⟩
  obtain ⟨i, hi, h⟩ := key
  have : ordD n liar order l i ∈ leftL N (ordD n liar order l) := by
    unfold leftL
    rw [List.mem_filter]
    refine ⟨?_, by simpa using h⟩
    unfold il
    exact List.mem_map.2 ⟨i, by simpa using hi, rfl⟩
  exact List.length_pos_of_mem this
/-- The closure's boxes. -/
def Boxes (n nn liar c g bn bo bl bs bf : Nat) (order : Int) (w : World) : Prop :=
  w.cell? ⟨bn, 0, none⟩ = some (.int .i64 n) ∧ w.cell? ⟨bo, 0, none⟩ = some (.int .i64 order) ∧ w.cell? ⟨bl, 0, none⟩ = some (.int .i64 liar) ∧ w.cell? ⟨bs, 0, none⟩ = some (.slice (some ⟨g, 0, none⟩) nn c) ∧
  w.cell? ⟨bf, 0, none⟩ = some (.func (.func 55) #[] #[.pointer (some ⟨bn, 0, none⟩), .pointer (some ⟨bo, 0, none⟩), .pointer (some ⟨bl, 0, none⟩), .pointer (some ⟨bs, 0, none⟩), .pointer (some ⟨bf, 0, none⟩)])
theorem Boxes.gro {n nn liar c g bn bo bl bs bf : Nat} {order : Int} {w w' : World} (h : Boxes n nn liar c g bn bo bl bs bf order w) (k : Gro g w w') (h1 : bn ≠ g) (h2 : bo ≠ g) (h3 : bl ≠ g) (h4 : bs ≠ g) (h5 : bf ≠ g) : Boxes n nn liar c g bn bo bl bs bf order w' :=
  ⟨k.cell h.1 h1, k.cell h.2.1 h2, k.cell h.2.2.1 h3, k.cell h.2.2.2.1 h4, k.cell h.2.2.2.2 h5⟩
abbrev RecPost (n nn liar c g lo f q : Nat) (order : Int) (l : List Int) (w : World) (e : Ending) (w' : World) : Prop :=
  e = .returned (.bool (fromI n liar order f q l).1) ∧ OwnInts w' lo (some ⟨g, 0, none⟩) nn c (fromI n liar order f q l).2 ∧ Gro g w w'

set_option maxRecDepth 100000 in
set_option maxHeartbeats 4000000 in
theorem rec_any (n nn N liar c g lo bn bo bl bs bf : Nat) (order : Int) (hnn : nn = n * n) (hn : n ≤ 5) (h3 : 3 ≤ n) (hN : n = N + 1) (hl : liar < n) (ho : 0 ≤ order ∧ order ≤ 1) (g1 : bn ≠ g) (g2 : bo ≠ g) (g3 : bl ≠ g) (g4 : bs ≠ g) (g5 : bf ≠ g) :
    ∀ (f q : Nat) (l : List Int) (w : World), q + f = n → Boxes n nn liar c g bn bo bl bs bf order w → OwnInts w lo (some ⟨g, 0, none⟩) nn c l → Bits01 l →
      Calls Try.prog 55 #[.int .i64 q, .pointer (some ⟨bn, 0, none⟩), .pointer (some ⟨bo, 0, none⟩), .pointer (some ⟨bl, 0, none⟩), .pointer (some ⟨bs, 0, none⟩), .pointer (some ⟨bf, 0, none⟩)] w (RecPost n nn liar c g lo f q order l w) := by
  have hf : ∀ (args : Array Value) (w : World), (callFunc 55 args).run Try.prog w = .ok (.enter 55 args) w := fun _ _ => rfl
  intro f
  induction f with
  | zero =>
    intro q l w hq hB hO hbit
    obtain rfl : q = n := by omega
    obtain ⟨c1, c2, c3, c4, c5⟩ := hB
    have HO := Lib.hid hO
    have hqq : ((q : Int) == (q : Int)) = true := by simp
    have CO := Lib.hid (fun w' (hk : Keeps w w') => (by
      have h := iorders_any q N liar c order (some ⟨g, 0, none⟩) (fun j => l.getD j 0) w' hn hN ho (by rw [← hnn]; exact hO.ints.keeps hk) (fun i _ => hbit i)
      rw [← hnn] at h
      exact h : Calls Try.prog 57 #[.int .i64 q, .int .i64 order, .int .i64 liar, .slice (some ⟨g, 0, none⟩) nn c] w' (Ans w' (il N (fun i => ordF q liar (fun j => l.getD j 0) order (i + 1))))))
    have HL := Lib.hid (left_pos q N liar order l hN h3)
    have HD := Lib.hid (show (fun i => ordF q liar (fun j => l.getD j 0) order (i + 1)) = ordD q liar order l from rfl)
    have HN1 : Hid (q - 1 = N) := Lib.hid (by omega)
    have hNb : N ≤ 1048576 := by omega
    have hNp : 1 ≤ N := by omega
    rw [HD.out] at CO
    generalize hdd : ordD q liar order l = d at *
    have HDD := Lib.hid hdd
    clear hO hbit hdd HD
    have HNQ := Lib.hid hN
    have HQN := Lib.hid hnn
    clear hnn ho hN hn h3 hl g1 g2 g3 g4 g5
    go_enter Try.func55, Try.ntmps55
    go_wp2_with fail
    go_region_held3 (fun w' => w'.cell? ⟨bn, 0, none⟩ = some (.int .i64 q) ∧ w'.cell? ⟨bo, 0, none⟩ = some (.int .i64 order) ∧ w'.cell? ⟨bl, 0, none⟩ = some (.int .i64 liar) ∧ w'.cell? ⟨bs, 0, none⟩ = some (.slice (some ⟨g, 0, none⟩) nn c) ∧ Keeps w w') (first | exact ⟨cell_keeps hk5 q0, cell_keeps hk5 q1, cell_keeps hk5 q2, cell_keeps hk5 q3, q4.step hk5⟩ | exact ⟨cell_keeps hk6 q0, cell_keeps hk6 q1, cell_keeps hk6 q2, cell_keeps hk6 q3, q4.step hk6⟩ | exact ⟨c1, c2, c3, c4, Keeps.drew1 _⟩) (first | (go_at_call 57; obtain ⟨q0, q1, q2, q3, q4⟩ : _ ∧ _ ∧ _ ∧ _ ∧ Keeps w _ := (by assumption); refine (CO.out _ q4).mono ?_; rintro e w5 ⟨A, ca, rfl, hOr, hk5⟩; rw [il_len] at hOr ⊢; have HOr := Lib.hid (show Ints w5 A N d from fun i hi => (by obtain ⟨b, off, e, hc⟩ := hOr.ints i hi; exact ⟨b, off, e, by dsimp only at hc; rw [il_getD _ _ _ hi] at hc; exact hc⟩)); clear hOr) | (go_at_call 56; obtain ⟨q0, q1, q2, q3, q4⟩ : _ ∧ _ ∧ _ ∧ _ ∧ Keeps w _ := (by assumption); refine (broken_any A N ca liar d order _ hNb hNp HL.out HOr.out).mono ?_; rintro e w6 ⟨rfl, hk6⟩))
    have hG : Gro g w w6 := Gro.ofKeeps (q4.step hk6)
    have hOf : OwnInts w6 lo (some ⟨g, 0, none⟩) nn c l := HO.out.keeps (q4.step hk6)
    have HRES : Hid (brkD N d order liar = (fromI q liar order 0 q l).1) := Lib.hid (by simp only [fromI]; rw [HN1.out, HDD.out])
    have HG := Lib.hid hG
    have HOf := Lib.hid hOf
    clear hG hOf q0 q1 q2 q3 q4
    go_wp2
    go_ret
    exact ⟨ret_bool HRES.out, HOf.out, HG.out⟩
  | succ f ih =>
    intro q l w hq hB hO hbit
    have hqn : q < n := by omega
    have HIH : Hid (∀ (l : List Int) (w : World), Boxes n nn liar c g bn bo bl bs bf order w → OwnInts w lo (some ⟨g, 0, none⟩) nn c l → Bits01 l → Calls Try.prog 55 #[.int .i64 ((q : Int) + 1), .pointer (some ⟨bn, 0, none⟩), .pointer (some ⟨bo, 0, none⟩), .pointer (some ⟨bl, 0, none⟩), .pointer (some ⟨bs, 0, none⟩), .pointer (some ⟨bf, 0, none⟩)] w (RecPost n nn liar c g lo f (q + 1) order l w)) := Lib.hid (fun l w h1 h2 h3 => ih (q + 1) l w (by omega) h1 h2 h3)
    clear ih
    have hqe : ((q : Int) == (n : Int)) = false := by simp; omega
    have HB := Lib.hid hB
    have HO := Lib.hid hO
    have HBIT := Lib.hid hbit
    obtain ⟨c1, c2, c3, c4, c5⟩ := hB
    by_cases hql : q = liar
    · have hqle : ((q : Int) == (liar : Int)) = true := by simp; omega
      have HRES : Hid (fromI n liar order (f + 1) q l = fromI n liar order f (q + 1) l) := Lib.hid (by simp only [fromI]; rw [if_pos hql])
      have CC := Lib.hid (HIH.out l w HB.out HO.out HBIT.out)
      clear hql hO hbit
      have HNN := Lib.hid hN
      have HNN2 := Lib.hid hnn
      clear hN h3 hl hnn
      go_enter Try.func55, Try.ntmps55
      go_wp2_with fail
      refine CC.out.mono ?_
      rintro e w1 ⟨rfl, hO1, hG1⟩
      have HO1 := Lib.hid hO1
      have HG1 := Lib.hid hG1
      clear hO1 hG1
      go_wp2
      go_ret
      unfold RecPost
      rw [HRES.out]
      exact ⟨rfl, HO1.out, HG1.out⟩
    · have hqle : ((q : Int) == (liar : Int)) = false := by simp; omega
      obtain ⟨st, hst⟩ : ∃ st : Nat → List Int, st 0 = l ∧ ∀ k, st (k + 1) = (fromI n liar order f (q + 1) ((st k).set (liar * n + q) k)).2 :=
        ⟨fun k => Nat.rec l (fun k s => (fromI n liar order f (q + 1) (s.set (liar * n + q) k)).2) k, rfl, fun _ => rfl⟩
      have HST0 := Lib.hid hst.1
      have HST := Lib.hid hst.2
      have HRES : Hid (fromI n liar order (f + 1) q l = if (fromI n liar order f (q + 1) ((st 0).set (liar * n + q) 0)).1 then (true, st 1) else if (fromI n liar order f (q + 1) ((st 1).set (liar * n + q) 1)).1 then (true, st 2) else (false, (st 2).set (liar * n + q) 0)) := Lib.hid (by
        have e1 := hst.2 0
        have e2 := hst.2 1
        rw [hst.1] at e1
        simp only [fromI]
        rw [if_neg hql, hst.1, e2, e1]
        rfl)
      have hbits : ∀ k, k ≤ 2 → Bits01 (st k) := fun k => by
        induction k with
        | zero => intro _; rw [hst.1]; exact hbit
        | succ k ihk => intro hk; rw [hst.2 k]; exact fromI_bits n liar order f (q + 1) _ ((ihk (by omega)).set _ _ (by omega))
      have HBITS := Lib.hid hbits
      have hidx : liar * n + q < nn := by rw [hnn]; exact idx_lt hl hqn
      have hln := prod_le hl hn
      have HM : Hid ((liar : Int) * (n : Int) = ((liar * n : Nat) : Int)) := Lib.hid (by simp)
      have W1 : IntKind.i64.wrap ((liar : Int) * (n : Int)) = ((liar * n : Nat) : Int) := by rw [IntKind.wrap_i64, HM.out]; omega
      have HNN := Lib.hid hN
      have hO0 : OwnInts w lo (some ⟨g, 0, none⟩) nn c (st 0) := by rw [hst.1]; exact hO
      have HO0 := Lib.hid hO0
      clear hst hbits hO hO0 hql hN h3 hbit
      have HNN2 := Lib.hid hnn
      clear hnn
      generalize liar * n = ln at *
      have hidx' : (ln : Int) + q < nn := by omega
      clear hl
      go_enter Try.func55, Try.ntmps55
      go_wp2_with fail
      go_loopw [29] (fun i wr => ∃ k : Nat, k ≤ 2 ∧ i = .int .i64 k ∧ OwnInts wr lo (some ⟨g, 0, none⟩) nn c (st k) ∧ Hid (∀ j, j < k → (fromI n liar order f (q + 1) ((st j).set (ln + q) j)).1 = false) ∧ Gro g w wr) (fun i _ => 2 - (intOf i).toNat)
      case atStart => exact ⟨0, by omega, rfl, HO0.out, Lib.hid (fun j hj => absurd hj (Nat.not_lt_zero _)), Gro.refl _ _⟩
      case round =>
        clear c1 c2 c3 c4 c5
        obtain ⟨k, hk, rfl, hO, HF, hG⟩ := hrel
        obtain ⟨c1, c2, c3, c4, c5⟩ := HB.out.gro hG g1 g2 g3 g4 g5
        have hcell := hO.cell (ln + q) hidx
        have hfz := hO.frozen (ln + q)
        generalize (st k).getD (ln + q) 0 = old at *
        by_cases hlt : k < 2
        · have hki : (k : Int) < 2 := by omega
          have HOk := Lib.hid hO
          have HB1 := Lib.hid (HB.out.gro (hG.step (Gro.set g (ln + q) wr (.int .i64 k))) g1 g2 g3 g4 g5)
          obtain ⟨_, _, _, _, d5⟩ := HB1.out
          have CC := Lib.hid (HIH.out ((st k).set (ln + q) k) (wr.setCell ⟨g, ln + q, none⟩ (.int .i64 k)) HB1.out (hO.set (ln + q) k) ((HBITS.out k hk).set _ _ (by omega)))
          have HS := Lib.hid (HST.out k)
          clear hO
          go_wp2_with fail
          refine CC.out.mono ?_
          rintro e w1 ⟨rfl, hO1, hG1⟩
          rw [← HS.out] at hO1
          have HO1 := Lib.hid hO1
          have HG1 := Lib.hid (hG.step ((Gro.set g (ln + q) wr (.int .i64 k)).step hG1))
          clear hO1 hG1
          cases e1 : (fromI n liar order f (q + 1) ((st k).set (ln + q) k)).1
          · have HE1 := Lib.hid e1
            go_wp2
            go_roundw
            case rel =>
              refine ⟨k + 1, by omega, by go_num, HO1.out, Lib.hid (fun j hj => ?_), HG1.out⟩
              by_cases h : j = k
              · rw [h]; exact HE1.out
              · exact HF.out j (by omega)
            case measure => simp [intOf]; omega
          · have HR : Hid (fromI n liar order (f + 1) q l = (true, st (k + 1))) := Lib.hid (by
              rw [HRES.out]
              obtain rfl | rfl : k = 0 ∨ k = 1 := by omega
              · rw [if_pos (by simpa using e1)]
              · rw [if_neg (by have := HF.out 0 (by omega); simp at this; simp [this]), if_pos (by simpa using e1)])
            go_wp2
            go_ret
            unfold RecPost
            rw [HR.out]
            exact ⟨rfl, HO1.out, HG1.out⟩
        · obtain rfl : k = 2 := by omega
          have HR : Hid (fromI n liar order (f + 1) q l = (false, (st 2).set (ln + q) 0)) := Lib.hid (by
            rw [HRES.out, if_neg (by have := HF.out 0 (by omega); simp at this; simp [this]), if_neg (by have := HF.out 1 (by omega); simp at this; simp [this])])
          have HO2 := Lib.hid (hO.set (ln + q) 0)
          clear hO
          go_wp2
          go_ret
          unfold RecPost
          rw [HR.out]
          exact ⟨rfl, HO2.out, hG.step (Gro.set g (ln + q) _ _)⟩
end Go.Proofs.Ytepgogaoppdllaa
