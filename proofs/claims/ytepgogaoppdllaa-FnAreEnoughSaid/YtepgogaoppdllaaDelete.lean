/-
  The contracts of slices.DeleteFunc (of -1) and of slices.Compact (whether less than two are left) on a list that is the call's own. Condition: lengths at most 2^20.
-/
import Derived.Test.YtepgogaoppdllaaOwnSet
import Derived.Test.YtepgogaoppdllaaFunc
import Derived.Lib.SliceRun
import Derived.Deep.QuietTactic
import Derived.BigQuiet
namespace Go.Proofs.Ytepgogaoppdllaa
open Go.RowKit

theorem cut_own {w : World} {lo g n c : Nat} {l : List Int} (h : OwnInts w lo (some ⟨g, 0, none⟩) n c l) (k : Nat) (hk : k ≤ n) : OwnInts w lo (some ⟨g, 0, none⟩) k c (l.take k) := by
  have hl := h.len
  refine ⟨by simp; omega, ?_⟩
  rcases h.2 with ⟨e, _⟩ | ⟨g', cap, cur, e, hg, r1, r2, r3, r4, r5⟩
  · cases e
  · cases e
    refine .inr ⟨g, c, cur, rfl, hg, r1, by omega, r3, r4, ?_⟩
    rw [List.map_take, ← r5, List.take_take]
    congr 1
    omega
theorem setCells_own {lo g n c : Nat} : ∀ (vs : List Int) (o : Nat) {w : World} {l : List Int}, OwnInts w lo (some ⟨g, 0, none⟩) n c l →
    ∃ l', OwnInts (w.setCells g o (vs.map (Value.int .i64))) lo (some ⟨g, 0, none⟩) n c l' ∧ l'.take o = l.take o
  | [], o, w, l, h => ⟨l, h, rfl⟩
  | v :: vs, o, w, l, h => by
    obtain ⟨l', h1, h2⟩ := setCells_own vs (o + 1) (h.set o v)
    refine ⟨l', h1, ?_⟩
    have := congrArg (List.take o) h2
    rw [List.take_take, List.take_take, show min o (o + 1) = o by omega] at this
    rw [this, List.take_set, List.set_eq_of_length_le (by simp; omega)]
theorem keeps_setCells {w0 : World} {g : Nat} (hg : w0.heap.size ≤ g) : ∀ (vs : List Value) (o : Nat) {w : World}, Keeps w0 w → Keeps w0 (w.setCells g o vs)
  | [], _, _, h => h
  | v :: vs, o, _, h => keeps_setCells hg vs (o + 1) (Below.setCell h hg v)

set_option maxHeartbeats 400000 in
theorem ag1_any (k : Int) (w : World) : Calls Try.prog 84 #[.int .i64 k] w fun e w' => e = .returned (.bool (k == -1)) ∧ Keeps w w' := by
  go_enter Try.func84, Try.ntmps84
  go_wp2
  go_ret
  exact ⟨rfl, Keeps.refl _⟩
theorem filter_take (l : List Int) (k : Nat) (h : k < l.length) : (l.take (k + 1)).filter (fun z => !(z == -1)) = (l.take k).filter (fun z => !(z == -1)) ++ (if l.getD k 0 == -1 then [] else [l.getD k 0]) := by
  rw [List.take_add_one, List.filter_append, List.getElem?_eq_getElem h, List.getD_eq_getElem?_getD, List.getElem?_eq_getElem h]
  congr 1
  cases e : (l[k] == -1) <;> simp [e] <;> simpa using e
theorem take_set_same (l : List Int) (i : Nat) (v : Int) (h : i < l.length) : (l.set i v).take (i + 1) = l.take i ++ [v] := by
  rw [List.take_add_one, List.take_set, List.set_eq_of_length_le (by simp; omega)]
  simp [h]
set_option maxRecDepth 100000 in
set_option maxHeartbeats 4000000 in
theorem delete_any (f : Nat) (hf : ∀ (args : Array Value) (w : World), (callFunc f args).run Try.prog w = .ok (.enter f args) w) (hcl : ∀ (k : Int) (w : World), Calls Try.prog f #[.int .i64 k] w fun e w' => e = .returned (.bool (k == -1)) ∧ Keeps w w') (lo : Nat) (A : Option Addr) (n c : Nat) (l : List Int) (w : World) (hn : n ≤ 1048576) (hO : OwnInts w lo A n c l) (w0 : World) (hw0 : Keeps w0 w) (hlo : w0.heap.size ≤ lo) :
    Calls Try.prog 78 #[.slice A n c, .func (.func f) #[] #[]] w fun e w' => ∃ k, k ≤ n ∧ e = .returned (.slice A k c) ∧ OwnInts w' lo A k c (l.filter (fun z => !(z == -1))) ∧ Keeps w0 w' := by
  have HO := Lib.hid hO
  have HW := Lib.hid hw0
  have hlen := hO.len
  have HCL := Lib.hid hcl
  clear hO hw0
  have hix : Hid (Calls Try.prog 86 #[.slice A n c, .func (.func f) #[] #[]] w fun e w' => e = .returned (.int .i64 (idxB (fun k => l.getD k 0 == -1) n)) ∧ Keeps w w') := Lib.hid (intidx_any f #[] A n c (fun i => l.getD i 0) (fun k => l.getD k 0 == -1) w (by omega) HO.out.ints hf (fun k w' _ _ => by simpa using hcl (l.getD k 0) w'))
  clear hcl
  by_cases hall : ∀ i, i < n → (l.getD i 0 == -1) = false
  · have hE : Hid (idxB (fun k => l.getD k 0 == -1) n = -1) := Lib.hid (idxB_none _ n hall).symm
    have HF : Hid (l.filter (fun z => !(z == -1)) = l) := Lib.hid (by
      rw [List.filter_eq_self]
      intro a ha
      obtain ⟨i, hi, rfl⟩ := List.getElem_of_mem ha
      have := hall i (by omega)
      rw [List.getD_eq_getElem?_getD, List.getElem?_eq_getElem hi] at this
      simp at this
      simp [this])
    clear hall
    go_enter Try.func78, Try.ntmps78
    go_wp2_with fail
    refine hix.out.mono ?_
    rintro e w1 ⟨rfl, hk1⟩
    rw [hE.out]
    go_wp2
    go_ret
    exact ⟨n, Nat.le_refl _, rfl, by rw [HF.out]; exact HO.out.keeps hk1, HW.out.step hk1⟩
  · obtain ⟨i0, hi0, hp0, hb0⟩ : ∃ i, i < n ∧ (l.getD i 0 == -1) = true ∧ ∀ j, j < i → (l.getD j 0 == -1) = false := by
      have hx : ∃ i, i < n ∧ (l.getD i 0 == -1) = true := by
        apply Classical.byContradiction
        intro hno
        exact hall (fun i hi => by
          cases e : (l.getD i 0 == -1)
          · rfl
          · exact (hno ⟨i, hi, e⟩).elim)
      have least : ∀ k, k ≤ n → (∃ i, i < k ∧ (l.getD i 0 == -1) = true ∧ ∀ j, j < i → (l.getD j 0 == -1) = false) ∨ ∀ i, i < k → (l.getD i 0 == -1) = false := by
        intro k
        induction k with
        | zero => intro _; exact .inr (fun i hi => absurd hi (Nat.not_lt_zero _))
        | succ k ih =>
          intro hk
          rcases ih (by omega) with ⟨i, h1, h2, h3⟩ | h
          · exact .inl ⟨i, by omega, h2, h3⟩
          · cases e : (l.getD k 0 == -1)
            · refine .inr (fun i hi => ?_)
              by_cases h' : i = k
              · rw [h']; exact e
              · exact h i (by omega)
            · exact .inl ⟨k, by omega, e, h⟩
      rcases least n (Nat.le_refl _) with ⟨i, h1, h2, h3⟩ | h
      · exact ⟨i, h1, h2, h3⟩
      · obtain ⟨i, hi, e⟩ := hx
        rw [h i hi] at e; cases e
    have hE : Hid (idxB (fun k => l.getD k 0 == -1) n = (i0 : Int)) := Lib.hid (idxB_at (fun k => l.getD k 0 == -1) n i0 hi0 hp0 hb0).symm
    obtain ⟨g, rfl⟩ := HO.out.at (by omega)
    have hne : ((i0 : Int) == -1) = false := by simp
    have HT0 : Hid ((l.take (i0 + 1)).filter (fun z => !(z == -1)) = l.take i0) := Lib.hid (by
      rw [filter_take l i0 (by omega), hp0]
      simp only [if_true, List.append_nil]
      rw [List.filter_eq_self]
      intro a ha
      obtain ⟨i, hi, rfl⟩ := List.getElem_of_mem ha
      have hi' : i < i0 := by simp at hi; omega
      have := hb0 i hi'
      rw [List.getD_eq_getElem?_getD, List.getElem?_eq_getElem (by omega)] at this
      simp at this
      simp [this])
    clear hall hp0 hb0
    go_enter Try.func78, Try.ntmps78
    go_wp2_with fail
    refine hix.out.mono ?_
    rintro e w1 ⟨rfl, hk1⟩
    rw [hE.out]
    have HO1 := Lib.hid (HO.out.keeps hk1)
    have HW1 := Lib.hid (HW.out.step hk1)
    clear hk1 hix
    go_wp2_with fail
    go_loopw [6, 5] (fun j i wr => ∃ (J I : Nat) (l' : List Int), I < J ∧ J ≤ n ∧ j = .int .i64 J ∧ i = .int .i64 I ∧ OwnInts wr lo (some ⟨g, 0, none⟩) n c l' ∧ Hid (l'.take I = (l.take J).filter (fun z => !(z == -1))) ∧ Hid (∀ t, J ≤ t → t < n → l'.getD t 0 = l.getD t 0) ∧ Keeps w0 wr) (fun j _ _ => n - (intOf j).toNat)
    case atStart => exact ⟨i0 + 1, i0, l, by omega, by omega, by go_num, rfl, HO1.out, Lib.hid (by rw [HT0.out]), Lib.hid (fun _ _ _ => rfl), HW1.out⟩
    case round =>
      obtain ⟨J, I, l', hIJ, hJ, rfl, rfl, hO, hT, hR, hK⟩ := hrel
      by_cases hlt : J < n
      · have hJi : (J : Int) < n := by omega
        have hIi : (I : Int) < n := by omega
        have hIn : I < n := by omega
        have hcJ := hO.cell J hlt
        rw [hR.out J (Nat.le_refl _) hlt] at hcJ
        have HO2 := Lib.hid hO
        have HN := Lib.hid (filter_take l J (by omega))
        have HLO := Lib.hid hO.block.1
        clear hO
        generalize l.getD J 0 = v at *
        go_wp2_with fail
        refine (HCL.out v _).mono ?_
        rintro e w2 ⟨rfl, hk2⟩
        have HO3 := Lib.hid (HO2.out.keeps hk2)
        cases e1 : (v == -1)
        · have hci := HO3.out.cell I hIn
          have hfi := HO3.out.frozen I
          have HN2 : Hid ((l.take (J + 1)).filter (fun z => !(z == -1)) = (l.take J).filter (fun z => !(z == -1)) ++ [v]) := Lib.hid (by rw [HN.out, e1]; rfl)
          go_wp2
          go_roundw
          case rel =>
            refine ⟨J + 1, I + 1, l'.set I v, by omega, by omega, by go_num, by go_num, HO3.out.set I _, Lib.hid ?_, Lib.hid (fun t h1 h2 => ?_), Below.setCell (hK.step hk2) (Nat.le_trans hlo HLO.out) _⟩
            · rw [take_set_same _ _ _ (by have := HO3.out.len; omega), hT.out, HN2.out]
            · rw [List.getD_eq_getElem?_getD, List.getElem?_set, if_neg (by omega), ← List.getD_eq_getElem?_getD]
              exact hR.out t (by omega) h2
          case measure => simp [intOf]; omega
        · have HN2 : Hid ((l.take (J + 1)).filter (fun z => !(z == -1)) = (l.take J).filter (fun z => !(z == -1))) := Lib.hid (by rw [HN.out, e1]; simp)
          go_wp2
          go_roundw
          case rel => exact ⟨J + 1, I, l', by omega, by omega, by go_num, rfl, HO3.out, Lib.hid (by rw [hT.out, HN2.out]), Lib.hid (fun t h1 h2 => hR.out t (by omega) h2), hK.step hk2⟩
          case measure => simp [intOf]; omega
      · obtain rfl : J = n := by omega
        have hIi : (I : Int) ≤ J := by omega
        have hIJ' : (I : Int) < J := by omega
        have hcc : J ≤ c := by
          rcases hO.2 with ⟨e, _⟩ | ⟨g', cap, cur, e, hg, r1, r2, r3, r4, r5⟩
          · cases e
          · cases e; omega
        have hcc' : (J : Int) ≤ c := by omega
        have hIc : (I : Int) ≤ c := by omega
        have hcl : ∀ ty, (Builtin.clear_ #[23] ty #[.slice (some ⟨g, 0 + I, none⟩) (J - I) (c - I)]).run Try.prog wr = .ok (.tuple #[]) (wr.setCells g (0 + I) (List.replicate (J - I) (.int .i64 0))) :=
          fun ty => Lib.run_clear_slice wr _ _ ty _ Try.underlying23 (fun w => rfl) rfl rfl g (0 + I) _ _ (by omega) (fun j hj => by rw [Nat.zero_add, hO.cell (I + j) (by omega)]; rfl) (fun j hj => hO.frozen _)
        simp only [Nat.zero_add] at hcl
        obtain ⟨l2, hO2, hT2⟩ := setCells_own (List.replicate (J - I) 0) I hO
        rw [List.map_replicate] at hO2
        have hO3 := cut_own hO2 I (by omega)
        rw [hT2, hT.out, List.take_of_length_le (show l.length ≤ J by omega)] at hO3
        have HO3 := Lib.hid hO3
        have HK := Lib.hid (keeps_setCells (g := g) (Nat.le_trans hlo hO.block.1) (List.replicate (J - I) (.int .i64 0)) I hK)
        clear hO hO2 hO3 hT2 hK
        go_wp2
        go_ret
        exact ⟨I, by omega, rfl, HO3.out, HK.out⟩
theorem all_next (n : Nat) (x : Nat → Int) (h : ∀ t, 0 < t → t < n → x t = x (t - 1)) : ∀ i, i < n → x i = x 0
  | 0, _ => rfl
  | i + 1, hi => by rw [h (i + 1) (by omega) hi]; exact all_next n x h i (by omega)
theorem own_cap {w : World} {lo g n c : Nat} {l : List Int} (h : OwnInts w lo (some ⟨g, 0, none⟩) n c l) : n ≤ c := by
  rcases h.2 with ⟨e, _⟩ | ⟨g', cap, cur, e, hg, r1, r2, r3, r4, r5⟩
  · cases e
  · cases e; omega
set_option maxRecDepth 100000 in
set_option maxHeartbeats 4000000 in
theorem compact_any (lo : Nat) (A : Option Addr) (n c : Nat) (x : Nat → Int) (w : World) (hn : n ≤ 1048576) (hO : OwnInts w lo A n c (il n x)) (w0 : World) (hw0 : Keeps w0 w) (hlo : w0.heap.size ≤ lo) :
    Calls Try.prog 85 #[.slice A n c] w fun e w' => ∃ k : Nat, e = .returned (.slice A k c) ∧ (k < 2 ↔ ∀ i j, i < n → j < n → x i = x j) ∧ Keeps w0 w' := by
  have HO := Lib.hid hO
  have HW := Lib.hid hw0
  clear hO hw0
  by_cases h2 : n < 2
  · have HA : Hid (∀ i j, i < n → j < n → x i = x j) := Lib.hid (fun i j hi hj => by rw [show i = j by omega])
    have h2' : (n : Int) < 2 := by omega
    have H2 := Lib.hid h2
    go_enter Try.func85, Try.ntmps85
    go_wp2
    go_ret
    exact ⟨n, rfl, ⟨fun _ => HA.out, fun _ => H2.out⟩, HW.out⟩
  · obtain ⟨g, rfl⟩ := HO.out.at (by omega)
    have h2' : ¬ ((n : Int) < 2) := by omega
    go_enter Try.func85, Try.ntmps85
    go_wp2_with fail
    go_loopw [3] (fun i wr => ∃ k : Nat, 1 ≤ k ∧ k ≤ n ∧ i = .int .i64 k ∧ Hid (∀ t, 0 < t → t < k → x t ≠ x (t - 1)) ∧ Keeps w wr) (fun i _ => n - (intOf i).toNat)
    case atStart => exact ⟨1, Nat.le_refl _, by omega, rfl, Lib.hid (fun t h1 h2 => by omega), Keeps.refl _⟩
    case round =>
      obtain ⟨k, hk1, hk, rfl, HD, hK⟩ := hrel
      by_cases hlt : k < n
      · have hki : (k : Int) < n := by omega
        have hk1i : (1 : Int) ≤ k := by omega
        obtain ⟨j, hj⟩ : ∃ j, k = j + 1 := ⟨k - 1, by omega⟩
        have hjn : (j : Int) < n := by omega
        have hjn2 : j < n := by omega
        have W1 : IntKind.i64.wrap ((k : Int) - 1) = (j : Int) := by rw [IntKind.wrap_i64]; omega
        have hO1 := HO.out.keeps hK
        have c1 := hO1.cell k hlt
        have c0 := hO1.cell j hjn2
        rw [il_getD _ _ _ hlt] at c1
        rw [il_getD _ _ _ hjn2] at c0
        have HJ : Hid (j = k - 1) := Lib.hid (by omega)
        have HO1 := Lib.hid hO1
        clear hO1 hj
        cases e1 : (x k == x j)
        · go_wp2_with fail
          go_quiet (fail)
          go_wp2
          go_roundw
          case rel =>
            refine ⟨k + 1, by omega, by omega, by go_num, Lib.hid (fun t h1 h2 => ?_), hK.step (Keeps.drewN _ _)⟩
            by_cases e : t = k
            · rw [e, ← HJ.out]; simpa using e1
            · exact HD.out t h1 (by omega)
          case measure => simp [intOf]; omega
        · have HEQ : Hid (x k = x (k - 1)) := Lib.hid (by rw [← HJ.out]; simpa using e1)
          have hkc : (k : Int) ≤ c := by have := own_cap HO1.out; omega
          have hnc : (n : Int) ≤ c := by have := own_cap HO1.out; omega
          have hkn : (k : Int) ≤ n := by omega
          obtain ⟨k0, hk0⟩ : ∃ k0, k0 = k := ⟨k, rfl⟩
          go_wp2_with fail
          go_quiet (fail)
          have HOa := Lib.hid (HO1.out.keeps (Keeps.drewN wr nq))
          have HKa := Lib.hid ((HW.out.step hK).step (Keeps.drewN wr nq))
          have hgn := HO.out.block
          have HG1 := Lib.hid (Nat.le_trans hlo hgn.1)
          clear HO1 hK c0 c1 hgn
          generalize wr.drewN nq = wa at *
          go_wp2_with fail
          go_loopw [5, 3] (fun b a wr => ∃ (q v : Nat) (l' : List Int), 1 ≤ q ∧ k + q ≤ n ∧ k ≤ v ∧ v < k + q ∧ b = .int .i64 q ∧ a = .int .i64 v ∧ OwnInts wr lo (some ⟨g, 0, none⟩) n c l' ∧ Hid (∀ t, k + q ≤ t + 1 → t < n → l'.getD t 0 = x t) ∧ Hid ((v = k ∧ ∀ t, k < t → t < k + q → x t = x (t - 1)) ∨ (k < v ∧ ∃ t, k < t ∧ t < k + q ∧ x t ≠ x (t - 1))) ∧ Keeps w0 wr) (fun b _ _ => n - (intOf b).toNat)
          case atStart => exact ⟨1, k, _, Nat.le_refl _, by omega, Nat.le_refl _, by omega, rfl, rfl, HOa.out, Lib.hid (fun t _ h2 => il_getD _ _ _ h2), Lib.hid (.inl ⟨rfl, fun t h1 h2 => by omega⟩), HKa.out⟩
          case round =>
            clear HOa HKa
            obtain ⟨q, v, l', hq1, hqn, hv1, hv2, rfl, rfl, hO, hR, hC, hK⟩ := hrel
            have hvi : (v : Int) < n := by omega
            have hvn : v < n := by omega
            by_cases hlq : k + q < n
            · have hqi : (q : Int) < ((n - k : Nat) : Int) := by omega
              have hqi2 : (q : Int) < (n : Int) - k := by omega
              have hqi3 : q < n - k := by omega
              obtain ⟨q1, hq1e⟩ : ∃ q1, q = q1 + 1 := ⟨q - 1, by omega⟩
              have W2 : IntKind.i64.wrap ((q : Int) - 1) = (q1 : Int) := by rw [IntKind.wrap_i64]; omega
              have hq1i : (q1 : Int) < ((n - k : Nat) : Int) := by omega
              have hq1i3 : q1 < n - k := by omega
              have d1 := hO.cell (k + q) hlq
              have d0 := hO.cell (k + q1) (by omega)
              rw [hR.out (k + q) (by omega) hlq] at d1
              rw [hR.out (k + q1) (by omega) (by omega)] at d0
              have dv := hO.cell v hvn
              have fv := hO.frozen v
              have HQ1 : Hid (k + q1 = k + q - 1) := Lib.hid (by omega)
              have HOq := Lib.hid hO
              have HLO := Lib.hid (Nat.le_trans hlo hO.block.1)
              generalize l'.getD v 0 = old at *
              clear hO hq1e
              cases e2 : (x (k + q) != x (k + q1))
              · have HEQ2 : Hid (x (k + q) = x (k + q - 1)) := Lib.hid (by rw [← HQ1.out]; simpa using e2)
                go_wp2_with fail
                go_quiet (fail)
                go_wp2
                go_roundw
                case rel =>
                  refine ⟨q + 1, v, l', by omega, by omega, hv1, by omega, by go_num, rfl, HOq.out.keeps (Keeps.drewN _ _), Lib.hid (fun t h1 h2 => hR.out t (by omega) h2), Lib.hid ?_, hK.step (Keeps.drewN _ _)⟩
                  rcases hC.out with ⟨h1, h2⟩ | ⟨h1, t, h2, h3, h4⟩
                  · refine .inl ⟨h1, fun t h3 h4 => ?_⟩
                    by_cases e : t = k + q
                    · rw [e]; exact HEQ2.out
                    · exact h2 t h3 (by omega)
                  · exact .inr ⟨h1, t, h2, by omega, h4⟩
                case measure => simp [intOf]; omega
              · have HNE2 : Hid (x (k + q) ≠ x (k + q - 1)) := Lib.hid (by rw [← HQ1.out]; simpa using e2)
                go_wp2_with fail
                go_quiet (fail)
                go_wp2
                go_roundw
                case rel =>
                  refine ⟨q + 1, v + 1, l'.set v (x (k + q)), by omega, by omega, by omega, by omega, by go_num, by go_num, (HOq.out.keeps (Keeps.drewN _ _)).set v _, Lib.hid (fun t h1 h2 => ?_), Lib.hid (.inr ⟨by omega, k + q, by omega, by omega, HNE2.out⟩), Below.setCell (hK.step (Keeps.drewN _ _)) HLO.out _⟩
                  rw [List.getD_eq_getElem?_getD, List.getElem?_set, if_neg (by omega), ← List.getD_eq_getElem?_getD]
                  exact hR.out t (by omega) h2
                case measure => simp [intOf]; omega
            · have hqn2 : k + q = n := by omega
              have hqi : ¬ ((q : Int) < ((n - k : Nat) : Int)) := by omega
              have hqi3 : ¬ (q < n - k) := by omega
              have hvc : (v : Int) ≤ c := by omega
              have hvn' : (v : Int) ≤ n := by omega
              have HFIN : Hid (v < 2 ↔ ∀ i j, i < n → j < n → x i = x j) := Lib.hid ⟨fun hv => by
                rcases hC.out with ⟨h1, h2⟩ | ⟨h1, _⟩
                · have hk1' : k = 1 := by omega
                  have hall := all_next n x (fun t h3 h4 => by
                    by_cases e : t = 1
                    · rw [e, ← hk1']; rw [hk1']; have := HEQ.out; rw [hk1'] at this; exact this
                    · exact h2 t (by omega) (by omega))
                  intro i j hi hj
                  rw [hall i hi, hall j hj]
                · omega, fun hall => by
                have hk1' : k < 2 := by
                  apply Classical.byContradiction
                  intro hk2
                  exact HD.out 1 (by omega) (by omega) (hall 1 0 (by omega) (by omega))
                rcases hC.out with ⟨h1, h2⟩ | ⟨h1, t, h2, h3, h4⟩
                · omega
                · exact absurd (hall t (t - 1) (by omega) (by omega)) h4⟩
              have hcl : ∀ ty, (Builtin.clear_ #[23] ty #[.slice (some ⟨g, v, none⟩) (n - v) (c - v)]).run Try.prog wr = .ok (.tuple #[]) (wr.setCells g v (List.replicate (n - v) (.int .i64 0))) :=
                fun ty => Lib.run_clear_slice wr _ _ ty _ Try.underlying23 (fun w => rfl) rfl rfl g v _ _ (by omega) (fun j hj => by rw [hO.cell (v + j) (by omega)]; rfl) (fun j hj => hO.frozen _)
              have HK := Lib.hid (keeps_setCells (g := g) (Nat.le_trans hlo hO.block.1) (List.replicate (n - v) (.int .i64 0)) v hK)
              clear hO hK hC hR
              go_wp2
              go_ret
              exact ⟨v, rfl, HFIN.out, HK.out⟩
      · obtain rfl : k = n := by omega
        have HNO : Hid (k < 2 ↔ ∀ i j, i < k → j < k → x i = x j) := Lib.hid ⟨fun h => absurd h h2, fun h => absurd (h 1 0 (by omega) (by omega)) (HD.out 1 (by omega) (by omega))⟩
        go_wp2
        go_ret
        exact ⟨k, rfl, HNO.out, HW.out.step hK⟩
end Go.Proofs.Ytepgogaoppdllaa
