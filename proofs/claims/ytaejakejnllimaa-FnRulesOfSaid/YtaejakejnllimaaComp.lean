/-
  slices.Equal at []int (it only reads and draws), and slices.CompactFunc with it on a list of lists that is the call's own. Condition: lengths at most 100000.
-/
import Derived.Test.YtaejakejnllimaaSrt
import Derived.Lib.SliceRun
import Derived.Deep.QuietTactic
import Derived.BigQuiet
namespace Go.Proofs.Ytaejakejnllimaa
set_option maxRecDepth 100000
set_option linter.unusedVariables false
open Go.RowKit

theorem lists_ne (l m : List Int) (h : l.length = m.length) : (!anyB (fun i => l.getD i 0 != m.getD i 0) l.length) = decide (l = m) := by
  by_cases e : l = m
  · subst e
    rw [(anyB_false _ _).2 (fun i _ => by simp)]
    simp
  · have : anyB (fun i => l.getD i 0 != m.getD i 0) l.length = true := by
      cases h2 : anyB (fun i => l.getD i 0 != m.getD i 0) l.length
      · rw [anyB_false] at h2
        refine absurd (List.ext_getElem h fun i h3 h4 => ?_) e
        have := h2 i h3
        simpa [List.getD_eq_getElem?_getD, List.getElem?_eq_getElem h3, List.getElem?_eq_getElem h4] using this
      · rfl
    rw [this]
    simp [e]
set_option maxHeartbeats 400000 in
theorem slEqualQ_any (a b : Option Addr) (c d : Nat) (l m : List Int) (w : World) (hn : l.length ≤ 1099511627776) (hm : m.length ≤ 1099511627776) (hx : Ints w a l.length (fun i => l.getD i 0)) (hy : Ints w b m.length (fun i => m.getD i 0)) :
    Calls Try.prog 64 #[.slice a l.length c, .slice b m.length d] w fun e w' => e = .returned (.bool (decide (l = m))) ∧ ∃ q, w' = w.drewN q := by
  have HX := Lib.hid hx
  have HY := Lib.hid hy
  have HE := Lib.hid (lists_ne l m)
  have HE2 : Hid (l.length ≠ m.length → decide (l = m) = false) := Lib.hid (fun h => by simp; intro e; exact h (by rw [e]))
  clear hx hy
  generalize decide (l = m) = V at *
  generalize hx0 : (fun i => l.getD i 0) = x at *
  generalize hy0 : (fun i => m.getD i 0) = y at *
  have hxy : (fun i => l.getD i 0 != m.getD i 0) = fun i => x i != y i := by rw [← hx0, ← hy0]
  rw [hxy] at HE
  clear hxy hx0 hy0
  generalize l.length = n at *
  generalize m.length = k at *
  by_cases hnm : n = k
  · subst hnm
    have hne : ((n : Int) != (n : Int)) = false := by simp
    have HV := Lib.hid (HE.out rfl)
    clear HE HE2
    go_enter Try.func64, Try.ntmps64
    go_wp2
    go_loopw [13] (fun i wr => ∃ k : Nat, k ≤ n ∧ i = .int .i64 k ∧ Hid (anyB (fun i => x i != y i) k = false) ∧ Hid (∃ q, wr = w.drewN q)) (fun i _ => n - (intOf i).toNat)
    case atStart => exact ⟨0, by omega, rfl, Lib.hid rfl, Lib.hid ⟨0, rfl⟩⟩
    case round =>
      obtain ⟨k, hk, rfl, hb, HK⟩ := hrel
      have hK : Keeps w wr := by obtain ⟨q, e⟩ := HK.out; rw [e]; exact Keeps.drewN w q
      by_cases hlt : k < n
      · have hlt' : (k : Int) < n := by omega
        obtain ⟨b1, o1, e1, hc1⟩ := HX.out.keeps hK k hlt
        obtain ⟨b2, o2, e2, hc2⟩ := HY.out.keeps hK k hlt
        subst e1
        subst e2
        clear hK
        have HS := Lib.hid (show anyB (fun i => x i != y i) (k + 1) = (anyB (fun i => x i != y i) k || (x k != y k)) from rfl)
        have HB2 : Hid ((x k != y k) = true → anyB (fun i => x i != y i) n = true) := Lib.hid (fun h => (anyB_iff _ _).2 ⟨k, hlt, h⟩)
        generalize x k = u at *
        generalize y k = v at *
        cases hpk : (u != v)
        · have HP := Lib.hid hpk
          go_wp2_with fail
          go_quiet (fail)
          go_wp2
          go_roundw
          case rel => exact ⟨k + 1, by omega, by go_num, Lib.hid (by rw [HS.out, hb.out, HP.out]; rfl), Lib.hid (by obtain ⟨q, e⟩ := HK.out; exact ⟨q + nq, by rw [e, World.drewN_drewN]⟩)⟩
          case measure => simp [intOf]; omega
        · have HP := Lib.hid hpk
          have HVF : Hid (false = V) := Lib.hid (by rw [← HV.out, HB2.out HP.out]; rfl)
          go_wp2_with fail
          go_quiet (fail)
          go_wp2
          go_ret
          exact ⟨ret_bool HVF.out, by obtain ⟨q, e⟩ := HK.out; exact ⟨q + nq, by rw [e, World.drewN_drewN]⟩⟩
      · obtain rfl : k = n := by omega
        have HVT : Hid (true = V) := Lib.hid (by rw [← HV.out, hb.out]; rfl)
        clear hK
        go_wp2
        go_ret
        exact ⟨ret_bool HVT.out, HK.out⟩
  · have hne : ((n : Int) != (k : Int)) = true := by simp; omega
    have HV := Lib.hid (HE2.out hnm).symm
    clear hnm HE HE2
    go_enter Try.func64, Try.ntmps64
    go_wp2
    go_ret
    exact ⟨ret_bool HV.out, 0, rfl⟩
/-- The first of each run of equal lists, of the first j. -/
def compTo (R : List Hdr) : Nat → List Hdr
  | 0 => []
  | j + 1 => if 0 < j ∧ (R.getD j default).l = (R.getD (j - 1) default).l then compTo R j else compTo R j ++ [R.getD j default]
theorem take_snoc (R : List Hdr) (j : Nat) (hj : j < R.length) : R.take (j + 1) = R.take j ++ [R.getD j default] := by
  rw [List.take_add_one, List.getElem?_eq_getElem hj, List.getD_eq_getElem?_getD, List.getElem?_eq_getElem hj]
  rfl
theorem compTo_sub (R : List Hdr) : ∀ j, j ≤ R.length → (compTo R j).Sublist (R.take j)
  | 0, _ => by simp [compTo]
  | j + 1, h => by
    have ih := compTo_sub R j (by omega)
    rw [take_snoc R j (by omega)]
    unfold compTo
    split
    · exact ih.trans (List.sublist_append_left _ _)
    · exact List.Sublist.append ih (List.Sublist.refl _)
theorem compTo_len (R : List Hdr) (j : Nat) (h : j ≤ R.length) : (compTo R j).length ≤ j := by
  have := (compTo_sub R j h).length_le
  simp at this
  omega
theorem compL_snoc (x : List Int) : ∀ L, compL (L ++ [x]) = if L.getLast? = some x then compL L else compL L ++ [x]
  | [] => by simp [compL]
  | [y] => by
    simp only [List.singleton_append, compL, List.getLast?_singleton, Option.some.injEq]
    by_cases e : y = x
    · subst e; simp
    · simp [e]
  | y :: z :: L => by
    have ih := compL_snoc x (z :: L)
    have e1 : compL (y :: z :: L ++ [x]) = if y = z then compL (z :: L ++ [x]) else y :: compL (z :: L ++ [x]) := rfl
    have e2 : compL (y :: z :: L) = if y = z then compL (z :: L) else y :: compL (z :: L) := rfl
    rw [e1, e2, ih, show (y :: z :: L).getLast? = (z :: L).getLast? from by simp [List.getLast?_cons_cons]]
    by_cases h1 : y = z
    · rw [if_pos h1, if_pos h1]
    · rw [if_neg h1, if_neg h1]
      split <;> rfl
theorem compTo_map (R : List Hdr) : ∀ j, j ≤ R.length → (compTo R j).map (·.l) = compL ((R.take j).map (·.l))
  | 0, _ => by simp [compTo, compL]
  | j + 1, h => by
    have ih := compTo_map R j (by omega)
    rw [take_snoc R j (by omega), List.map_append, List.map_singleton, compL_snoc]
    have hlast : ((R.take j).map (·.l)).getLast? = if 0 < j then some (R.getD (j - 1) default).l else none := by
      cases j with
      | zero => simp
      | succ j =>
        rw [take_snoc R j (by omega), List.map_append, List.map_singleton, List.getLast?_concat]
        simp
    rw [hlast]
    unfold compTo
    by_cases h0 : 0 < j
    · rw [if_pos h0]
      by_cases e : (R.getD j default).l = (R.getD (j - 1) default).l
      · rw [if_pos ⟨h0, e⟩, if_pos (by rw [e]), ih]
      · rw [if_neg (fun h => e h.2), if_neg (fun h => e (Option.some.inj h).symm), List.map_append, ih]
        rfl
    · rw [if_neg h0, if_neg (fun h => h0 h.1), if_neg (by simp), List.map_append, ih]
      rfl
theorem compTo_all (R : List Hdr) : (compTo R R.length).map (·.l) = compL (R.map (·.l)) := by
  have := compTo_map R R.length (Nat.le_refl _)
  rwa [List.take_length] at this
theorem compTo_none (R : List Hdr) : ∀ k, k ≤ R.length → (∀ t, 0 < t → t < k → (R.getD t default).l ≠ (R.getD (t - 1) default).l) → compTo R k = R.take k
  | 0, _, _ => by simp [compTo]
  | k + 1, h, hn => by
    have ih := compTo_none R k (by omega) (fun t h1 h2 => hn t h1 (by omega))
    have e : compTo R (k + 1) = if 0 < k ∧ (R.getD k default).l = (R.getD (k - 1) default).l then compTo R k else compTo R k ++ [R.getD k default] := rfl
    rw [take_snoc R k (by omega), e, if_neg (fun h => hn k h.1 (by omega) h.2), ih]
/-- The list as it is when j places are done. -/
def compSt (R : List Hdr) (j : Nat) : List Hdr := compTo R j ++ R.drop (compTo R j).length
theorem compSt_len (R : List Hdr) (j : Nat) (h : j ≤ R.length) : (compSt R j).length = R.length := by
  have := compTo_len R j h
  simp [compSt]
  omega
theorem compSt_at (R : List Hdr) (j i : Nat) (h : (compTo R j).length ≤ i) : (compSt R j).getD i default = R.getD i default := by
  unfold compSt
  rw [List.getD_eq_getElem?_getD, List.getElem?_append_right h, List.getElem?_drop, List.getD_eq_getElem?_getD]
  rw [show (compTo R j).length + (i - (compTo R j).length) = i by omega]
theorem compSt_skip (R : List Hdr) (j : Nat) (h : 0 < j ∧ (R.getD j default).l = (R.getD (j - 1) default).l) : compSt R (j + 1) = compSt R j ∧ (compTo R (j + 1)).length = (compTo R j).length := by
  have : compTo R (j + 1) = compTo R j := by rw [compTo, if_pos h]
  unfold compSt
  rw [this]
  exact ⟨rfl, rfl⟩
theorem compSt_set (R : List Hdr) (j : Nat) (hj : j < R.length) (h : ¬ (0 < j ∧ (R.getD j default).l = (R.getD (j - 1) default).l)) : compSt R (j + 1) = (compSt R j).set (compTo R j).length (R.getD j default) ∧ (compTo R (j + 1)).length = (compTo R j).length + 1 := by
  have hl := compTo_len R j (by omega)
  have e : compTo R (j + 1) = compTo R j ++ [R.getD j default] := by rw [compTo, if_neg h]
  refine ⟨?_, by rw [e]; simp⟩
  unfold compSt
  rw [e, List.set_append_right _ _ (Nat.le_refl _), Nat.sub_self, List.length_append, List.length_singleton, List.append_assoc]
  congr 1
  rw [List.drop_eq_getElem_cons (show (compTo R j).length < R.length by omega)]
  rfl
section
variable {w : World} {lo g m c : Nat} {R : List Hdr}
theorem Crd.set (h : Crd w lo (some ⟨g, 0, none⟩) m c R) (j : Nat) (x : Hdr) (hx : OwnInts w lo (some ⟨x.g, 0, none⟩) x.l.length x.d x.l) : Crd (w.setCell ⟨g, j, none⟩ x.v) lo (some ⟨g, 0, none⟩) m c (R.set j x) := by
  obtain ⟨cur, hcur, _⟩ := h.top_blk
  have hrow : ∀ y : Hdr, OwnInts w lo (some ⟨y.g, 0, none⟩) y.l.length y.d y.l → OwnInts (w.setCell ⟨g, j, none⟩ x.v) lo (some ⟨y.g, 0, none⟩) y.l.length y.d y.l := fun y hy =>
    own_kept hy (grown_set w g j _) (own_other hy hcur (by decide))
  refine ⟨?_, fun y hy => ?_⟩
  · have := (World.ownsRow.stored h.top j x.v).1
    rwa [List.map_set]
  · rcases List.mem_or_eq_of_mem_set hy with e | e
    · exact hrow y (h.row y e)
    · subst e; exact hrow y hx
theorem Crd.frozen (h : Crd w lo (some ⟨g, 0, none⟩) m c R) (j : Nat) : w.frozen? ⟨g, j, none⟩ = false := World.ownsRow.frozenAt h.top j
theorem Crd.cellD (h : Crd w lo (some ⟨g, 0, none⟩) m c R) (i : Nat) (hi : i < m) : w.cell? ⟨g, i, none⟩ = some (R.getD i default).v := by
  have := h.len
  rw [h.cell i (by omega), List.getD_eq_getElem?_getD, List.getElem?_eq_getElem (by omega)]
  rfl
theorem Crd.rowD (h : Crd w lo (some ⟨g, 0, none⟩) m c R) (i : Nat) (hi : i < m) : OwnInts w lo (some ⟨(R.getD i default).g, 0, none⟩) (R.getD i default).l.length (R.getD i default).d (R.getD i default).l := by
  have := h.len
  refine h.row _ ?_
  rw [List.getD_eq_getElem?_getD, List.getElem?_eq_getElem (by omega)]
  exact List.getElem_mem _
end
/-- A list of lists that is read. -/
structure Crn (w : World) (lo : Nat) (A : Option Addr) (m : Nat) (R : List Hdr) : Prop where
  len : R.length = m
  top : m = 0 ∨ ∃ g cur, A = some ⟨g, 0, none⟩ ∧ lo ≤ g ∧ Blk w g 23 cur ∧ cur.toList.take m = R.map Hdr.v
  row : ∀ h ∈ R, OwnInts w lo (some ⟨h.g, 0, none⟩) h.l.length h.d h.l
theorem Crd.crn {w : World} {lo m c : Nat} {A : Option Addr} {R : List Hdr} (h : Crd w lo A m c R) : Crn w lo A m R := by
  refine ⟨h.len, ?_, h.row⟩
  by_cases hm : m = 0
  · exact .inl hm
  · obtain ⟨g, rfl, _⟩ := h.at (by omega)
    obtain ⟨cur, h1, h2, _, _, _, h6⟩ := h.top_blk
    exact .inr ⟨g, cur, rfl, h2, h1, h6⟩
theorem setCells_blk {g : Nat} {T : TypeId} : ∀ (vs : List Value) (o : Nat) {w : World} {cur : Array Value}, Blk w g T cur → ∃ cur', Blk (w.setCells g o vs) g T cur' ∧ cur'.toList.take o = cur.toList.take o ∧ ∀ i, i ≠ g → (w.setCells g o vs).heap[i]? = w.heap[i]?
  | [], o, w, cur, h => ⟨cur, h, rfl, fun _ _ => rfl⟩
  | v :: vs, o, w, cur, h => by
    obtain ⟨cur', h1, h2, h3⟩ := setCells_blk vs (o + 1) (h.set o v)
    refine ⟨cur', h1, ?_, fun i hi => (h3 i hi).trans (Below.heap_setCell _ _ _ _ hi)⟩
    have := congrArg (List.take o) h2
    rw [List.take_take, List.take_take, show min o (o + 1) = o by omega] at this
    rw [this]
    rw [Array.toList_setIfInBounds, List.take_set, List.set_eq_of_length_le (by simp; omega)]
theorem keeps_setCells {w0 : World} {g : Nat} (hg : w0.heap.size ≤ g) : ∀ (vs : List Value) (o : Nat) {w : World}, Keeps w0 w → Keeps w0 (w.setCells g o vs)
  | [], _, _, h => h
  | v :: vs, o, _, h => keeps_setCells hg vs (o + 1) (Below.setCell h hg v)
end Go.Proofs.Ytaejakejnllimaa
