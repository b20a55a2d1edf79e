/-
  Lists of crowds in memory, and slices.SortFunc on them. Conditions: bounds on lengths.
-/
import Derived.Test.YtlniogfinofakaaGreatDoorRuAx
import Derived.Test.YtlniogfinofakaaGreatDoorRuBf
import Derived.Test.YtlniogfinofakaaGreatDoorRuAg
import Derived.Lib.SliceRun
import Derived.Deep.QuietTactic
import Derived.BigQuiet
namespace Go.Proofs.YtlniogfinofakaaGreatDoor
set_option maxRecDepth 100000
set_option maxRecDepth 100000
set_option linter.unusedVariables false
open Go.RowKit Go.Sort

/-- A list in memory: its block, its spare as the slice says and as it is, its numbers. -/
structure Hdr where
  g : Nat
  c : Nat
  d : Nat
  l : List Int
instance : Inhabited Hdr := ⟨⟨0, 0, 0, []⟩⟩
def Hdr.v (h : Hdr) : Value := .slice (some ⟨h.g, 0, none⟩) h.l.length h.c
/-- The call's own list of lists. -/
structure Crd (w : World) (lo : Nat) (A : Option Addr) (m c : Nat) (R : List Hdr) : Prop where
  top : w.ownsRow lo 45 1 (.slice A m c) m (R.map Hdr.v)
  row : ∀ h ∈ R, OwnInts w lo (some ⟨h.g, 0, none⟩) h.l.length h.d h.l
section
variable {w w' : World} {lo lo' m c : Nat} {A : Option Addr} {R : List Hdr}
theorem Crd.len (h : Crd w lo A m c R) : R.length = m := by have := h.top.1; simpa using this
theorem Crd.keeps (h : Crd w lo A m c R) (k : Keeps w w') : Crd w' lo A m c R := ⟨own_keeps h.top k, fun x hx => (h.row x hx).keeps k⟩
theorem own_mono {E : TypeId} {s : Nat} {xs : List Value} (h : w.ownsRow lo E s (.slice A m c) m xs) (hl : lo' ≤ lo) : w.ownsRow lo' E s (.slice A m c) m xs := by
  refine ⟨h.1, ?_⟩
  rcases h.2 with h2 | ⟨g, cap, cur, e, hg, r⟩
  · exact .inl h2
  · exact .inr ⟨g, cap, cur, e, Nat.le_trans hl hg, r⟩
theorem Crd.mono (h : Crd w lo A m c R) (hl : lo' ≤ lo) : Crd w lo' A m c R := ⟨own_mono h.top hl, fun x hx => (h.row x hx).mono hl⟩
theorem Crd.at (h : Crd w lo A m c R) (hm : 1 ≤ m) : ∃ g, A = some ⟨g, 0, none⟩ ∧ lo ≤ g ∧ g < w.heap.size := by
  rcases h.top.2 with ⟨_, h0⟩ | ⟨g, cap, cur, e, hb, hg, _⟩
  · omega
  · cases e; exact ⟨g, rfl, hb, (Array.getElem?_eq_some_iff.1 hg).1⟩
theorem Crd.cell {g : Nat} (h : Crd w lo (some ⟨g, 0, none⟩) m c R) (i : Nat) (hi : i < R.length) : w.cell? ⟨g, i, none⟩ = some (R[i].v) := by
  have := h.len
  rw [h.top.cellAt i (by omega)]
  simp [hi]
theorem Crd.top_blk {g : Nat} (h : Crd w lo (some ⟨g, 0, none⟩) m c R) : ∃ cur, Blk w g 45 cur ∧ lo ≤ g ∧ m ≤ c ∧ c ≤ maxLen ∧ cur.size = c ∧ cur.toList.take m = R.map Hdr.v := by
  rcases h.top.2 with ⟨h2, h0⟩ | ⟨g', cap, cur, e, hb, hg, h3, h4, h5, h6⟩
  · cases h2
  · cases e
    exact ⟨cur, hg, hb, h3, h4, by simpa using h5, by simpa using h6⟩
theorem Crd.ne {g : Nat} (h : Crd w lo (some ⟨g, 0, none⟩) m c R) (x : Hdr) (hx : x ∈ R) : g ≠ x.g := fun e => by
  obtain ⟨cur, hg, _⟩ := h.top_blk
  exact own_other' (h.row x hx) hg (by decide) (by rw [e]; rfl)
end
/-- Writing into the list's block leaves the rows. -/
theorem own_block_same {w w' : World} {lo g n c : Nat} {l : List Int} (h : OwnInts w lo (some ⟨g, 0, none⟩) n c l) (hs : w'.heap[g]? = w.heap[g]?) : OwnInts w' lo (some ⟨g, 0, none⟩) n c l := by
  refine ⟨h.1, ?_⟩
  rcases h.2 with ⟨h2, h0⟩ | ⟨g', cap, cur, e, hb, hg, rest⟩
  · exact .inl ⟨h2, h0⟩
  · cases e
    exact .inr ⟨g, _, cur, rfl, hb, hs.trans hg, rest⟩
section
variable {α : Type} [Inhabited α]
theorem sw_other (enc : α → Value) (w : World) (g n i : Nat) (d : Array α) (os : Array Obj) (hi : i < w.heap.size) (hne : i ≠ g) : (sortWorld enc w g 0 n d os).heap[i]? = w.heap[i]? := by
  show ((w.heap.modify g (onCells (putCells enc 0 d))) ++ os)[i]? = w.heap[i]?
  rw [Array.getElem?_append_left (by simpa using hi), Array.getElem?_modify, if_neg (fun e => hne e.symm)]
theorem sw_at (enc : α → Value) (w : World) (g n : Nat) (d : Array α) (os : Array Obj) {cur : Array Value} {T : TypeId} {fr : Nat × Nat} (h : w.heap[g]? = some (.cells cur T fr)) : (sortWorld enc w g 0 n d os).heap[g]? = some (.cells (putCells enc 0 d cur) T fr) := by
  show ((w.heap.modify g (onCells (putCells enc 0 d))) ++ os)[g]? = _
  have hg := (Array.getElem?_eq_some_iff.1 h).1
  rw [Array.getElem?_append_left (by simpa using hg), Array.getElem?_modify, if_pos rfl, h]
  rfl
theorem sw_grown (enc : α → Value) (w : World) (g n : Nat) (d : Array α) (os : Array Obj) : w.grownBy (sortWorld enc w g 0 n d os) (some g) :=
  ⟨rfl, rfl, rfl, by show w.heap.size ≤ ((w.heap.modify g (onCells (putCells enc 0 d))) ++ os).size; simp, fun i hi hn => sw_other enc w g n i d os hi (fun e => hn (by rw [e]))⟩
theorem put_take (enc : α → Value) (d : Array α) (cur : Array Value) (h : d.size ≤ cur.size) : (putCells enc 0 d cur).toList.take d.size = d.toList.map enc := by
  apply List.ext_getElem?
  intro i
  by_cases hi : i < d.size
  · rw [List.getElem?_take_of_lt hi]
    simp [putCells, show i < cur.size by omega, hi]
  · rw [List.getElem?_eq_none (by simp; omega), List.getElem?_eq_none (by simp; omega)]
end
theorem cmp_swo (R : List Hdr) : SWO (ltOf (fun (x y : {h : Hdr // h ∈ R}) => cmpL x.1.l y.1.l)) where
  irrefl x := ltL_irrefl _
  trans x y z h1 h2 := ltL_trans (x := x.1.l) (y := y.1.l) (z := z.1.l) h1 h2
  ntrans x y z h1 h2 := ltL_ntrans (x := x.1.l) (y := y.1.l) (z := z.1.l) h1 h2
theorem sort_any (g m c lo : Nat) (R : List Hdr) (w : World) (hR : Crd w lo (some ⟨g, 0, none⟩) m c R) (hm : 1 ≤ m) (hm2 : m ≤ 100000) (hl : ∀ h ∈ R, h.l.length ≤ 1000) :
    Calls Tryz.prog 157 #[.slice (some ⟨g, 0, none⟩) m c, .func (.func 158) #[] #[]] w fun e w' => e = .returned (.tuple #[]) ∧ ∃ R', R'.Perm R ∧ Crd w' lo (some ⟨g, 0, none⟩) m c R' ∧ R'.Pairwise (fun x y => ltL y.l x.l = false) ∧ w.grownBy w' (some g) := by
  have hlen := hR.len
  obtain ⟨r0, hr0⟩ : ∃ r0, r0 ∈ R := ⟨R[0]'(by omega), List.getElem_mem _⟩
  haveI : Inhabited {h : Hdr // h ∈ R} := ⟨⟨r0, hr0⟩⟩
  have eg : ∀ args w, (callFunc 158 args).run Tryz.prog w = .ok (.enter 158 args) w := fun _ _ => rfl
  have hsz : R.attach.toArray.size = m := by simp [hlen]
  obtain ⟨cur, hcur, hlog, hmc, hcm, hcs, htk⟩ := hR.top_blk
  have hcmp : CmpLays1 Tryz.prog 158 #[] (fun (x : {h : Hdr // h ∈ R}) => x.1.v) (fun x y => cmpL x.1.l y.1.l) g 0 R.attach.toArray.size w := fun mm os dk hdk x y => by
    have hrow : ∀ z : {h : Hdr // h ∈ R}, Ints (sortWorld (fun (x : {h : Hdr // h ∈ R}) => x.1.v) w g 0 mm dk os) (some ⟨z.1.g, 0, none⟩) z.1.l.length (fun i => z.1.l.getD i 0) := fun z =>
      (own_block_same (hR.row z.1 z.2) (sw_other _ w g mm z.1.g dk os (own_block (hR.row z.1 z.2) _ rfl).2 (fun e => hR.ne z.1 z.2 e.symm))).ints
    refine Calls.mono (slCompare_any _ _ x.1.c y.1.c x.1.l y.1.l _ (by have := hl _ x.2; omega) (by have := hl _ y.2; omega) (hrow x) (hrow y)) ?_
    rintro e w' ⟨rfl, rfl⟩
    exact ⟨rfl, 0, #[], by simp [World.drewN]⟩
  have hH : Holds (fun (x : {h : Hdr // h ∈ R}) => x.1.v) w g 0 R.attach.toArray := fun j hj => by
    have hj' : j < R.length := by simpa using hj
    refine ⟨?_, hcur.frozen _⟩
    rw [Nat.zero_add, hR.cell j hj']
    simp [hj']
  have hcon := Any.slices_SortFunc sortL (fun (x : {h : Hdr // h ∈ R}) => x.1.v) (fun _ => rfl) (fun x y => cmpL x.1.l y.1.l) (cmp_swo R) 158 #[] g 0 c R.attach.toArray w eg hcmp hH hcur.lt (by rw [hsz]; omega)
  rw [hsz] at hcon
  refine Calls.mono hcon ?_
  rintro e w' ⟨rfl, d', n, os, hp, hs, rfl⟩
  have hds : d'.size = m := by rw [hp.1, hsz]
  have hperm : d'.toList.Perm R.attach := by
    have h := hp.2.2
    rw [Array.extract_eq_self_of_le (by omega), Array.extract_eq_self_of_le (by omega)] at h
    simpa using h
  have hR'p : (d'.toList.map (·.1)).Perm R := by
    have h := hperm.map (·.1)
    rwa [List.attach_map_subtype_val] at h
  refine ⟨rfl, d'.toList.map (·.1), hR'p, ⟨⟨by simp [hds], .inr ⟨g, c, _, rfl, hlog, sw_at _ w g n d' os hcur, hmc, hcm, ?_, ?_⟩⟩, fun h hh => ?_⟩, ?_, sw_grown _ w g n d' os⟩
  · simp [putCells, hcs]
  · have h := put_take (fun (x : {h : Hdr // h ∈ R}) => x.1.v) d' cur (by omega)
    rw [hds] at h
    rw [Nat.mul_one, h, List.map_map]
    rfl
  · have hh' := hR'p.mem_iff.1 hh
    exact own_block_same (hR.row h hh') (sw_other _ w g n h.g d' os (own_block (hR.row h hh') _ rfl).2 (fun e => hR.ne h hh' e.symm))
  · rw [List.pairwise_map, List.pairwise_iff_getElem]
    intro i j hi hj hij
    have h := hs i j (Nat.zero_le _) hij (by simpa [hds] using hj)
    rw [getElem!_pos d' i (by simpa using hi), getElem!_pos d' j (by simpa using hj)] at h
    have h2 : ltL d'[j].1.l d'[i].1.l = false := h
    simpa using h2
end Go.Proofs.YtlniogfinofakaaGreatDoor
/-
  slices.Equal at []int (it only reads and draws), and slices.CompactFunc with it on a list of lists that is the call's own. Condition: lengths at most 100000.
-/
namespace Go.Proofs.YtlniogfinofakaaGreatDoor
set_option maxRecDepth 100000
set_option maxRecDepth 100000
set_option linter.unusedVariables false
open Go.RowKit

theorem lists_ne (l m : List Int) (h : l.length = m.length) : (!anyB (fun i => l.getD i 0 != m.getD i 0) l.length) = decide (l = m) := by
  by_cases e : l = m
  · subst e
    rw [(anyB_false _ _).2 (fun i _ => by simp)]
    simp
  · have : anyB (fun i => l.getD i 0 != m.getD i 0) l.length = true := by
      cases h2 : anyB (fun i => l.getD i 0 != m.getD i 0) l.length
      · rw [anyB_false] at h2
        refine absurd (List.ext_getElem h fun i h3 h4 => ?_) e
        have := h2 i h3
        simpa [List.getD_eq_getElem?_getD, List.getElem?_eq_getElem h3, List.getElem?_eq_getElem h4] using this
      · rfl
    rw [this]
    simp [e]
set_option maxHeartbeats 400000 in
theorem slEqualQ_any (a b : Option Addr) (c d : Nat) (l m : List Int) (w : World) (hn : l.length ≤ 1099511627776) (hm : m.length ≤ 1099511627776) (hx : Ints w a l.length (fun i => l.getD i 0)) (hy : Ints w b m.length (fun i => m.getD i 0)) :
    Calls Tryz.prog 135 #[.slice a l.length c, .slice b m.length d] w fun e w' => e = .returned (.bool (decide (l = m))) ∧ ∃ q, w' = w.drewN q := by
  have HX := Lib.hid hx
  have HY := Lib.hid hy
  have HE := Lib.hid (lists_ne l m)
  have HE2 : Hid (l.length ≠ m.length → decide (l = m) = false) := Lib.hid (fun h => by simp; intro e; exact h (by rw [e]))
  clear hx hy
  generalize decide (l = m) = V at *
  generalize hx0 : (fun i => l.getD i 0) = x at *
  generalize hy0 : (fun i => m.getD i 0) = y at *
  have hxy : (fun i => l.getD i 0 != m.getD i 0) = fun i => x i != y i := by rw [← hx0, ← hy0]
  rw [hxy] at HE
  clear hxy hx0 hy0
  generalize l.length = n at *
  generalize m.length = k at *
  by_cases hnm : n = k
  · subst hnm
    have hne : ((n : Int) != (n : Int)) = false := by simp
    have HV := Lib.hid (HE.out rfl)
    clear HE HE2
    go_enter Tryz.func135, Tryz.ntmps135
    go_wp2
    go_loopw [13] (fun i wr => ∃ k : Nat, k ≤ n ∧ i = .int .i64 k ∧ Hid (anyB (fun i => x i != y i) k = false) ∧ Hid (∃ q, wr = w.drewN q)) (fun i _ => n - (intOf i).toNat)
    case atStart => exact ⟨0, by omega, rfl, Lib.hid rfl, Lib.hid ⟨0, rfl⟩⟩
    case round =>
      obtain ⟨k, hk, rfl, hb, HK⟩ := hrel
      have hK : Keeps w wr := by obtain ⟨q, e⟩ := HK.out; rw [e]; exact Keeps.drewN w q
      by_cases hlt : k < n
      · have hlt' : (k : Int) < n := by omega
        obtain ⟨b1, o1, e1, hc1⟩ := HX.out.keeps hK k hlt
        obtain ⟨b2, o2, e2, hc2⟩ := HY.out.keeps hK k hlt
        subst e1
        subst e2
        clear hK
        have HS := Lib.hid (show anyB (fun i => x i != y i) (k + 1) = (anyB (fun i => x i != y i) k || (x k != y k)) from rfl)
        have HB2 : Hid ((x k != y k) = true → anyB (fun i => x i != y i) n = true) := Lib.hid (fun h => (anyB_iff _ _).2 ⟨k, hlt, h⟩)
        generalize x k = u at *
        generalize y k = v at *
        cases hpk : (u != v)
        · have HP := Lib.hid hpk
          go_wp2_with fail
          go_quiet (fail)
          go_wp2
          go_roundw
          case rel => exact ⟨k + 1, by omega, by go_num, Lib.hid (by rw [HS.out, hb.out, HP.out]; rfl), Lib.hid (by obtain ⟨q, e⟩ := HK.out; exact ⟨q + nq, by rw [e, World.drewN_drewN]⟩)⟩
          case measure => simp [intOf]; omega
        · have HP := Lib.hid hpk
          have HVF : Hid (false = V) := Lib.hid (by rw [← HV.out, HB2.out HP.out]; rfl)
          go_wp2_with fail
          go_quiet (fail)
          go_wp2
          go_ret
          exact ⟨ret_bool HVF.out, by obtain ⟨q, e⟩ := HK.out; exact ⟨q + nq, by rw [e, World.drewN_drewN]⟩⟩
      · obtain rfl : k = n := by omega
        have HVT : Hid (true = V) := Lib.hid (by rw [← HV.out, hb.out]; rfl)
        clear hK
        go_wp2
        go_ret
        exact ⟨ret_bool HVT.out, HK.out⟩
  · have hne : ((n : Int) != (k : Int)) = true := by simp; omega
    have HV := Lib.hid (HE2.out hnm).symm
    clear hnm HE HE2
    go_enter Tryz.func135, Tryz.ntmps135
    go_wp2
    go_ret
    exact ⟨ret_bool HV.out, 0, rfl⟩
/-- The first of each run of equal lists, of the first j. -/
def compTo (R : List Hdr) : Nat → List Hdr
  | 0 => []
  | j + 1 => if 0 < j ∧ (R.getD j default).l = (R.getD (j - 1) default).l then compTo R j else compTo R j ++ [R.getD j default]
theorem take_snoc (R : List Hdr) (j : Nat) (hj : j < R.length) : R.take (j + 1) = R.take j ++ [R.getD j default] := by
  rw [List.take_add_one, List.getElem?_eq_getElem hj, List.getD_eq_getElem?_getD, List.getElem?_eq_getElem hj]
  rfl
theorem compTo_sub (R : List Hdr) : ∀ j, j ≤ R.length → (compTo R j).Sublist (R.take j)
  | 0, _ => by simp [compTo]
  | j + 1, h => by
    have ih := compTo_sub R j (by omega)
    rw [take_snoc R j (by omega)]
    unfold compTo
    split
    · exact ih.trans (List.sublist_append_left _ _)
    · exact List.Sublist.append ih (List.Sublist.refl _)
theorem compTo_len (R : List Hdr) (j : Nat) (h : j ≤ R.length) : (compTo R j).length ≤ j := by
  have := (compTo_sub R j h).length_le
  simp at this
  omega
theorem compL_snoc (x : List Int) : ∀ L, compL (L ++ [x]) = if L.getLast? = some x then compL L else compL L ++ [x]
  | [] => by simp [compL]
  | [y] => by
    simp only [List.singleton_append, compL, List.getLast?_singleton, Option.some.injEq]
    by_cases e : y = x
    · subst e; simp
    · simp [e]
  | y :: z :: L => by
    have ih := compL_snoc x (z :: L)
    have e1 : compL (y :: z :: L ++ [x]) = if y = z then compL (z :: L ++ [x]) else y :: compL (z :: L ++ [x]) := rfl
    have e2 : compL (y :: z :: L) = if y = z then compL (z :: L) else y :: compL (z :: L) := rfl
    rw [e1, e2, ih, show (y :: z :: L).getLast? = (z :: L).getLast? from by simp [List.getLast?_cons_cons]]
    by_cases h1 : y = z
    · rw [if_pos h1, if_pos h1]
    · rw [if_neg h1, if_neg h1]
      split <;> rfl
theorem compTo_map (R : List Hdr) : ∀ j, j ≤ R.length → (compTo R j).map (·.l) = compL ((R.take j).map (·.l))
  | 0, _ => by simp [compTo, compL]
  | j + 1, h => by
    have ih := compTo_map R j (by omega)
    rw [take_snoc R j (by omega), List.map_append, List.map_singleton, compL_snoc]
    have hlast : ((R.take j).map (·.l)).getLast? = if 0 < j then some (R.getD (j - 1) default).l else none := by
      cases j with
      | zero => simp
      | succ j =>
        rw [take_snoc R j (by omega), List.map_append, List.map_singleton, List.getLast?_concat]
        simp
    rw [hlast]
    unfold compTo
    by_cases h0 : 0 < j
    · rw [if_pos h0]
      by_cases e : (R.getD j default).l = (R.getD (j - 1) default).l
      · rw [if_pos ⟨h0, e⟩, if_pos (by rw [e]), ih]
      · rw [if_neg (fun h => e h.2), if_neg (fun h => e (Option.some.inj h).symm), List.map_append, ih]
        rfl
    · rw [if_neg h0, if_neg (fun h => h0 h.1), if_neg (by simp), List.map_append, ih]
      rfl
theorem compTo_all (R : List Hdr) : (compTo R R.length).map (·.l) = compL (R.map (·.l)) := by
  have := compTo_map R R.length (Nat.le_refl _)
  rwa [List.take_length] at this
theorem compTo_none (R : List Hdr) : ∀ k, k ≤ R.length → (∀ t, 0 < t → t < k → (R.getD t default).l ≠ (R.getD (t - 1) default).l) → compTo R k = R.take k
  | 0, _, _ => by simp [compTo]
  | k + 1, h, hn => by
    have ih := compTo_none R k (by omega) (fun t h1 h2 => hn t h1 (by omega))
    have e : compTo R (k + 1) = if 0 < k ∧ (R.getD k default).l = (R.getD (k - 1) default).l then compTo R k else compTo R k ++ [R.getD k default] := rfl
    rw [take_snoc R k (by omega), e, if_neg (fun h => hn k h.1 (by omega) h.2), ih]
/-- The list as it is when j places are done. -/
def compSt (R : List Hdr) (j : Nat) : List Hdr := compTo R j ++ R.drop (compTo R j).length
theorem compSt_len (R : List Hdr) (j : Nat) (h : j ≤ R.length) : (compSt R j).length = R.length := by
  have := compTo_len R j h
  simp [compSt]
  omega
theorem compSt_at (R : List Hdr) (j i : Nat) (h : (compTo R j).length ≤ i) : (compSt R j).getD i default = R.getD i default := by
  unfold compSt
  rw [List.getD_eq_getElem?_getD, List.getElem?_append_right h, List.getElem?_drop, List.getD_eq_getElem?_getD]
  rw [show (compTo R j).length + (i - (compTo R j).length) = i by omega]
theorem compSt_skip (R : List Hdr) (j : Nat) (h : 0 < j ∧ (R.getD j default).l = (R.getD (j - 1) default).l) : compSt R (j + 1) = compSt R j ∧ (compTo R (j + 1)).length = (compTo R j).length := by
  have : compTo R (j + 1) = compTo R j := by rw [compTo, if_pos h]
  unfold compSt
  rw [this]
  exact ⟨rfl, rfl⟩
theorem compSt_set (R : List Hdr) (j : Nat) (hj : j < R.length) (h : ¬ (0 < j ∧ (R.getD j default).l = (R.getD (j - 1) default).l)) : compSt R (j + 1) = (compSt R j).set (compTo R j).length (R.getD j default) ∧ (compTo R (j + 1)).length = (compTo R j).length + 1 := by
  have hl := compTo_len R j (by omega)
  have e : compTo R (j + 1) = compTo R j ++ [R.getD j default] := by rw [compTo, if_neg h]
  refine ⟨?_, by rw [e]; simp⟩
  unfold compSt
  rw [e, List.set_append_right _ _ (Nat.le_refl _), Nat.sub_self, List.length_append, List.length_singleton, List.append_assoc]
  congr 1
  rw [List.drop_eq_getElem_cons (show (compTo R j).length < R.length by omega)]
  rfl
section
variable {w : World} {lo g m c : Nat} {R : List Hdr}
theorem Crd.set (h : Crd w lo (some ⟨g, 0, none⟩) m c R) (j : Nat) (x : Hdr) (hx : OwnInts w lo (some ⟨x.g, 0, none⟩) x.l.length x.d x.l) : Crd (w.setCell ⟨g, j, none⟩ x.v) lo (some ⟨g, 0, none⟩) m c (R.set j x) := by
  obtain ⟨cur, hcur, _⟩ := h.top_blk
  have hrow : ∀ y : Hdr, OwnInts w lo (some ⟨y.g, 0, none⟩) y.l.length y.d y.l → OwnInts (w.setCell ⟨g, j, none⟩ x.v) lo (some ⟨y.g, 0, none⟩) y.l.length y.d y.l := fun y hy =>
    own_kept hy (grown_set w g j _) (own_other hy hcur (by decide))
  refine ⟨?_, fun y hy => ?_⟩
  · have := (World.ownsRow.stored h.top j x.v).1
    rwa [List.map_set]
  · rcases List.mem_or_eq_of_mem_set hy with e | e
    · exact hrow y (h.row y e)
    · subst e; exact hrow y hx
theorem Crd.frozen (h : Crd w lo (some ⟨g, 0, none⟩) m c R) (j : Nat) : w.frozen? ⟨g, j, none⟩ = false := World.ownsRow.frozenAt h.top j
theorem Crd.cellD (h : Crd w lo (some ⟨g, 0, none⟩) m c R) (i : Nat) (hi : i < m) : w.cell? ⟨g, i, none⟩ = some (R.getD i default).v := by
  have := h.len
  rw [h.cell i (by omega), List.getD_eq_getElem?_getD, List.getElem?_eq_getElem (by omega)]
  rfl
theorem Crd.rowD (h : Crd w lo (some ⟨g, 0, none⟩) m c R) (i : Nat) (hi : i < m) : OwnInts w lo (some ⟨(R.getD i default).g, 0, none⟩) (R.getD i default).l.length (R.getD i default).d (R.getD i default).l := by
  have := h.len
  refine h.row _ ?_
  rw [List.getD_eq_getElem?_getD, List.getElem?_eq_getElem (by omega)]
  exact List.getElem_mem _
end
/-- A list of lists that is read. -/
structure Crn (w : World) (lo : Nat) (A : Option Addr) (m : Nat) (R : List Hdr) : Prop where
  len : R.length = m
  top : m = 0 ∨ ∃ g cur, A = some ⟨g, 0, none⟩ ∧ lo ≤ g ∧ Blk w g 45 cur ∧ cur.toList.take m = R.map Hdr.v
  row : ∀ h ∈ R, OwnInts w lo (some ⟨h.g, 0, none⟩) h.l.length h.d h.l
theorem Crd.crn {w : World} {lo m c : Nat} {A : Option Addr} {R : List Hdr} (h : Crd w lo A m c R) : Crn w lo A m R := by
  refine ⟨h.len, ?_, h.row⟩
  by_cases hm : m = 0
  · exact .inl hm
  · obtain ⟨g, rfl, _⟩ := h.at (by omega)
    obtain ⟨cur, h1, h2, _, _, _, h6⟩ := h.top_blk
    exact .inr ⟨g, cur, rfl, h2, h1, h6⟩
theorem setCells_blk {g : Nat} {T : TypeId} : ∀ (vs : List Value) (o : Nat) {w : World} {cur : Array Value}, Blk w g T cur → ∃ cur', Blk (w.setCells g o vs) g T cur' ∧ cur'.toList.take o = cur.toList.take o ∧ ∀ i, i ≠ g → (w.setCells g o vs).heap[i]? = w.heap[i]?
  | [], o, w, cur, h => ⟨cur, h, rfl, fun _ _ => rfl⟩
  | v :: vs, o, w, cur, h => by
    obtain ⟨cur', h1, h2, h3⟩ := setCells_blk vs (o + 1) (h.set o v)
    refine ⟨cur', h1, ?_, fun i hi => (h3 i hi).trans (Below.heap_setCell _ _ _ _ hi)⟩
    have := congrArg (List.take o) h2
    rw [List.take_take, List.take_take, show min o (o + 1) = o by omega] at this
    rw [this]
    rw [Array.toList_setIfInBounds, List.take_set, List.set_eq_of_length_le (by simp; omega)]
theorem keeps_setCells {w0 : World} {g : Nat} (hg : w0.heap.size ≤ g) : ∀ (vs : List Value) (o : Nat) {w : World}, Keeps w0 w → Keeps w0 (w.setCells g o vs)
  | [], _, _, h => h
  | v :: vs, o, _, h => keeps_setCells hg vs (o + 1) (Below.setCell h hg v)
end Go.Proofs.YtlniogfinofakaaGreatDoor
/-
  slices.CompactFunc with slices.Equal on a list of lists that is the call's own, and impl.sorted. Condition: lengths at most 100000.
-/
namespace Go.Proofs.YtlniogfinofakaaGreatDoor
set_option maxRecDepth 100000
set_option maxRecDepth 100000
set_option linter.unusedVariables false
open Go.RowKit

set_option maxRecDepth 100000 in
set_option maxHeartbeats 4000000 in
theorem compactF_any (g m c lo : Nat) (R : List Hdr) (w w0 : World) (hR : Crd w lo (some ⟨g, 0, none⟩) m c R) (hm2 : m ≤ 100000) (hl : ∀ h ∈ R, h.l.length ≤ 1000) (hw0 : Keeps w0 w) (hlo : w0.heap.size ≤ lo) :
    Calls Tryz.prog 159 #[.slice (some ⟨g, 0, none⟩) m c, .func (.func 135) #[] #[]] w fun e w' => ∃ R' k, e = .returned (.slice (some ⟨g, 0, none⟩) k c) ∧ R'.Sublist R ∧ R'.map (·.l) = compL (R.map (·.l)) ∧ Crn w' lo (some ⟨g, 0, none⟩) k R' ∧ k ≤ c ∧ Keeps w0 w' := by
  have hlen := hR.len
  have HR := Lib.hid hR
  have HW := Lib.hid hw0
  have HLN : Hid (∀ i, i < m → (R.getD i default).l.length ≤ 1000) := Lib.hid (fun i hi => by
    refine hl _ ?_
    rw [List.getD_eq_getElem?_getD, List.getElem?_eq_getElem (by omega)]
    exact List.getElem_mem _)
  obtain ⟨cur0, hcur0, hlog, hmc, hcm, _, _⟩ := hR.top_blk
  have hcx : c ≤ 9223372036854775807 := by unfold maxLen at hcm; omega
  have HMC := Lib.hid hmc
  have hgz := hcur0.lt
  clear hR hw0 hl hcur0 hcm hmc
  by_cases h2 : m < 2
  · have h2' : (m : Int) < 2 := by omega
    have HC : Hid (R.map (·.l) = compL (R.map (·.l))) := Lib.hid (by
      match R, hlen with
      | [], _ => rfl
      | [x], _ => rfl
      | x :: y :: R, h => simp at h; omega)
    go_enter Tryz.func159, Tryz.ntmps159
    go_wp2
    go_ret
    exact ⟨R, m, rfl, List.Sublist.refl _, HC.out, HR.out.crn, HMC.out, HW.out⟩
  · have h2' : ¬ ((m : Int) < 2) := by omega
    have HLEN := Lib.hid hlen
    clear hlen
    go_enter Tryz.func159, Tryz.ntmps159
    go_wp2_with fail
    go_loopw [5] (fun i wr => ∃ k : Nat, 1 ≤ k ∧ k ≤ m ∧ i = .int .i64 k ∧ Hid (∀ t, 0 < t → t < k → (R.getD t default).l ≠ (R.getD (t - 1) default).l) ∧ Hid (∃ q, wr = w.drewN q)) (fun i _ => m - (intOf i).toNat)
    case atStart => exact ⟨1, Nat.le_refl _, by omega, rfl, Lib.hid (fun t h1 h2 => by omega), Lib.hid ⟨0, rfl⟩⟩
    case round =>
      obtain ⟨k, hk1, hk, rfl, HD, HQ⟩ := hrel
      have hK : Keeps w wr := by obtain ⟨q, e⟩ := HQ.out; rw [e]; exact Keeps.drewN w q
      by_cases hlt : k < m
      · have hki : (k : Int) < m := by omega
        have hk1i : (1 : Int) ≤ k := by omega
        obtain ⟨j, hj⟩ : ∃ j, k = j + 1 := ⟨k - 1, by omega⟩
        have hjn : (j : Int) < m := by omega
        have hjn2 : j < m := by omega
        have W1 : IntKind.i64.wrap ((k : Int) - 1) = (j : Int) := by rw [IntKind.wrap_i64]; omega
        have hO1 := HR.out.keeps hK
        have c1 := hO1.cellD k hlt
        have c0 := hO1.cellD j hjn2
        have HJ : Hid (j = k - 1) := Lib.hid (by omega)
        have HE : Hid (∀ q, Calls Tryz.prog 135 #[(R.getD k default).v, (R.getD j default).v] (wr.drewN q) fun e w' => e = .returned (.bool (decide ((R.getD k default).l = (R.getD j default).l))) ∧ ∃ q', w' = (wr.drewN q).drewN q') := Lib.hid (fun q => slEqualQ_any _ _ _ _ _ _ _ (by have := HLN.out k hlt; omega) (by have := HLN.out j hjn2; omega) ((hO1.keeps (Keeps.drewN _ q)).rowD k hlt).ints ((hO1.keeps (Keeps.drewN _ q)).rowD j hjn2).ints)
        have HDk : Hid (decide ((R.getD k default).l = (R.getD j default).l) = false → (R.getD k default).l ≠ (R.getD (k - 1) default).l) := Lib.hid (fun h => by rw [← HJ.out]; exact of_decide_eq_false h)
        have HDe : Hid (decide ((R.getD k default).l = (R.getD j default).l) = true → (R.getD k default).l = (R.getD (k - 1) default).l) := Lib.hid (fun h => by rw [← HJ.out]; exact of_decide_eq_true h)
        clear hO1 hj hK
        unfold Hdr.v at c1 c0 HE
        generalize decide ((R.getD k default).l = (R.getD j default).l) = V at *
        generalize (R.getD k default).l.length = lk at *
        generalize (R.getD k default).g = gk at *
        generalize (R.getD k default).c = ck at *
        generalize (R.getD j default).l.length = lj at *
        generalize (R.getD j default).g = gj at *
        generalize (R.getD j default).c = cj at *
        cases V
        · have HDk2 := Lib.hid (HDk.out rfl)
          clear HDk HDe
          go_wp2_with fail
          go_quiet ((go_at_call 135; exact Calls.quiet_of (HE.out _)))
          go_wp2
          go_roundw
          case rel =>
            refine ⟨k + 1, by omega, by omega, by go_num, Lib.hid (fun t h1 h2 => ?_), Lib.hid (by obtain ⟨q, e⟩ := HQ.out; exact ⟨q + nq, by rw [e, World.drewN_drewN]⟩)⟩
            by_cases e : t = k
            · rw [e]; exact HDk2.out
            · exact HD.out t h1 (by omega)
          case measure => simp [intOf]; omega
        · have HEQ := Lib.hid (HDe.out rfl)
          have hkc : (k : Int) ≤ c := by have := HMC.out; omega
          have hnc : (m : Int) ≤ c := by have := HMC.out; omega
          have hkn : (k : Int) ≤ m := by omega
          go_wp2_with fail
          go_quiet ((go_at_call 135; exact Calls.quiet_of (HE.out _)))
          have HKa : Hid (Keeps w (wr.drewN nq)) := Lib.hid (by obtain ⟨q, e⟩ := HQ.out; rw [e, World.drewN_drewN]; exact Keeps.drewN w _)
          have HC0 : Hid (compTo R (k + 1) = R.take k) := Lib.hid (by
            have e : compTo R (k + 1) = if 0 < k ∧ (R.getD k default).l = (R.getD (k - 1) default).l then compTo R k else compTo R k ++ [R.getD k default] := rfl
            rw [e, if_pos ⟨hk1, HEQ.out⟩, compTo_none R k (by have := HLEN.out; omega) HD.out])
          have HCL : Hid ((compTo R (k + 1)).length = k ∧ compSt R (k + 1) = R) := Lib.hid (by
            have h1 : (compTo R (k + 1)).length = k := by rw [HC0.out, List.length_take]; have := HLEN.out; omega
            refine ⟨h1, ?_⟩
            unfold compSt
            rw [h1, HC0.out, List.take_append_drop])
          clear c0 c1 HE HDk HDe HQ
          generalize wr.drewN nq = wa at *
          go_wp2_with fail
          go_loopw [7, 5] (fun b a wr => ∃ q v : Nat, 1 ≤ q ∧ k + q ≤ m ∧ v ≤ k + q - 1 ∧ b = .int .i64 q ∧ a = .int .i64 v ∧ Hid ((compTo R (k + q)).length = v) ∧ Hid (Crd wr lo (some ⟨g, 0, none⟩) m c (compSt R (k + q))) ∧ Hid (Keeps w0 wr)) (fun b _ _ => m - (intOf b).toNat)
          case atStart => exact ⟨1, k, Nat.le_refl _, by omega, by omega, rfl, rfl, Lib.hid HCL.out.1, Lib.hid (by rw [HCL.out.2]; exact HR.out.keeps HKa.out), Lib.hid (HW.out.step HKa.out)⟩
          case round =>
            obtain ⟨q, v, hq1, hqn, hv2, rfl, rfl, HV, HS, HK⟩ := hrel
            have hvi : (v : Int) < m := by omega
            have hvn : v < m := by omega
            by_cases hlq : k + q < m
            · have hqi : (q : Int) < ((m - k : Nat) : Int) := by omega
              have hqi2 : (q : Int) < (m : Int) - k := by omega
              have hqi3 : q < m - k := by omega
              obtain ⟨q1, hq1e⟩ : ∃ q1, q = q1 + 1 := ⟨q - 1, by omega⟩
              have W2 : IntKind.i64.wrap ((q : Int) - 1) = (q1 : Int) := by rw [IntKind.wrap_i64]; omega
              have hq1i : (q1 : Int) < ((m - k : Nat) : Int) := by omega
              have hq1i3 : q1 < m - k := by omega
              have d1 := HS.out.cellD (k + q) hlq
              have d0 := HS.out.cellD (k + q1) (by omega)
              rw [compSt_at R (k + q) (k + q) (by rw [HV.out]; omega)] at d1
              rw [compSt_at R (k + q) (k + q1) (by rw [HV.out]; omega)] at d0
              have dv := HS.out.cellD v hvn
              have fv := HS.out.frozen v
              have r1 := HS.out.rowD (k + q) hlq
              have r0 := HS.out.rowD (k + q1) (by omega)
              rw [compSt_at R (k + q) (k + q) (by rw [HV.out]; omega)] at r1
              rw [compSt_at R (k + q) (k + q1) (by rw [HV.out]; omega)] at r0
              have HQ1 : Hid (k + q1 = k + q - 1) := Lib.hid (by omega)
              have HE : Hid (∀ p, Calls Tryz.prog 135 #[(R.getD (k + q) default).v, (R.getD (k + q1) default).v] (wr.drewN p) fun e w' => e = .returned (.bool (decide ((R.getD (k + q) default).l = (R.getD (k + q1) default).l))) ∧ ∃ q', w' = (wr.drewN p).drewN q') := Lib.hid (fun p => slEqualQ_any _ _ _ _ _ _ _ (by have := HLN.out (k + q) hlq; omega) (by have := HLN.out (k + q1) (by omega); omega) (r1.keeps (Keeps.drewN _ p)).ints (r0.keeps (Keeps.drewN _ p)).ints)
              have HSK : Hid (decide ((R.getD (k + q) default).l = (R.getD (k + q1) default).l) = true → compSt R (k + q + 1) = compSt R (k + q) ∧ (compTo R (k + q + 1)).length = v) := Lib.hid (fun h => by
                have h1 := compSt_skip R (k + q) ⟨by omega, by rw [← HQ1.out]; exact of_decide_eq_true h⟩
                exact ⟨h1.1, h1.2.trans HV.out⟩)
              have HST : Hid (decide ((R.getD (k + q) default).l = (R.getD (k + q1) default).l) = false → (∀ p, Crd ((wr.drewN p).setCell ⟨g, v, none⟩ (R.getD (k + q) default).v) lo (some ⟨g, 0, none⟩) m c (compSt R (k + q + 1))) ∧ (compTo R (k + q + 1)).length = v + 1) := Lib.hid (fun h => by
                have h1 := compSt_set R (k + q) (by have := HLEN.out; omega) (fun hh => of_decide_eq_false h (by rw [HQ1.out]; exact hh.2))
                refine ⟨fun p => ?_, by rw [h1.2, HV.out]⟩
                rw [h1.1, HV.out]
                exact (HS.out.keeps (Keeps.drewN _ p)).set v _ (r1.keeps (Keeps.drewN _ p)))
              have HLO := Lib.hid (Nat.le_trans hlo hlog)
              unfold Hdr.v at d1 d0 dv HE HST
              generalize decide ((R.getD (k + q) default).l = (R.getD (k + q1) default).l) = V at *
              generalize (R.getD (k + q) default).l.length = lk2 at *
              generalize (R.getD (k + q) default).g = gk2 at *
              generalize (R.getD (k + q) default).c = ck2 at *
              generalize (R.getD (k + q1) default).l.length = lj2 at *
              generalize (R.getD (k + q1) default).g = gj2 at *
              generalize (R.getD (k + q1) default).c = cj2 at *
              generalize ((compSt R (k + q)).getD v default).l.length = lo2 at *
              generalize ((compSt R (k + q)).getD v default).g = go2 at *
              generalize ((compSt R (k + q)).getD v default).c = co2 at *
              clear r1 r0 hq1e
              cases V
              · have HST2 := Lib.hid (HST.out rfl)
                clear HST HSK
                go_wp2_with fail
                go_quiet ((go_at_call 135; exact Calls.quiet_of (HE.out _)))
                go_wp2
                go_roundw
                case rel => exact ⟨q + 1, v + 1, by omega, by omega, by omega, by go_num, by go_num, Lib.hid HST2.out.2, Lib.hid (HST2.out.1 _), Lib.hid (Below.setCell (HK.out.step (Keeps.drewN _ _)) HLO.out _)⟩
                case measure => simp [intOf]; omega
              · have HSK2 := Lib.hid (HSK.out rfl)
                clear HST HSK
                go_wp2_with fail
                go_quiet ((go_at_call 135; exact Calls.quiet_of (HE.out _)))
                go_wp2
                go_roundw
                case rel => exact ⟨q + 1, v, by omega, by omega, by omega, by go_num, rfl, Lib.hid HSK2.out.2, Lib.hid (by rw [show k + (q + 1) = k + q + 1 from rfl, HSK2.out.1]; exact HS.out.keeps (Keeps.drewN _ _)), Lib.hid (HK.out.step (Keeps.drewN _ _))⟩
                case measure => simp [intOf]; omega
            · have hqn2 : k + q = m := by omega
              have hqi : ¬ ((q : Int) < ((m - k : Nat) : Int)) := by omega
              have hqi3 : ¬ (q < m - k) := by omega
              have hvc : (v : Int) ≤ c := by omega
              have hvn' : (v : Int) ≤ m := by omega
              have hcl : ∀ ty, (Builtin.clear_ #[52] ty #[.slice (some ⟨g, v, none⟩) (m - v) (c - v)]).run Tryz.prog wr = .ok (.tuple #[]) (wr.setCells g v (List.replicate (m - v) (.slice none 0 0))) :=
                fun ty => Lib.run_clear_slice wr _ _ ty _ Tryz.underlying52 (fun w => rfl) rfl rfl g v _ _ (by omega) (fun j hj => by rw [HS.out.cellD (v + j) (by omega)]; rfl) (fun j hj => HS.out.frozen _)
              have HF : Hid (∃ R' : List Hdr, R'.Sublist R ∧ R'.map (·.l) = compL (R.map (·.l)) ∧ Crn (wr.setCells g v (List.replicate (m - v) (.slice none 0 0))) lo (some ⟨g, 0, none⟩) v R' ∧ Keeps w0 (wr.setCells g v (List.replicate (m - v) (.slice none 0 0)))) := Lib.hid (by
                have hL := HLEN.out
                refine ⟨compTo R (k + q), ?_, ?_, ⟨HV.out, ?_, fun h hh => ?_⟩, keeps_setCells (Nat.le_trans hlo hlog) _ _ HK.out⟩
                · have := compTo_sub R (k + q) (by omega)
                  rwa [List.take_of_length_le (by omega)] at this
                · rw [hqn2, ← hL]; exact compTo_all R
                · obtain ⟨cur, h1, h2, _, _, _, h6⟩ := HS.out.top_blk
                  obtain ⟨cur', h7, h8, h9⟩ := setCells_blk (List.replicate (m - v) (.slice none 0 0)) v h1
                  refine .inr ⟨g, cur', rfl, h2, h7, ?_⟩
                  rw [h8, ← show (cur.toList.take m).take v = cur.toList.take v by rw [List.take_take]; congr 1; omega, h6, ← List.map_take]
                  congr 1
                  unfold compSt
                  rw [List.take_append_of_le_length (by rw [HV.out]; omega), ← HV.out, List.take_length]
                · obtain ⟨cur, h1, h2, _, _, _, h6⟩ := HS.out.top_blk
                  obtain ⟨cur', h7, h8, h9⟩ := setCells_blk (List.replicate (m - v) (.slice none 0 0)) v h1
                  have hm := List.mem_append_left (R.drop (compTo R (k + q)).length) hh
                  exact own_block_same (HS.out.row h hm) (h9 _ (fun e => HS.out.ne h hm e.symm)))
              have HVC : Hid (v ≤ c) := Lib.hid (by omega)
              clear HS HK HV
              go_wp2
              go_ret
              obtain ⟨R', f1, f2, f3, f4⟩ := HF.out
              exact ⟨R', v, rfl, f1, f2, f3, HVC.out, f4⟩
      · obtain rfl : k = m := by omega
        have HC : Hid (R.map (·.l) = compL (R.map (·.l))) := Lib.hid (by
          have h1 := compTo_none R k (by have := HLEN.out; omega) HD.out
          have h2 := compTo_map R k (by have := HLEN.out; omega)
          rw [h1, List.take_of_length_le (by have := HLEN.out; omega)] at h2
          exact h2)
        have HKK := Lib.hid hK
        clear hK
        go_wp2
        go_ret
        exact ⟨R, k, rfl, List.Sublist.refl _, HC.out, (HR.out.keeps HKK.out).crn, HMC.out, HW.out.step HKK.out⟩
end Go.Proofs.YtlniogfinofakaaGreatDoor
