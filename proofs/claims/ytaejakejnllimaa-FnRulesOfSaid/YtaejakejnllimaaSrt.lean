/-
  Lists of crowds in memory, and slices.SortFunc on them. Conditions: bounds on lengths.
-/
import Derived.Test.YtaejakejnllimaaCmp
import Derived.Test.YtaejakejnllimaaSortLay
import Derived.Test.YtaejakejnllimaaExactSS
namespace Go.Proofs.Ytaejakejnllimaa
set_option maxRecDepth 100000
set_option linter.unusedVariables false
open Go.RowKit Go.Sort

/-- A list in memory: its block, its spare as the slice says and as it is, its numbers. -/
structure Hdr where
  g : Nat
  c : Nat
  d : Nat
  l : List Int
instance : Inhabited Hdr := ⟨⟨0, 0, 0, []⟩⟩
def Hdr.v (h : Hdr) : Value := .slice (some ⟨h.g, 0, none⟩) h.l.length h.c
/-- The call's own list of lists. -/
structure Crd (w : World) (lo : Nat) (A : Option Addr) (m c : Nat) (R : List Hdr) : Prop where
  top : w.ownsRow lo 23 1 (.slice A m c) m (R.map Hdr.v)
  row : ∀ h ∈ R, OwnInts w lo (some ⟨h.g, 0, none⟩) h.l.length h.d h.l
section
variable {w w' : World} {lo lo' m c : Nat} {A : Option Addr} {R : List Hdr}
theorem Crd.len (h : Crd w lo A m c R) : R.length = m := by have := h.top.1; simpa using this
theorem Crd.keeps (h : Crd w lo A m c R) (k : Keeps w w') : Crd w' lo A m c R := ⟨own_keeps h.top k, fun x hx => (h.row x hx).keeps k⟩
theorem own_mono {E : TypeId} {s : Nat} {xs : List Value} (h : w.ownsRow lo E s (.slice A m c) m xs) (hl : lo' ≤ lo) : w.ownsRow lo' E s (.slice A m c) m xs := by
  refine ⟨h.1, ?_⟩
  rcases h.2 with h2 | ⟨g, cap, cur, e, hg, r⟩
  · exact .inl h2
  · exact .inr ⟨g, cap, cur, e, Nat.le_trans hl hg, r⟩
theorem Crd.mono (h : Crd w lo A m c R) (hl : lo' ≤ lo) : Crd w lo' A m c R := ⟨own_mono h.top hl, fun x hx => (h.row x hx).mono hl⟩
theorem Crd.at (h : Crd w lo A m c R) (hm : 1 ≤ m) : ∃ g, A = some ⟨g, 0, none⟩ ∧ lo ≤ g ∧ g < w.heap.size := by
  rcases h.top.2 with ⟨_, h0⟩ | ⟨g, cap, cur, e, hb, hg, _⟩
  · omega
  · cases e; exact ⟨g, rfl, hb, (Array.getElem?_eq_some_iff.1 hg).1⟩
theorem Crd.cell {g : Nat} (h : Crd w lo (some ⟨g, 0, none⟩) m c R) (i : Nat) (hi : i < R.length) : w.cell? ⟨g, i, none⟩ = some (R[i].v) := by
  have := h.len
  rw [h.top.cellAt i (by omega)]
  simp [hi]
theorem Crd.top_blk {g : Nat} (h : Crd w lo (some ⟨g, 0, none⟩) m c R) : ∃ cur, Blk w g 23 cur ∧ lo ≤ g ∧ m ≤ c ∧ c ≤ maxLen ∧ cur.size = c ∧ cur.toList.take m = R.map Hdr.v := by
  rcases h.top.2 with ⟨h2, h0⟩ | ⟨g', cap, cur, e, hb, hg, h3, h4, h5, h6⟩
  · cases h2
  · cases e
    exact ⟨cur, hg, hb, h3, h4, by simpa using h5, by simpa using h6⟩
theorem Crd.ne {g : Nat} (h : Crd w lo (some ⟨g, 0, none⟩) m c R) (x : Hdr) (hx : x ∈ R) : g ≠ x.g := fun e => by
  obtain ⟨cur, hg, _⟩ := h.top_blk
  exact own_other' (h.row x hx) hg (by decide) (by rw [e]; rfl)
end
/-- Writing into the list's block leaves the rows. -/
theorem own_block_same {w w' : World} {lo g n c : Nat} {l : List Int} (h : OwnInts w lo (some ⟨g, 0, none⟩) n c l) (hs : w'.heap[g]? = w.heap[g]?) : OwnInts w' lo (some ⟨g, 0, none⟩) n c l := by
  refine ⟨h.1, ?_⟩
  rcases h.2 with ⟨h2, h0⟩ | ⟨g', cap, cur, e, hb, hg, rest⟩
  · exact .inl ⟨h2, h0⟩
  · cases e
    exact .inr ⟨g, _, cur, rfl, hb, hs.trans hg, rest⟩
section
variable {α : Type} [Inhabited α]
theorem sw_other (enc : α → Value) (w : World) (g n i : Nat) (d : Array α) (os : Array Obj) (hi : i < w.heap.size) (hne : i ≠ g) : (sortWorld enc w g 0 n d os).heap[i]? = w.heap[i]? := by
  show ((w.heap.modify g (onCells (putCells enc 0 d))) ++ os)[i]? = w.heap[i]?
  rw [Array.getElem?_append_left (by simpa using hi), Array.getElem?_modify, if_neg (fun e => hne e.symm)]
theorem sw_at (enc : α → Value) (w : World) (g n : Nat) (d : Array α) (os : Array Obj) {cur : Array Value} {T : TypeId} {fr : Nat × Nat} (h : w.heap[g]? = some (.cells cur T fr)) : (sortWorld enc w g 0 n d os).heap[g]? = some (.cells (putCells enc 0 d cur) T fr) := by
  show ((w.heap.modify g (onCells (putCells enc 0 d))) ++ os)[g]? = _
  have hg := (Array.getElem?_eq_some_iff.1 h).1
  rw [Array.getElem?_append_left (by simpa using hg), Array.getElem?_modify, if_pos rfl, h]
  rfl
theorem sw_grown (enc : α → Value) (w : World) (g n : Nat) (d : Array α) (os : Array Obj) : w.grownBy (sortWorld enc w g 0 n d os) (some g) :=
  ⟨rfl, rfl, rfl, by show w.heap.size ≤ ((w.heap.modify g (onCells (putCells enc 0 d))) ++ os).size; simp, fun i hi hn => sw_other enc w g n i d os hi (fun e => hn (by rw [e]))⟩
theorem put_take (enc : α → Value) (d : Array α) (cur : Array Value) (h : d.size ≤ cur.size) : (putCells enc 0 d cur).toList.take d.size = d.toList.map enc := by
  apply List.ext_getElem?
  intro i
  by_cases hi : i < d.size
  · rw [List.getElem?_take_of_lt hi]
    simp [putCells, show i < cur.size by omega, hi]
  · rw [List.getElem?_eq_none (by simp; omega), List.getElem?_eq_none (by simp; omega)]
end
theorem cmp_swo (R : List Hdr) : SWO (ltOf (fun (x y : {h : Hdr // h ∈ R}) => cmpL x.1.l y.1.l)) where
  irrefl x := ltL_irrefl _
  trans x y z h1 h2 := ltL_trans (x := x.1.l) (y := y.1.l) (z := z.1.l) h1 h2
  ntrans x y z h1 h2 := ltL_ntrans (x := x.1.l) (y := y.1.l) (z := z.1.l) h1 h2
theorem sort_any (g m c lo : Nat) (R : List Hdr) (w : World) (hR : Crd w lo (some ⟨g, 0, none⟩) m c R) (hm : 1 ≤ m) (hm2 : m ≤ 100000) (hl : ∀ h ∈ R, h.l.length ≤ 1000) :
    Calls Try.prog 79 #[.slice (some ⟨g, 0, none⟩) m c, .func (.func 80) #[] #[]] w fun e w' => e = .returned (.tuple #[]) ∧ ∃ R', R'.Perm R ∧ Crd w' lo (some ⟨g, 0, none⟩) m c R' ∧ R'.Pairwise (fun x y => ltL y.l x.l = false) ∧ w.grownBy w' (some g) := by
  have hlen := hR.len
  obtain ⟨r0, hr0⟩ : ∃ r0, r0 ∈ R := ⟨R[0]'(by omega), List.getElem_mem _⟩
  haveI : Inhabited {h : Hdr // h ∈ R} := ⟨⟨r0, hr0⟩⟩
  have eg : ∀ args w, (callFunc 80 args).run Try.prog w = .ok (.enter 80 args) w := fun _ _ => rfl
  have hsz : R.attach.toArray.size = m := by simp [hlen]
  obtain ⟨cur, hcur, hlog, hmc, hcm, hcs, htk⟩ := hR.top_blk
  have hcmp : CmpLays1 Try.prog 80 #[] (fun (x : {h : Hdr // h ∈ R}) => x.1.v) (fun x y => cmpL x.1.l y.1.l) g 0 R.attach.toArray.size w := fun mm os dk hdk x y => by
    have hrow : ∀ z : {h : Hdr // h ∈ R}, Ints (sortWorld (fun (x : {h : Hdr // h ∈ R}) => x.1.v) w g 0 mm dk os) (some ⟨z.1.g, 0, none⟩) z.1.l.length (fun i => z.1.l.getD i 0) := fun z =>
      (own_block_same (hR.row z.1 z.2) (sw_other _ w g mm z.1.g dk os (own_block (hR.row z.1 z.2) _ rfl).2 (fun e => hR.ne z.1 z.2 e.symm))).ints
    refine Calls.mono (slCompare_any _ _ x.1.c y.1.c x.1.l y.1.l _ (by have := hl _ x.2; omega) (by have := hl _ y.2; omega) (hrow x) (hrow y)) ?_
    rintro e w' ⟨rfl, rfl⟩
    exact ⟨rfl, 0, #[], by simp [World.drewN]⟩
  have hH : Holds (fun (x : {h : Hdr // h ∈ R}) => x.1.v) w g 0 R.attach.toArray := fun j hj => by
    have hj' : j < R.length := by simpa using hj
    refine ⟨?_, hcur.frozen _⟩
    rw [Nat.zero_add, hR.cell j hj']
    simp [hj']
  have hcon := Any.slices_SortFunc sortL (fun (x : {h : Hdr // h ∈ R}) => x.1.v) (fun _ => rfl) (fun x y => cmpL x.1.l y.1.l) (cmp_swo R) 80 #[] g 0 c R.attach.toArray w eg hcmp hH hcur.lt (by rw [hsz]; omega)
  rw [hsz] at hcon
  refine Calls.mono hcon ?_
  rintro e w' ⟨rfl, d', n, os, hp, hs, rfl⟩
  have hds : d'.size = m := by rw [hp.1, hsz]
  have hperm : d'.toList.Perm R.attach := by
    have h := hp.2.2
    rw [Array.extract_eq_self_of_le (by omega), Array.extract_eq_self_of_le (by omega)] at h
    simpa using h
  have hR'p : (d'.toList.map (·.1)).Perm R := by
    have h := hperm.map (·.1)
    rwa [List.attach_map_subtype_val] at h
  refine ⟨rfl, d'.toList.map (·.1), hR'p, ⟨⟨by simp [hds], .inr ⟨g, c, _, rfl, hlog, sw_at _ w g n d' os hcur, hmc, hcm, ?_, ?_⟩⟩, fun h hh => ?_⟩, ?_, sw_grown _ w g n d' os⟩
  · simp [putCells, hcs]
  · have h := put_take (fun (x : {h : Hdr // h ∈ R}) => x.1.v) d' cur (by omega)
    rw [hds] at h
    rw [Nat.mul_one, h, List.map_map]
    rfl
  · have hh' := hR'p.mem_iff.1 hh
    exact own_block_same (hR.row h hh') (sw_other _ w g n h.g d' os (own_block (hR.row h hh') _ rfl).2 (fun e => hR.ne h hh' e.symm))
  · rw [List.pairwise_map, List.pairwise_iff_getElem]
    intro i j hi hj hij
    have h := hs i j (Nat.zero_le _) hij (by simpa [hds] using hj)
    rw [getElem!_pos d' i (by simpa using hi), getElem!_pos d' j (by simpa using hj)] at h
    have h2 : ltL d'[j].1.l d'[i].1.l = false := h
    simpa using h2
end Go.Proofs.Ytaejakejnllimaa
