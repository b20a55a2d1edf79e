/-
  Plain laws of crowds: what is steady stays, verdicts stay, what two of a kind may become. No condition.
-/
import Derived.Test.YtaejakejnllimaaSteady
namespace Go.Proofs.Ytaejakejnllimaa
set_option linter.unusedVariables false

section
variable {F G : Nat → Nat → Nat} {n : Nat} {s : Nat → Int} {c x : List Int}
theorem rch_next (h : x ∈ nextL F G n c) : Rch F G n c x := .step .refl h
theorem stead_stays (hR : Rul n F G) (hs : ∀ k, k < n → s k = 0 ∨ s k = 1) (hc : Crw n c) (hx : Rch F G n c x) {v : Int} (hv : v = 0 ∨ v = 1) (h : stead F G n s c = v) : stead F G n s x = v := by
  have hX := hx.crw hR hc
  have h2 : v ≠ 2 := by omega
  have hm : ∀ y, Rch F G n c y → voice s n y = 3 ∨ voice s n y = v := fun y hy => by
    refine vo_mem h2 h _ (List.mem_map_of_mem ((mem_rchL hR hc).2 hy))
  have hz : c.sum ≠ 0 := fun h0 => by
    have h3 : stead F G n s c = 3 := by
      unfold stead voL
      refine vo_all (fun e => ?_) (fun y hy => ?_)
      · rw [List.map_eq_nil_iff] at e
        have := (mem_rchL hR hc (x := c)).2 .refl
        rw [e] at this
        simp at this
      · obtain ⟨z, hz, rfl⟩ := List.mem_map.1 hy
        have h4 := ((mem_rchL hR hc).1 hz).crw hR hc
        exact (voice_none hs h4.1).2 (h4.2.trans h0)
    omega
  unfold stead voL
  refine vo_all (fun e => ?_) (fun y hy => ?_)
  · rw [List.map_eq_nil_iff] at e
    have := (mem_rchL hR hX.1 (x := x)).2 .refl
    rw [e] at this
    simp at this
  · obtain ⟨z, hz2, rfl⟩ := List.mem_map.1 hy
    have h4 := (hx.trans ((mem_rchL hR hX.1).1 hz2))
    have h5 := h4.crw hR hc
    rcases hm z h4 with e | e
    · exact absurd (h5.2.symm.trans ((voice_none hs h5.1).1 e)) hz
    · exact e
theorem canB_up (hR : Rul n F G) (hc : Crw n c) {v : Int} : canB F G n s c v = true ↔ ∀ x, Rch F G n c x → ∃ y, Rch F G n x y ∧ stead F G n s y = v := by
  unfold canB
  rw [List.all_eq_true]
  constructor
  · intro h x hx
    have h1 := h x ((mem_rchL hR hc).2 hx)
    obtain ⟨y, hy, h2⟩ := List.any_eq_true.1 h1
    exact ⟨y, (mem_rchL hR (hx.crw hR hc).1).1 hy, by simpa using h2⟩
  · intro h x hx
    have hx' := (mem_rchL hR hc).1 hx
    obtain ⟨y, hy, h2⟩ := h x hx'
    exact List.any_eq_true.2 ⟨y, (mem_rchL hR (hx'.crw hR hc).1).2 hy, by simpa using h2⟩
theorem canB_not (hR : Rul n F G) (hs : ∀ k, k < n → s k = 0 ∨ s k = 1) (hc : Crw n c) (h : canB F G n s c 1 = true) : canB F G n s c 0 = false := by
  cases h0 : canB F G n s c 0
  · rfl
  · obtain ⟨y, hy, h1⟩ := (canB_up hR hc).1 h c .refl
    obtain ⟨z, hz, h2⟩ := (canB_up hR hc).1 h0 y hy
    have := stead_stays hR hs (hy.crw hR hc).1 hz (.inr rfl) h1
    omega
theorem verd_of (hR : Rul n F G) (hs : ∀ k, k < n → s k = 0 ∨ s k = 1) (hc : Crw n c) {v : Int} (hv : v = 0 ∨ v = 1) (h : canB F G n s c v = true) : verd F G n s c = v := by
  unfold verd
  rcases hv with rfl | rfl
  · rw [if_pos h]
  · rw [if_neg (by rw [canB_not hR hs hc h]; simp), if_pos h]
theorem verd_cases : verd F G n s c = -1 ∨ ((verd F G n s c = 0 ∨ verd F G n s c = 1) ∧ canB F G n s c (verd F G n s c) = true) := by
  unfold verd
  split
  · rename_i h; exact .inr ⟨.inl rfl, h⟩
  · split
    · rename_i h; exact .inr ⟨.inr rfl, h⟩
    · exact .inl rfl
/-- P35. -/
theorem verd_stays (hR : Rul n F G) (hs : ∀ k, k < n → s k = 0 ∨ s k = 1) (hc : Crw n c) (hx : Rch F G n c x) (h : 0 ≤ verd F G n s c) : verd F G n s x = verd F G n s c := by
  rcases verd_cases (F := F) (G := G) (n := n) (s := s) (c := c) with h1 | ⟨h1, h2⟩
  · omega
  · refine verd_of hR hs (hx.crw hR hc).1 h1 ?_
    exact (canB_up hR (hx.crw hR hc).1).2 fun y hy => (canB_up hR hc).1 h2 y (hx.trans hy)
theorem verd_le : verd F G n s c ≤ 1 := by
  rcases verd_cases (F := F) (G := G) (n := n) (s := s) (c := c) with h1 | ⟨h1, h2⟩ <;> omega
/-- P34. -/
theorem stead_verd (hR : Rul n F G) (hs : ∀ k, k < n → s k = 0 ∨ s k = 1) (hc : Crw n c) (h : stead F G n s c = 0 ∨ stead F G n s c = 1) : verd F G n s c = stead F G n s c :=
  verd_of hR hs hc h ((canB_up hR hc).2 fun x hx => ⟨x, .refl, stead_stays hR hs hc hx h rfl⟩)
/-- A crowd of two of one kind has at most one crowd behind a meeting. -/
theorem two_next {a : Nat} (hz : ∀ j, j ≠ a → c.getD j 0 = 0) : (nextL F G n c).length ≤ 1 := by
  have h1 : ∀ y ∈ nextL F G n c, y = meetL F G c a a := fun y hy => by
    obtain ⟨p, q, hp, hq, hm, rfl⟩ := mem_nextL.1 hy
    unfold meetsB okB at hm
    simp only [Bool.and_eq_true, Bool.not_eq_true', beq_eq_false_iff_ne, ne_eq] at hm
    have e1 : p = a := Classical.byContradiction fun e => hm.1.1.1 (hz p e)
    have e2 : q = a := Classical.byContradiction fun e => hm.1.1.2 (hz q e)
    rw [e1, e2]
  have h2 : (nextL F G n c).Nodup := (sl_canL _).nodup
  generalize nextL F G n c = L at *
  match L with
  | [] => simp
  | [_] => simp
  | y :: z :: L =>
    have e1 := h1 y (by simp)
    have e2 := h1 z (by simp)
    rw [e1, e2] at h2
    simp at h2
end
end Go.Proofs.Ytaejakejnllimaa
