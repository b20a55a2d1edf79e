/-
  Plain laws: what is reached, what a crowd says for ever, verdicts. No condition.
-/
import Derived.Test.YtaejakejnllimaaCrowd
namespace Go.Proofs.Ytaejakejnllimaa
set_option maxRecDepth 100000
set_option linter.unusedVariables false

/-- What is said together: 3 nothing, 2 different things. -/
def joinV (a b : Int) : Int := if a = 3 then b else if b = 3 then a else if a = b then a else 2
theorem joinV_assoc (a b c : Int) : joinV (joinV a b) c = joinV a (joinV b c) := by
  unfold joinV
  by_cases h1 : a = 3
  · simp [h1]
  by_cases h2 : b = 3
  · simp [h1, h2]
  by_cases h3 : c = 3
  · by_cases h4 : a = b <;> simp [h1, h2, h3, h4]
  by_cases h4 : a = b
  · subst h4
    by_cases h5 : a = c
    · subst h5; simp [h1]
    · simp [h1, h3, h5]
      try exact fun h => h.symm
  · by_cases h5 : b = c
    · subst h5
      by_cases h6 : 2 = b <;> simp [h1, h2, h4, h6]
    · by_cases h6 : 2 = c <;> by_cases h7 : a = 2 <;> simp [h1, h2, h3, h4, h5, h6, h7] <;> exact fun h => h.symm
def vo : List Int → Int
  | [] => 3
  | v :: l => joinV v (vo l)
theorem joinV_none (a : Int) : joinV a 3 = a := by unfold joinV; split <;> simp_all
theorem joinV_same (a : Int) : joinV a a = a := by unfold joinV; split <;> simp_all
theorem joinV_two (a : Int) : joinV a 2 = 2 := by unfold joinV; split <;> simp_all
theorem two_joinV (a : Int) : joinV 2 a = 2 := by unfold joinV; split <;> simp_all
theorem vo_app : ∀ (l m : List Int), vo (l ++ m) = joinV (vo l) (vo m)
  | [], m => by show vo m = joinV 3 (vo m); unfold joinV; simp
  | v :: l, m => by
    show joinV v (vo (l ++ m)) = joinV (joinV v (vo l)) (vo m)
    rw [vo_app l m, joinV_assoc]
theorem vo_snoc (l : List Int) (v : Int) : vo (l ++ [v]) = joinV (vo l) v := by
  rw [vo_app]
  show joinV _ (joinV v 3) = _
  rw [joinV_none]
/-- Who says something is heard, or all say different things. -/
theorem vo_heard {y : Int} (hy : y ≠ 3) : ∀ {l : List Int}, y ∈ l → vo l = y ∨ vo l = 2
  | [], h => by simp at h
  | x :: l, h => by
    show joinV x (vo l) = y ∨ joinV x (vo l) = 2
    rcases List.mem_cons.1 h with e | e
    · subst e
      unfold joinV
      rw [if_neg hy]
      split
      · exact .inl rfl
      · split
        · exact .inl rfl
        · exact .inr rfl
    · rcases vo_heard hy e with h2 | h2
      · rw [h2]
        unfold joinV
        rw [if_neg hy]
        split
        · exact .inl rfl
        · split
          · rename_i h3; exact .inl h3
          · exact .inr rfl
      · rw [h2, joinV_two]; exact .inr rfl
theorem vo_all {v : Int} : ∀ {l : List Int}, l ≠ [] → (∀ y ∈ l, y = v) → vo l = v
  | [], h, _ => absurd rfl h
  | [x], _, h => by
    show joinV x 3 = v
    rw [joinV_none]; exact h x (by simp)
  | x :: y :: l, _, h => by
    show joinV x (vo (y :: l)) = v
    rw [vo_all (l := y :: l) (by simp) (fun z hz => h z (List.mem_cons_of_mem _ hz)), h x (by simp), joinV_same]
theorem vo_mem {v : Int} (hv : v ≠ 2) {l : List Int} (h : vo l = v) : ∀ y ∈ l, y = 3 ∨ y = v := fun y hy => by
  by_cases h3 : y = 3
  · exact .inl h3
  · rcases vo_heard h3 hy with e | e
    · exact .inr (e.symm.trans h)
    · exact absurd (h.symm.trans e) hv
/-- What the kinds say that are there. -/
def presS (s : Nat → Int) (x : List Int) : Nat → List Int
  | 0 => []
  | k + 1 => presS s x k ++ (if x.getD k 0 == 0 then [] else [s k])
def voice (s : Nat → Int) (n : Nat) (x : List Int) : Int := vo (presS s x n)
theorem mem_presS {s : Nat → Int} {x : List Int} {y : Int} : ∀ {n}, y ∈ presS s x n ↔ ∃ k, k < n ∧ x.getD k 0 ≠ 0 ∧ y = s k
  | 0 => by simp [presS]
  | n + 1 => by
    rw [presS, List.mem_append, mem_presS (n := n)]
    constructor
    · rintro (⟨k, h1, h2, h3⟩ | h)
      · exact ⟨k, by omega, h2, h3⟩
      · by_cases e : x.getD n 0 = 0
        · rw [e] at h; simp at h
        · refine ⟨n, by omega, e, ?_⟩
          rw [if_neg (by simpa using e)] at h
          simpa using h
    · rintro ⟨k, h1, h2, h3⟩
      by_cases e : k = n
      · subst e
        rw [if_neg (by simpa using h2)]
        exact .inr (by simpa using h3)
      · exact .inl ⟨k, by omega, h2, h3⟩
/-- What all crowds of a list say. -/
def voL (s : Nat → Int) (n : Nat) (M : List (List Int)) : Int := vo (M.map (voice s n))
theorem voL_snoc (s : Nat → Int) (n : Nat) (M : List (List Int)) (x : List Int) : voL s n (M ++ [x]) = joinV (voL s n M) (voice s n x) := by
  unfold voL
  rw [List.map_append]
  exact vo_snoc _ _
theorem sum_zero : ∀ (l : List Int), (∀ x ∈ l, 0 ≤ x) → l.sum = 0 → ∀ j, l.getD j 0 = 0
  | [], _, _, j => by simp
  | x :: l, h, hs, j => by
    have h1 := h x (List.mem_cons_self ..)
    have h2 := sum_nonneg l (fun y hy => h y (List.mem_cons_of_mem _ hy))
    simp only [List.sum_cons] at hs
    cases j with
    | zero => simp; omega
    | succ j =>
      rw [List.getD_cons_succ]
      exact sum_zero l (fun y hy => h y (List.mem_cons_of_mem _ hy)) (by omega) j
theorem zero_sum : ∀ (l : List Int), (∀ j, j < l.length → l.getD j 0 = 0) → l.sum = 0
  | [], _ => rfl
  | x :: l, h => by
    have h1 := h 0 (by simp)
    have h2 := zero_sum l (fun j hj => by
      have := h (j + 1) (by simpa using hj)
      rwa [List.getD_cons_succ] at this)
    simp only [List.getD_cons_zero] at h1
    simp only [List.sum_cons]
    omega
theorem voice_none {s : Nat → Int} {n : Nat} {x : List Int} (hs : ∀ k, k < n → s k = 0 ∨ s k = 1) (h : Crw n x) : voice s n x = 3 ↔ x.sum = 0 := by
  constructor
  · intro h1
    refine zero_sum x fun j hj => ?_
    rw [h.len] at hj
    by_cases e : x.getD j 0 = 0
    · exact e
    · have h2 := vo_mem (by omega) h1 (s j) (mem_presS.2 ⟨j, hj, e, rfl⟩)
      rcases hs j hj with h3 | h3 <;> omega
  · intro h1
    have h2 := sum_zero x h.pos h1
    unfold voice
    have : presS s x n = [] := by
      apply List.eq_nil_iff_forall_not_mem.2
      intro y hy
      obtain ⟨k, _, h3, _⟩ := mem_presS.1 hy
      exact h3 (h2 k)
    rw [this]; rfl
/-- The reference's way to the same number. -/
theorem steady_eq {s : Nat → Int} {n : Nat} {c : List Int} {M : List (List Int)} (hs : ∀ k, k < n → s k = 0 ∨ s k = 1) (hc : c ∈ M) (hM : ∀ x ∈ M, Crw n x ∧ x.sum = c.sum) :
    voL s n M = if (∃ x ∈ M, voice s n x ≠ voice s n c) then 2 else voice s n c := by
  by_cases hz : c.sum = 0
  · have h3 : ∀ x ∈ M, voice s n x = 3 := fun x hx => (voice_none hs (hM x hx).1).2 ((hM x hx).2.trans hz)
    rw [if_neg (fun ⟨x, hx, h⟩ => h ((h3 x hx).trans (h3 c hc).symm)), h3 c hc]
    refine vo_all (fun e => ?_) (fun y hy => ?_)
    · rw [List.map_eq_nil_iff] at e; subst e; simp at hc
    · obtain ⟨x, hx, rfl⟩ := List.mem_map.1 hy
      exact h3 x hx
  · have h3 : ∀ x ∈ M, voice s n x ≠ 3 := fun x hx e => hz ((hM x hx).2.symm.trans ((voice_none hs (hM x hx).1).1 e))
    have hh : ∀ x ∈ M, voL s n M = voice s n x ∨ voL s n M = 2 := fun x hx => vo_heard (h3 x hx) (List.mem_map_of_mem hx)
    split
    · rename_i h
      obtain ⟨x, hx, hne⟩ := h
      rcases hh x hx with e | e
      · rcases hh c hc with e2 | e2
        · exact absurd (e.symm.trans e2) hne
        · exact e2
      · exact e
    · rename_i h
      refine vo_all (fun e => ?_) (fun y hy => ?_)
      · rw [List.map_eq_nil_iff] at e; subst e; simp at hc
      · obtain ⟨x, hx, rfl⟩ := List.mem_map.1 hy
        exact Classical.byContradiction fun e => h ⟨x, hx, e⟩
section
variable (F G : Nat → Nat → Nat) (n : Nat) (s : Nat → Int)
/-- The crowds that may come of one, in order. -/
noncomputable def rchL (c : List Int) : List (List Int) := open Classical in if h : ∃ M, SL M ∧ ∀ x, x ∈ M ↔ Rch F G n c x then h.choose else []
variable {F G n s}
theorem rchL_eq {c : List Int} {M : List (List Int)} (h1 : SL M) (h2 : ∀ x, x ∈ M ↔ Rch F G n c x) : rchL F G n c = M := by
  unfold rchL
  have h : ∃ M, SL M ∧ ∀ x, x ∈ M ↔ Rch F G n c x := ⟨M, h1, h2⟩
  rw [dif_pos h]
  exact SL.ext h.choose_spec.1 h1 (fun x => (h.choose_spec.2 x).trans (h2 x).symm)
/-- A list that has the crowd, only what is reached, and with each crowd all behind one meeting. -/
theorem rchL_of {c : List Int} {L : List (List Int)} (h1 : c ∈ L) (h2 : ∀ x ∈ L, Rch F G n c x) (h3 : ∀ x ∈ L, ∀ y ∈ nextL F G n x, y ∈ L) : rchL F G n c = canL L :=
  rchL_eq (sl_canL L) (fun x => by
    rw [mem_canL]
    refine ⟨h2 x, fun h => ?_⟩
    induction h with
    | refl => exact h1
    | step _ h5 ih => exact h3 _ ih _ h5)
variable (F G n s)
/-- What a crowd says for ever. -/
noncomputable def stead (c : List Int) : Int := voL s n (rchL F G n c)
/-- Of each reached crowd one may be reached that says this for ever. -/
noncomputable def canB (c : List Int) (v : Int) : Bool := (rchL F G n c).all (fun x => (rchL F G n x).any (fun y => stead F G n s y == v))
noncomputable def verd (c : List Int) : Int := if canB F G n s c 0 then 0 else if canB F G n s c 1 then 1 else -1
end
end Go.Proofs.Ytaejakejnllimaa
