/-
  Plain laws on crowds: meetings, and what is there behind one. No condition.
-/
import Derived.Test.YtlniogfinofakaaGreatDoorRuAt
import Derived.Test.YtlniogfinofakaaGreatDoorRuAb
namespace Go.Proofs.YtlniogfinofakaaGreatDoor
set_option maxRecDepth 100000
set_option linter.unusedVariables false

theorem getD_set (l : List Int) (i j : Nat) (v : Int) (hi : i < l.length) : (l.set i v).getD j 0 = if j = i then v else l.getD j 0 := by
  rw [List.getD_eq_getElem?_getD, List.getElem?_set]
  by_cases e : i = j
  · subst e
    rw [if_pos rfl, if_pos rfl, if_pos hi]
    rfl
  · rw [if_neg e, if_neg (fun h => e h.symm), ← List.getD_eq_getElem?_getD]
theorem sum_set : ∀ (l : List Int) (i : Nat) (v : Int), i < l.length → (l.set i v).sum = l.sum - l.getD i 0 + v
  | [], i, v, h => by simp at h
  | x :: l, 0, v, _ => by simp; omega
  | x :: l, i + 1, v, h => by
    have := sum_set l i v (by simpa using h)
    simp only [List.set_cons_succ, List.sum_cons, this, List.getD_cons_succ]
    omega
theorem sum_nonneg : ∀ (l : List Int), (∀ x ∈ l, 0 ≤ x) → 0 ≤ l.sum
  | [], _ => by simp
  | x :: l, h => by
    have h1 := h x (List.mem_cons_self ..)
    have h2 := sum_nonneg l (fun y hy => h y (List.mem_cons_of_mem _ hy))
    simp only [List.sum_cons]
    omega
theorem sum_ge : ∀ (l : List Int), (∀ x ∈ l, 0 ≤ x) → ∀ x ∈ l, x ≤ l.sum
  | [], _, x, hx => by simp at hx
  | y :: l, h, x, hx => by
    have h1 := h y (List.mem_cons_self ..)
    have h2 := sum_nonneg l (fun z hz => h z (List.mem_cons_of_mem _ hz))
    simp only [List.sum_cons]
    rcases List.mem_cons.1 hx with e | e
    · subst e; omega
    · have := sum_ge l (fun z hz => h z (List.mem_cons_of_mem _ hz)) x e
      omega
theorem mem_getD {l : List Int} {i : Nat} (h : i < l.length) : l.getD i 0 ∈ l := by
  rw [List.getD_eq_getElem?_getD, List.getElem?_eq_getElem h]
  exact List.getElem_mem h
/-- A crowd of n kinds. -/
structure Crw (n : Nat) (c : List Int) : Prop where
  len : c.length = n
  pos : ∀ x ∈ c, 0 ≤ x
  sum : c.sum ≤ 5
theorem Crw.le {n : Nat} {c : List Int} (h : Crw n c) (x : Int) (hx : x ∈ c) : 0 ≤ x ∧ x ≤ 5 := ⟨h.pos x hx, Int.le_trans (sum_ge c h.pos x hx) h.sum⟩
theorem Crw.at {n : Nat} {c : List Int} (h : Crw n c) (i : Nat) (hi : i < n) : 0 ≤ c.getD i 0 ∧ c.getD i 0 ≤ 5 := h.le _ (mem_getD (by rw [h.len]; exact hi))
/-- One less at two places. -/
def decL (c : List Int) (a b : Nat) : List Int := (c.set a (c.getD a 0 - 1)).set b ((c.set a (c.getD a 0 - 1)).getD b 0 - 1)
/-- One more at a place. -/
def incL (c : List Int) (p : Nat) : List Int := c.set p (c.getD p 0 + 1)
def meetL (F G : Nat → Nat → Nat) (c : List Int) (a b : Nat) : List Int := incL (incL (decL c a b) (F a b)) (G a b)
def okB (c : List Int) (a b : Nat) : Bool := (!(c.getD a 0 == 0) && !(c.getD b 0 == 0)) && !(decide (a = b) && decide (c.getD a 0 < 2))
def meetsB (F G : Nat → Nat → Nat) (c : List Int) (a b : Nat) : Bool := okB c a b && !decide (meetL F G c a b = c)
section
variable {n : Nat} {c : List Int} {a b : Nat}
theorem decL_len : (decL c a b).length = c.length := by simp [decL]
theorem incL_len (p : Nat) : (incL c p).length = c.length := by simp [incL]
theorem meetL_len (F G : Nat → Nat → Nat) : (meetL F G c a b).length = c.length := by simp [meetL, incL_len, decL_len]
theorem decL_at (ha : a < c.length) (hb : b < c.length) (j : Nat) : (decL c a b).getD j 0 = c.getD j 0 - (if j = a then 1 else 0) - (if j = b then 1 else 0) := by
  unfold decL
  rw [getD_set _ _ _ _ (by simpa using hb), getD_set _ _ _ _ ha, getD_set _ _ _ _ ha]
  by_cases e1 : j = b
  · subst e1
    by_cases e2 : j = a
    · subst e2; simp
    · simp [e2]
  · by_cases e2 : j = a
    · subst e2; simp [e1]
    · simp [e1, e2]
theorem decL_sum (ha : a < c.length) (hb : b < c.length) : (decL c a b).sum = c.sum - 2 := by
  unfold decL
  rw [sum_set _ _ _ (by simpa using hb), sum_set _ _ _ ha]
  omega
theorem incL_sum {p : Nat} (hp : p < c.length) : (incL c p).sum = c.sum + 1 := by
  unfold incL
  rw [sum_set _ _ _ hp]
  omega
theorem incL_at {p : Nat} (hp : p < c.length) (j : Nat) : (incL c p).getD j 0 = c.getD j 0 + if j = p then 1 else 0 := by
  unfold incL
  rw [getD_set _ _ _ _ hp]
  by_cases e : j = p
  · subst e; simp
  · simp [e]
theorem dec_pos (h : Crw n c) (ha : a < n) (hb : b < n) : okB c a b = true ↔ ∀ j, j < n → 0 ≤ (decL c a b).getD j 0 := by
  have h1 := h.at a ha
  have h2 := h.at b hb
  have hl := h.len
  unfold okB
  simp only [Bool.and_eq_true, Bool.not_eq_true', beq_eq_false_iff_ne, ne_eq, Bool.and_eq_false_iff, decide_eq_false_iff_not]
  constructor
  · rintro ⟨⟨h3, h4⟩, h5⟩ j hj
    have h6 := h.at j hj
    rw [decL_at (by omega) (by omega)]
    by_cases e1 : j = a
    · subst e1
      by_cases e2 : j = b
      · subst e2
        simp only [if_true]
        rcases h5 with h5 | h5
        · exact absurd rfl h5
        · omega
      · simp only [if_true, e2, if_false]; omega
    · by_cases e2 : j = b
      · subst e2; simp only [e1, if_false, if_true]; omega
      · simp only [e1, e2, if_false]; omega
  · intro hh
    have ga := hh a ha
    have gb := hh b hb
    rw [decL_at (by omega) (by omega)] at ga gb
    simp only [if_true] at ga gb
    by_cases e : a = b
    · subst e
      simp only [if_true] at ga
      exact ⟨⟨by omega, by omega⟩, .inr (by omega)⟩
    · rw [if_neg e] at ga
      rw [if_neg (fun h => e h.symm)] at gb
      exact ⟨⟨by omega, by omega⟩, .inl e⟩
theorem pos_of_getD {l : List Int} (h : ∀ j, j < l.length → 0 ≤ l.getD j 0) : ∀ x ∈ l, 0 ≤ x := fun x hx => by
  obtain ⟨j, hj, e⟩ := List.getElem_of_mem hx
  have := h j hj
  rw [List.getD_eq_getElem?_getD, List.getElem?_eq_getElem hj, Option.getD_some, e] at this
  exact this
theorem meet_crw {F G : Nat → Nat → Nat} (h : Crw n c) (ha : a < n) (hb : b < n) (hF : F a b < n) (hG : G a b < n) (ho : okB c a b = true) : Crw n (meetL F G c a b) ∧ (meetL F G c a b).sum = c.sum := by
  have hl := h.len
  have hd := (dec_pos h ha hb).1 ho
  have hs : (meetL F G c a b).sum = c.sum := by
    unfold meetL
    rw [incL_sum (by rw [incL_len, decL_len]; omega), incL_sum (by rw [decL_len]; omega), decL_sum (by omega) (by omega)]
    omega
  refine ⟨⟨by rw [meetL_len]; exact hl, pos_of_getD fun j hj => ?_, by rw [hs]; exact h.sum⟩, hs⟩
  rw [meetL_len] at hj
  have := hd j (by omega)
  unfold meetL
  rw [incL_at (by rw [incL_len, decL_len]; omega), incL_at (by rw [decL_len]; omega)]
  split <;> split <;> omega
end
/-- What comes of the meetings of a with those ahead of b. -/
def rowM (F G : Nat → Nat → Nat) (c : List Int) (a : Nat) : Nat → List (List Int)
  | 0 => []
  | b + 1 => rowM F G c a b ++ (if meetsB F G c a b then [meetL F G c a b] else [])
def allM (F G : Nat → Nat → Nat) (c : List Int) (n : Nat) : Nat → List (List Int)
  | 0 => []
  | a + 1 => allM F G c n a ++ rowM F G c a n
theorem mem_rowM {F G : Nat → Nat → Nat} {c : List Int} {a : Nat} {x : List Int} : ∀ {k}, x ∈ rowM F G c a k ↔ ∃ b, b < k ∧ meetsB F G c a b = true ∧ x = meetL F G c a b
  | 0 => by simp [rowM]
  | k + 1 => by
    rw [rowM, List.mem_append, mem_rowM (k := k)]
    constructor
    · rintro (⟨b, h1, h2, h3⟩ | h)
      · exact ⟨b, by omega, h2, h3⟩
      · by_cases e : meetsB F G c a k = true
        · rw [if_pos e] at h
          exact ⟨k, by omega, e, by simpa using h⟩
        · rw [if_neg e] at h; simp at h
    · rintro ⟨b, h1, h2, h3⟩
      by_cases e : b = k
      · subst e
        rw [if_pos h2]
        exact .inr (by simpa using h3)
      · exact .inl ⟨b, by omega, h2, h3⟩
theorem mem_allM {F G : Nat → Nat → Nat} {c : List Int} {n : Nat} {x : List Int} : ∀ {k}, x ∈ allM F G c n k ↔ ∃ a b, a < k ∧ b < n ∧ meetsB F G c a b = true ∧ x = meetL F G c a b
  | 0 => by simp [allM]
  | k + 1 => by
    rw [allM, List.mem_append, mem_allM (k := k), mem_rowM]
    constructor
    · rintro (⟨a, b, h1, h2, h3, h4⟩ | ⟨b, h2, h3, h4⟩)
      · exact ⟨a, b, by omega, h2, h3, h4⟩
      · exact ⟨k, b, by omega, h2, h3, h4⟩
    · rintro ⟨a, b, h1, h2, h3, h4⟩
      by_cases e : a = k
      · subst e; exact .inr ⟨b, h2, h3, h4⟩
      · exact .inl ⟨a, b, by omega, h2, h3, h4⟩
theorem rowM_len {F G : Nat → Nat → Nat} {c : List Int} {a : Nat} : ∀ k, (rowM F G c a k).length ≤ k
  | 0 => by simp [rowM]
  | k + 1 => by
    have := rowM_len (F := F) (G := G) (c := c) (a := a) k
    rw [rowM, List.length_append]
    split <;> simp <;> omega
/-- The crowds behind one meeting, in order, each once. -/
def nextL (F G : Nat → Nat → Nat) (n : Nat) (c : List Int) : List (List Int) := canL (allM F G c n n)
/-- Rules of meetings: whoever meets is then one of the n kinds. -/
def Rul (n : Nat) (F G : Nat → Nat → Nat) : Prop := ∀ a b, a < n → b < n → F a b < n ∧ G a b < n
theorem mem_nextL {F G : Nat → Nat → Nat} {n : Nat} {c x : List Int} : x ∈ nextL F G n c ↔ ∃ a b, a < n ∧ b < n ∧ meetsB F G c a b = true ∧ x = meetL F G c a b := by
  unfold nextL
  rw [mem_canL, mem_allM]
theorem next_crw {F G : Nat → Nat → Nat} {n : Nat} {c x : List Int} (hR : Rul n F G) (h : Crw n c) (hx : x ∈ nextL F G n c) : Crw n x ∧ x.sum = c.sum ∧ x ≠ c := by
  obtain ⟨a, b, ha, hb, hm, rfl⟩ := mem_nextL.1 hx
  unfold meetsB at hm
  simp only [Bool.and_eq_true, Bool.not_eq_true', decide_eq_false_iff_not] at hm
  obtain ⟨h1, h2⟩ := meet_crw (F := F) (G := G) h ha hb (hR a b ha hb).1 (hR a b ha hb).2 hm.1
  exact ⟨h1, h2, hm.2⟩
/-- What may come of a crowd. -/
inductive Rch (F G : Nat → Nat → Nat) (n : Nat) (c : List Int) : List Int → Prop
  | refl : Rch F G n c c
  | step {x y : List Int} : Rch F G n c x → y ∈ nextL F G n x → Rch F G n c y
theorem Rch.trans {F G : Nat → Nat → Nat} {n : Nat} {c x y : List Int} (h : Rch F G n c x) (k : Rch F G n x y) : Rch F G n c y := by
  induction k with
  | refl => exact h
  | step _ h2 ih => exact .step ih h2
theorem Rch.crw {F G : Nat → Nat → Nat} {n : Nat} {c x : List Int} (hR : Rul n F G) (h : Crw n c) (k : Rch F G n c x) : Crw n x ∧ x.sum = c.sum := by
  induction k with
  | refl => exact ⟨h, rfl⟩
  | step _ h2 ih =>
    obtain ⟨h3, h4, _⟩ := next_crw hR ih.1 h2
    exact ⟨h3, h4.trans ih.2⟩
/-- A list of different numbers below N has at most N. -/
theorem nodup_lt : ∀ (N : Nat) (l : List Nat), l.Nodup → (∀ x ∈ l, x < N) → l.length ≤ N
  | 0, l, _, h => by
    cases l with
    | nil => simp
    | cons x l => exact absurd (h x (List.mem_cons_self ..)) (Nat.not_lt_zero _)
  | N + 1, l, hn, h => by
    have h1 := nodup_lt N (l.erase N) (hn.erase N) (fun x hx => by
      have h2 := List.mem_of_mem_erase hx
      have h3 := h x h2
      have h4 : x ≠ N := fun e => by
        subst e
        exact (List.Nodup.not_mem_erase hn) hx
      omega)
    by_cases e : N ∈ l
    · have := List.length_erase_of_mem e
      omega
    · rw [List.erase_of_not_mem e] at h1
      omega
/-- A crowd as one number. -/
def numL : List Int → Nat
  | [] => 0
  | x :: l => x.toNat + 6 * numL l
theorem numL_lt : ∀ (l : List Int), (∀ x ∈ l, 0 ≤ x ∧ x ≤ 5) → numL l < 6 ^ l.length
  | [], _ => by simp [numL]
  | x :: l, h => by
    have h1 := h x (List.mem_cons_self ..)
    have h2 := numL_lt l (fun y hy => h y (List.mem_cons_of_mem _ hy))
    simp only [numL, List.length_cons, Nat.pow_succ]
    omega
theorem numL_inj : ∀ (l m : List Int), l.length = m.length → (∀ x ∈ l, 0 ≤ x ∧ x ≤ 5) → (∀ x ∈ m, 0 ≤ x ∧ x ≤ 5) → numL l = numL m → l = m
  | [], [], _, _, _, _ => rfl
  | [], _ :: _, h, _, _, _ => by simp at h
  | _ :: _, [], h, _, _, _ => by simp at h
  | x :: l, y :: m, hl, h1, h2, h3 => by
    have a1 := h1 x (List.mem_cons_self ..)
    have a2 := h2 y (List.mem_cons_self ..)
    simp only [numL] at h3
    have e1 : x = y := by omega
    have e2 := numL_inj l m (by simpa using hl) (fun z hz => h1 z (List.mem_cons_of_mem _ hz)) (fun z hz => h2 z (List.mem_cons_of_mem _ hz)) (by omega)
    rw [e1, e2]
/-- There are at most 1296 crowds of at most four kinds. -/
theorem crowds_le {n : Nat} {L : List (List Int)} (hn : n ≤ 4) (hN : L.Nodup) (h : ∀ c ∈ L, Crw n c) : L.length ≤ 1296 := by
  have h1 : (L.map numL).Nodup := by
    rw [List.nodup_iff_pairwise_ne, List.pairwise_map]
    refine List.Pairwise.imp_of_mem ?_ (List.nodup_iff_pairwise_ne.1 hN)
    intro x y hx hy hne e
    exact hne (numL_inj x y ((h x hx).len.trans (h y hy).len.symm) (fun z hz => (h x hx).le z hz) (fun z hz => (h y hy).le z hz) e)
  have h2 := nodup_lt 1296 (L.map numL) h1 (fun x hx => by
    obtain ⟨c, hc, rfl⟩ := List.mem_map.1 hx
    have h3 := numL_lt c (fun z hz => (h c hc).le z hz)
    rw [(h c hc).len] at h3
    have : 6 ^ n ≤ 6 ^ 4 := Nat.pow_le_pow_right (by omega) hn
    omega)
  simpa using h2
end Go.Proofs.YtlniogfinofakaaGreatDoor
/-
  Plain laws: what is reached, what a crowd says for ever, verdicts. No condition.
-/
namespace Go.Proofs.YtlniogfinofakaaGreatDoor
set_option maxRecDepth 100000
set_option maxRecDepth 100000
set_option linter.unusedVariables false

/-- What is said together: 3 nothing, 2 different things. -/
def joinV (a b : Int) : Int := if a = 3 then b else if b = 3 then a else if a = b then a else 2
theorem joinV_assoc (a b c : Int) : joinV (joinV a b) c = joinV a (joinV b c) := by
  unfold joinV
  by_cases h1 : a = 3
  · simp [h1]
  by_cases h2 : b = 3
  · simp [h1, h2]
  by_cases h3 : c = 3
  · by_cases h4 : a = b <;> simp [h1, h2, h3, h4]
  by_cases h4 : a = b
  · subst h4
    by_cases h5 : a = c
    · subst h5; simp [h1]
    · simp [h1, h3, h5]
      try exact fun h => h.symm
  · by_cases h5 : b = c
    · subst h5
      by_cases h6 : 2 = b <;> simp [h1, h2, h4, h6]
    · by_cases h6 : 2 = c <;> by_cases h7 : a = 2 <;> simp [h1, h2, h3, h4, h5, h6, h7] <;> exact fun h => h.symm
def vo : List Int → Int
  | [] => 3
  | v :: l => joinV v (vo l)
theorem joinV_none (a : Int) : joinV a 3 = a := by unfold joinV; split <;> simp_all
theorem joinV_same (a : Int) : joinV a a = a := by unfold joinV; split <;> simp_all
theorem joinV_two (a : Int) : joinV a 2 = 2 := by unfold joinV; split <;> simp_all
theorem two_joinV (a : Int) : joinV 2 a = 2 := by unfold joinV; split <;> simp_all
theorem vo_app : ∀ (l m : List Int), vo (l ++ m) = joinV (vo l) (vo m)
  | [], m => by show vo m = joinV 3 (vo m); unfold joinV; simp
  | v :: l, m => by
    show joinV v (vo (l ++ m)) = joinV (joinV v (vo l)) (vo m)
    rw [vo_app l m, joinV_assoc]
theorem vo_snoc (l : List Int) (v : Int) : vo (l ++ [v]) = joinV (vo l) v := by
  rw [vo_app]
  show joinV _ (joinV v 3) = _
  rw [joinV_none]
/-- Who says something is heard, or all say different things. -/
theorem vo_heard {y : Int} (hy : y ≠ 3) : ∀ {l : List Int}, y ∈ l → vo l = y ∨ vo l = 2
  | [], h => by simp at h
  | x :: l, h => by
    show joinV x (vo l) = y ∨ joinV x (vo l) = 2
    rcases List.mem_cons.1 h with e | e
    · subst e
      unfold joinV
      rw [if_neg hy]
      split
      · exact .inl rfl
      · split
        · exact .inl rfl
        · exact .inr rfl
    · rcases vo_heard hy e with h2 | h2
      · rw [h2]
        unfold joinV
        rw [if_neg hy]
        split
        · exact .inl rfl
        · split
          · rename_i h3; exact .inl h3
          · exact .inr rfl
      · rw [h2, joinV_two]; exact .inr rfl
theorem vo_all {v : Int} : ∀ {l : List Int}, l ≠ [] → (∀ y ∈ l, y = v) → vo l = v
  | [], h, _ => absurd rfl h
  | [x], _, h => by
    show joinV x 3 = v
    rw [joinV_none]; exact h x (by simp)
  | x :: y :: l, _, h => by
    show joinV x (vo (y :: l)) = v
    rw [vo_all (l := y :: l) (by simp) (fun z hz => h z (List.mem_cons_of_mem _ hz)), h x (by simp), joinV_same]
theorem vo_mem {v : Int} (hv : v ≠ 2) {l : List Int} (h : vo l = v) : ∀ y ∈ l, y = 3 ∨ y = v := fun y hy => by
  by_cases h3 : y = 3
  · exact .inl h3
  · rcases vo_heard h3 hy with e | e
    · exact .inr (e.symm.trans h)
    · exact absurd (h.symm.trans e) hv
/-- What the kinds say that are there. -/
def presS (s : Nat → Int) (x : List Int) : Nat → List Int
  | 0 => []
  | k + 1 => presS s x k ++ (if x.getD k 0 == 0 then [] else [s k])
def voice (s : Nat → Int) (n : Nat) (x : List Int) : Int := vo (presS s x n)
theorem mem_presS {s : Nat → Int} {x : List Int} {y : Int} : ∀ {n}, y ∈ presS s x n ↔ ∃ k, k < n ∧ x.getD k 0 ≠ 0 ∧ y = s k
  | 0 => by simp [presS]
  | n + 1 => by
    rw [presS, List.mem_append, mem_presS (n := n)]
    constructor
    · rintro (⟨k, h1, h2, h3⟩ | h)
      · exact ⟨k, by omega, h2, h3⟩
      · by_cases e : x.getD n 0 = 0
        · rw [e] at h; simp at h
        · refine ⟨n, by omega, e, ?_⟩
          rw [if_neg (by simpa using e)] at h
          simpa using h
    · rintro ⟨k, h1, h2, h3⟩
      by_cases e : k = n
      · subst e
        rw [if_neg (by simpa using h2)]
        exact .inr (by simpa using h3)
      · exact .inl ⟨k, by omega, h2, h3⟩
/-- What all crowds of a list say. -/
def voL (s : Nat → Int) (n : Nat) (M : List (List Int)) : Int := vo (M.map (voice s n))
theorem voL_snoc (s : Nat → Int) (n : Nat) (M : List (List Int)) (x : List Int) : voL s n (M ++ [x]) = joinV (voL s n M) (voice s n x) := by
  unfold voL
  rw [List.map_append]
  exact vo_snoc _ _
theorem sum_zero : ∀ (l : List Int), (∀ x ∈ l, 0 ≤ x) → l.sum = 0 → ∀ j, l.getD j 0 = 0
  | [], _, _, j => by simp
  | x :: l, h, hs, j => by
    have h1 := h x (List.mem_cons_self ..)
    have h2 := sum_nonneg l (fun y hy => h y (List.mem_cons_of_mem _ hy))
    simp only [List.sum_cons] at hs
    cases j with
    | zero => simp; omega
    | succ j =>
      rw [List.getD_cons_succ]
      exact sum_zero l (fun y hy => h y (List.mem_cons_of_mem _ hy)) (by omega) j
theorem zero_sum : ∀ (l : List Int), (∀ j, j < l.length → l.getD j 0 = 0) → l.sum = 0
  | [], _ => rfl
  | x :: l, h => by
    have h1 := h 0 (by simp)
    have h2 := zero_sum l (fun j hj => by
      have := h (j + 1) (by simpa using hj)
      rwa [List.getD_cons_succ] at this)
    simp only [List.getD_cons_zero] at h1
    simp only [List.sum_cons]
    omega
theorem voice_none {s : Nat → Int} {n : Nat} {x : List Int} (hs : ∀ k, k < n → s k = 0 ∨ s k = 1) (h : Crw n x) : voice s n x = 3 ↔ x.sum = 0 := by
  constructor
  · intro h1
    refine zero_sum x fun j hj => ?_
    rw [h.len] at hj
    by_cases e : x.getD j 0 = 0
    · exact e
    · have h2 := vo_mem (by omega) h1 (s j) (mem_presS.2 ⟨j, hj, e, rfl⟩)
      rcases hs j hj with h3 | h3 <;> omega
  · intro h1
    have h2 := sum_zero x h.pos h1
    unfold voice
    have : presS s x n = [] := by
      apply List.eq_nil_iff_forall_not_mem.2
      intro y hy
      obtain ⟨k, _, h3, _⟩ := mem_presS.1 hy
      exact h3 (h2 k)
    rw [this]; rfl
/-- The reference's way to the same number. -/
theorem steady_eq {s : Nat → Int} {n : Nat} {c : List Int} {M : List (List Int)} (hs : ∀ k, k < n → s k = 0 ∨ s k = 1) (hc : c ∈ M) (hM : ∀ x ∈ M, Crw n x ∧ x.sum = c.sum) :
    voL s n M = if (∃ x ∈ M, voice s n x ≠ voice s n c) then 2 else voice s n c := by
  by_cases hz : c.sum = 0
  · have h3 : ∀ x ∈ M, voice s n x = 3 := fun x hx => (voice_none hs (hM x hx).1).2 ((hM x hx).2.trans hz)
    rw [if_neg (fun ⟨x, hx, h⟩ => h ((h3 x hx).trans (h3 c hc).symm)), h3 c hc]
    refine vo_all (fun e => ?_) (fun y hy => ?_)
    · rw [List.map_eq_nil_iff] at e; subst e; simp at hc
    · obtain ⟨x, hx, rfl⟩ := List.mem_map.1 hy
      exact h3 x hx
  · have h3 : ∀ x ∈ M, voice s n x ≠ 3 := fun x hx e => hz ((hM x hx).2.symm.trans ((voice_none hs (hM x hx).1).1 e))
    have hh : ∀ x ∈ M, voL s n M = voice s n x ∨ voL s n M = 2 := fun x hx => vo_heard (h3 x hx) (List.mem_map_of_mem hx)
    split
    · rename_i h
      obtain ⟨x, hx, hne⟩ := h
      rcases hh x hx with e | e
      · rcases hh c hc with e2 | e2
        · exact absurd (e.symm.trans e2) hne
        · exact e2
      · exact e
    · rename_i h
      refine vo_all (fun e => ?_) (fun y hy => ?_)
      · rw [List.map_eq_nil_iff] at e; subst e; simp at hc
      · obtain ⟨x, hx, rfl⟩ := List.mem_map.1 hy
        exact Classical.byContradiction fun e => h ⟨x, hx, e⟩
section
variable (F G : Nat → Nat → Nat) (n : Nat) (s : Nat → Int)
/-- The crowds that may come of one, in order. -/
noncomputable def rchL (c : List Int) : List (List Int) := open Classical in if h : ∃ M, SL M ∧ ∀ x, x ∈ M ↔ Rch F G n c x then h.choose else []
variable {F G n s}
theorem rchL_eq {c : List Int} {M : List (List Int)} (h1 : SL M) (h2 : ∀ x, x ∈ M ↔ Rch F G n c x) : rchL F G n c = M := by
  unfold rchL
  have h : ∃ M, SL M ∧ ∀ x, x ∈ M ↔ Rch F G n c x := ⟨M, h1, h2⟩
  rw [dif_pos h]
  exact SL.ext h.choose_spec.1 h1 (fun x => (h.choose_spec.2 x).trans (h2 x).symm)
/-- A list that has the crowd, only what is reached, and with each crowd all behind one meeting. -/
theorem rchL_of {c : List Int} {L : List (List Int)} (h1 : c ∈ L) (h2 : ∀ x ∈ L, Rch F G n c x) (h3 : ∀ x ∈ L, ∀ y ∈ nextL F G n x, y ∈ L) : rchL F G n c = canL L :=
  rchL_eq (sl_canL L) (fun x => by
    rw [mem_canL]
    refine ⟨h2 x, fun h => ?_⟩
    induction h with
    | refl => exact h1
    | step _ h5 ih => exact h3 _ ih _ h5)
variable (F G n s)
/-- What a crowd says for ever. -/
noncomputable def stead (c : List Int) : Int := voL s n (rchL F G n c)
/-- Of each reached crowd one may be reached that says this for ever. -/
noncomputable def canB (c : List Int) (v : Int) : Bool := (rchL F G n c).all (fun x => (rchL F G n x).any (fun y => stead F G n s y == v))
noncomputable def verd (c : List Int) : Int := if canB F G n s c 0 then 0 else if canB F G n s c 1 then 1 else -1
end
end Go.Proofs.YtlniogfinofakaaGreatDoor
