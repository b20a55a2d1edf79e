/-
  Plain laws on crowds: meetings, and what is there behind one. No condition.
-/
import Derived.Test.YtaejakejnllimaaLex
import Derived.Test.YtaejakejnllimaaFunc
namespace Go.Proofs.Ytaejakejnllimaa
set_option linter.unusedVariables false

theorem getD_set (l : List Int) (i j : Nat) (v : Int) (hi : i < l.length) : (l.set i v).getD j 0 = if j = i then v else l.getD j 0 := by
  rw [List.getD_eq_getElem?_getD, List.getElem?_set]
  by_cases e : i = j
  · subst e
    rw [if_pos rfl, if_pos rfl, if_pos hi]
    rfl
  · rw [if_neg e, if_neg (fun h => e h.symm), ← List.getD_eq_getElem?_getD]
theorem sum_set : ∀ (l : List Int) (i : Nat) (v : Int), i < l.length → (l.set i v).sum = l.sum - l.getD i 0 + v
  | [], i, v, h => by simp at h
  | x :: l, 0, v, _ => by simp; omega
  | x :: l, i + 1, v, h => by
    have := sum_set l i v (by simpa using h)
    simp only [List.set_cons_succ, List.sum_cons, this, List.getD_cons_succ]
    omega
theorem sum_nonneg : ∀ (l : List Int), (∀ x ∈ l, 0 ≤ x) → 0 ≤ l.sum
  | [], _ => by simp
  | x :: l, h => by
    have h1 := h x (List.mem_cons_self ..)
    have h2 := sum_nonneg l (fun y hy => h y (List.mem_cons_of_mem _ hy))
    simp only [List.sum_cons]
    omega
theorem sum_ge : ∀ (l : List Int), (∀ x ∈ l, 0 ≤ x) → ∀ x ∈ l, x ≤ l.sum
  | [], _, x, hx => by simp at hx
  | y :: l, h, x, hx => by
    have h1 := h y (List.mem_cons_self ..)
    have h2 := sum_nonneg l (fun z hz => h z (List.mem_cons_of_mem _ hz))
    simp only [List.sum_cons]
    rcases List.mem_cons.1 hx with e | e
    · subst e; omega
    · have := sum_ge l (fun z hz => h z (List.mem_cons_of_mem _ hz)) x e
      omega
theorem mem_getD {l : List Int} {i : Nat} (h : i < l.length) : l.getD i 0 ∈ l := by
  rw [List.getD_eq_getElem?_getD, List.getElem?_eq_getElem h]
  exact List.getElem_mem h
/-- A crowd of n kinds. -/
structure Crw (n : Nat) (c : List Int) : Prop where
  len : c.length = n
  pos : ∀ x ∈ c, 0 ≤ x
  sum : c.sum ≤ 5
theorem Crw.le {n : Nat} {c : List Int} (h : Crw n c) (x : Int) (hx : x ∈ c) : 0 ≤ x ∧ x ≤ 5 := ⟨h.pos x hx, Int.le_trans (sum_ge c h.pos x hx) h.sum⟩
theorem Crw.at {n : Nat} {c : List Int} (h : Crw n c) (i : Nat) (hi : i < n) : 0 ≤ c.getD i 0 ∧ c.getD i 0 ≤ 5 := h.le _ (mem_getD (by rw [h.len]; exact hi))
/-- One less at two places. -/
def decL (c : List Int) (a b : Nat) : List Int := (c.set a (c.getD a 0 - 1)).set b ((c.set a (c.getD a 0 - 1)).getD b 0 - 1)
/-- One more at a place. -/
def incL (c : List Int) (p : Nat) : List Int := c.set p (c.getD p 0 + 1)
def meetL (F G : Nat → Nat → Nat) (c : List Int) (a b : Nat) : List Int := incL (incL (decL c a b) (F a b)) (G a b)
def okB (c : List Int) (a b : Nat) : Bool := (!(c.getD a 0 == 0) && !(c.getD b 0 == 0)) && !(decide (a = b) && decide (c.getD a 0 < 2))
def meetsB (F G : Nat → Nat → Nat) (c : List Int) (a b : Nat) : Bool := okB c a b && !decide (meetL F G c a b = c)
section
variable {n : Nat} {c : List Int} {a b : Nat}
theorem decL_len : (decL c a b).length = c.length := by simp [decL]
theorem incL_len (p : Nat) : (incL c p).length = c.length := by simp [incL]
theorem meetL_len (F G : Nat → Nat → Nat) : (meetL F G c a b).length = c.length := by simp [meetL, incL_len, decL_len]
theorem decL_at (ha : a < c.length) (hb : b < c.length) (j : Nat) : (decL c a b).getD j 0 = c.getD j 0 - (if j = a then 1 else 0) - (if j = b then 1 else 0) := by
  unfold decL
  rw [getD_set _ _ _ _ (by simpa using hb), getD_set _ _ _ _ ha, getD_set _ _ _ _ ha]
  by_cases e1 : j = b
  · subst e1
    by_cases e2 : j = a
    · subst e2; simp
    · simp [e2]
  · by_cases e2 : j = a
    · subst e2; simp [e1]
    · simp [e1, e2]
theorem decL_sum (ha : a < c.length) (hb : b < c.length) : (decL c a b).sum = c.sum - 2 := by
  unfold decL
  rw [sum_set _ _ _ (by simpa using hb), sum_set _ _ _ ha]
  omega
theorem incL_sum {p : Nat} (hp : p < c.length) : (incL c p).sum = c.sum + 1 := by
  unfold incL
  rw [sum_set _ _ _ hp]
  omega
theorem incL_at {p : Nat} (hp : p < c.length) (j : Nat) : (incL c p).getD j 0 = c.getD j 0 + if j = p then 1 else 0 := by
  unfold incL
  rw [getD_set _ _ _ _ hp]
  by_cases e : j = p
  · subst e; simp
  · simp [e]
theorem dec_pos (h : Crw n c) (ha : a < n) (hb : b < n) : okB c a b = true ↔ ∀ j, j < n → 0 ≤ (decL c a b).getD j 0 := by
  have h1 := h.at a ha
  have h2 := h.at b hb
  have hl := h.len
  unfold okB
  simp only [Bool.and_eq_true, Bool.not_eq_true', beq_eq_false_iff_ne, ne_eq, Bool.and_eq_false_iff, decide_eq_false_iff_not]
  constructor
  · rintro ⟨⟨h3, h4⟩, h5⟩ j hj
    have h6 := h.at j hj
    rw [decL_at (by omega) (by omega)]
    by_cases e1 : j = a
    · subst e1
      by_cases e2 : j = b
      · subst e2
        simp only [if_true]
        rcases h5 with h5 | h5
        · exact absurd rfl h5
        · omega
      · simp only [if_true, e2, if_false]; omega
    · by_cases e2 : j = b
      · subst e2; simp only [e1, if_false, if_true]; omega
      · simp only [e1, e2, if_false]; omega
  · intro hh
    have ga := hh a ha
    have gb := hh b hb
    rw [decL_at (by omega) (by omega)] at ga gb
    simp only [if_true] at ga gb
    by_cases e : a = b
    · subst e
      simp only [if_true] at ga
      exact ⟨⟨by omega, by omega⟩, .inr (by omega)⟩
    · rw [if_neg e] at ga
      rw [if_neg (fun h => e h.symm)] at gb
      exact ⟨⟨by omega, by omega⟩, .inl e⟩
theorem pos_of_getD {l : List Int} (h : ∀ j, j < l.length → 0 ≤ l.getD j 0) : ∀ x ∈ l, 0 ≤ x := fun x hx => by
  obtain ⟨j, hj, e⟩ := List.getElem_of_mem hx
  have := h j hj
  rw [List.getD_eq_getElem?_getD, List.getElem?_eq_getElem hj, Option.getD_some, e] at this
  exact this
theorem meet_crw {F G : Nat → Nat → Nat} (h : Crw n c) (ha : a < n) (hb : b < n) (hF : F a b < n) (hG : G a b < n) (ho : okB c a b = true) : Crw n (meetL F G c a b) ∧ (meetL F G c a b).sum = c.sum := by
  have hl := h.len
  have hd := (dec_pos h ha hb).1 ho
  have hs : (meetL F G c a b).sum = c.sum := by
    unfold meetL
    rw [incL_sum (by rw [incL_len, decL_len]; omega), incL_sum (by rw [decL_len]; omega), decL_sum (by omega) (by omega)]
    omega
  refine ⟨⟨by rw [meetL_len]; exact hl, pos_of_getD fun j hj => ?_, by rw [hs]; exact h.sum⟩, hs⟩
  rw [meetL_len] at hj
  have := hd j (by omega)
  unfold meetL
  rw [incL_at (by rw [incL_len, decL_len]; omega), incL_at (by rw [decL_len]; omega)]
  split <;> split <;> omega
end
/-- What comes of the meetings of a with those ahead of b. -/
def rowM (F G : Nat → Nat → Nat) (c : List Int) (a : Nat) : Nat → List (List Int)
  | 0 => []
  | b + 1 => rowM F G c a b ++ (if meetsB F G c a b then [meetL F G c a b] else [])
def allM (F G : Nat → Nat → Nat) (c : List Int) (n : Nat) : Nat → List (List Int)
  | 0 => []
  | a + 1 => allM F G c n a ++ rowM F G c a n
theorem mem_rowM {F G : Nat → Nat → Nat} {c : List Int} {a : Nat} {x : List Int} : ∀ {k}, x ∈ rowM F G c a k ↔ ∃ b, b < k ∧ meetsB F G c a b = true ∧ x = meetL F G c a b
  | 0 => by simp [rowM]
  | k + 1 => by
    rw [rowM, List.mem_append, mem_rowM (k := k)]
    constructor
    · rintro (⟨b, h1, h2, h3⟩ | h)
      · exact ⟨b, by omega, h2, h3⟩
      · by_cases e : meetsB F G c a k = true
        · rw [if_pos e] at h
          exact ⟨k, by omega, e, by simpa using h⟩
        · rw [if_neg e] at h; simp at h
    · rintro ⟨b, h1, h2, h3⟩
      by_cases e : b = k
      · subst e
        rw [if_pos h2]
        exact .inr (by simpa using h3)
      · exact .inl ⟨b, by omega, h2, h3⟩
theorem mem_allM {F G : Nat → Nat → Nat} {c : List Int} {n : Nat} {x : List Int} : ∀ {k}, x ∈ allM F G c n k ↔ ∃ a b, a < k ∧ b < n ∧ meetsB F G c a b = true ∧ x = meetL F G c a b
  | 0 => by simp [allM]
  | k + 1 => by
    rw [allM, List.mem_append, mem_allM (k := k), mem_rowM]
    constructor
    · rintro (⟨a, b, h1, h2, h3, h4⟩ | ⟨b, h2, h3, h4⟩)
      · exact ⟨a, b, by omega, h2, h3, h4⟩
      · exact ⟨k, b, by omega, h2, h3, h4⟩
    · rintro ⟨a, b, h1, h2, h3, h4⟩
      by_cases e : a = k
      · subst e; exact .inr ⟨b, h2, h3, h4⟩
      · exact .inl ⟨a, b, by omega, h2, h3, h4⟩
theorem rowM_len {F G : Nat → Nat → Nat} {c : List Int} {a : Nat} : ∀ k, (rowM F G c a k).length ≤ k
  | 0 => by simp [rowM]
  | k + 1 => by
    have := rowM_len (F := F) (G := G) (c := c) (a := a) k
    rw [rowM, List.length_append]
    split <;> simp <;> omega
/-- The crowds behind one meeting, in order, each once. -/
def nextL (F G : Nat → Nat → Nat) (n : Nat) (c : List Int) : List (List Int) := canL (allM F G c n n)
/-- Rules of meetings: whoever meets is then one of the n kinds. -/
def Rul (n : Nat) (F G : Nat → Nat → Nat) : Prop := ∀ a b, a < n → b < n → F a b < n ∧ G a b < n
theorem mem_nextL {F G : Nat → Nat → Nat} {n : Nat} {c x : List Int} : x ∈ nextL F G n c ↔ ∃ a b, a < n ∧ b < n ∧ meetsB F G c a b = true ∧ x = meetL F G c a b := by
  unfold nextL
  rw [mem_canL, mem_allM]
theorem next_crw {F G : Nat → Nat → Nat} {n : Nat} {c x : List Int} (hR : Rul n F G) (h : Crw n c) (hx : x ∈ nextL F G n c) : Crw n x ∧ x.sum = c.sum ∧ x ≠ c := by
  obtain ⟨a, b, ha, hb, hm, rfl⟩ := mem_nextL.1 hx
  unfold meetsB at hm
  simp only [Bool.and_eq_true, Bool.not_eq_true', decide_eq_false_iff_not] at hm
  obtain ⟨h1, h2⟩ := meet_crw (F := F) (G := G) h ha hb (hR a b ha hb).1 (hR a b ha hb).2 hm.1
  exact ⟨h1, h2, hm.2⟩
/-- What may come of a crowd. -/
inductive Rch (F G : Nat → Nat → Nat) (n : Nat) (c : List Int) : List Int → Prop
  | refl : Rch F G n c c
  | step {x y : List Int} : Rch F G n c x → y ∈ nextL F G n x → Rch F G n c y
theorem Rch.trans {F G : Nat → Nat → Nat} {n : Nat} {c x y : List Int} (h : Rch F G n c x) (k : Rch F G n x y) : Rch F G n c y := by
  induction k with
  | refl => exact h
  | step _ h2 ih => exact .step ih h2
theorem Rch.crw {F G : Nat → Nat → Nat} {n : Nat} {c x : List Int} (hR : Rul n F G) (h : Crw n c) (k : Rch F G n c x) : Crw n x ∧ x.sum = c.sum := by
  induction k with
  | refl => exact ⟨h, rfl⟩
  | step _ h2 ih =>
    obtain ⟨h3, h4, _⟩ := next_crw hR ih.1 h2
    exact ⟨h3, h4.trans ih.2⟩
/-- A list of different numbers below N has at most N. -/
theorem nodup_lt : ∀ (N : Nat) (l : List Nat), l.Nodup → (∀ x ∈ l, x < N) → l.length ≤ N
  | 0, l, _, h => by
    cases l with
    | nil => simp
    | cons x l => exact absurd (h x (List.mem_cons_self ..)) (Nat.not_lt_zero _)
  | N + 1, l, hn, h => by
    have h1 := nodup_lt N (l.erase N) (hn.erase N) (fun x hx => by
      have h2 := List.mem_of_mem_erase hx
      have h3 := h x h2
      have h4 : x ≠ N := fun e => by
        subst e
        exact (List.Nodup.not_mem_erase hn) hx
      omega)
    by_cases e : N ∈ l
    · have := List.length_erase_of_mem e
      omega
    · rw [List.erase_of_not_mem e] at h1
      omega
/-- A crowd as one number. -/
def numL : List Int → Nat
  | [] => 0
  | x :: l => x.toNat + 6 * numL l
theorem numL_lt : ∀ (l : List Int), (∀ x ∈ l, 0 ≤ x ∧ x ≤ 5) → numL l < 6 ^ l.length
  | [], _ => by simp [numL]
  | x :: l, h => by
    have h1 := h x (List.mem_cons_self ..)
    have h2 := numL_lt l (fun y hy => h y (List.mem_cons_of_mem _ hy))
    simp only [numL, List.length_cons, Nat.pow_succ]
    omega
theorem numL_inj : ∀ (l m : List Int), l.length = m.length → (∀ x ∈ l, 0 ≤ x ∧ x ≤ 5) → (∀ x ∈ m, 0 ≤ x ∧ x ≤ 5) → numL l = numL m → l = m
  | [], [], _, _, _, _ => rfl
  | [], _ :: _, h, _, _, _ => by simp at h
  | _ :: _, [], h, _, _, _ => by simp at h
  | x :: l, y :: m, hl, h1, h2, h3 => by
    have a1 := h1 x (List.mem_cons_self ..)
    have a2 := h2 y (List.mem_cons_self ..)
    simp only [numL] at h3
    have e1 : x = y := by omega
    have e2 := numL_inj l m (by simpa using hl) (fun z hz => h1 z (List.mem_cons_of_mem _ hz)) (fun z hz => h2 z (List.mem_cons_of_mem _ hz)) (by omega)
    rw [e1, e2]
/-- There are at most 1296 crowds of at most four kinds. -/
theorem crowds_le {n : Nat} {L : List (List Int)} (hn : n ≤ 4) (hN : L.Nodup) (h : ∀ c ∈ L, Crw n c) : L.length ≤ 1296 := by
  have h1 : (L.map numL).Nodup := by
    rw [List.nodup_iff_pairwise_ne, List.pairwise_map]
    refine List.Pairwise.imp_of_mem ?_ (List.nodup_iff_pairwise_ne.1 hN)
    intro x y hx hy hne e
    exact hne (numL_inj x y ((h x hx).len.trans (h y hy).len.symm) (fun z hz => (h x hx).le z hz) (fun z hz => (h y hy).le z hz) e)
  have h2 := nodup_lt 1296 (L.map numL) h1 (fun x hx => by
    obtain ⟨c, hc, rfl⟩ := List.mem_map.1 hx
    have h3 := numL_lt c (fun z hz => (h c hc).le z hz)
    rw [(h c hc).len] at h3
    have : 6 ^ n ≤ 6 ^ 4 := Nat.pow_le_pow_right (by omega) hn
    omega)
  simpa using h2
end Go.Proofs.Ytaejakejnllimaa
