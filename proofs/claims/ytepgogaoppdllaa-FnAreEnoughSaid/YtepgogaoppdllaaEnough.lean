/-
  Plain laws on runs that are enough: the program's and the reference's searches, and what they find. Condition: at most three processes, at most four rounds.
-/
import Derived.Test.YtepgogaoppdllaaAgreeLaw
import Derived.Test.YtepgogaoppdllaaStopsOwn
namespace Go.Proofs.Ytepgogaoppdllaa
open Go.RowKit

/-- Do all below k? -/
def allN (f : Nat → Bool) : Nat → Bool
  | 0 => true
  | k + 1 => allN f k && f k
theorem allN_iff (f : Nat → Bool) : ∀ k, allN f k = true ↔ ∀ i, i < k → f i = true
  | 0 => by simp [allN]
  | k + 1 => by
    rw [allN, Bool.and_eq_true, allN_iff f k]
    constructor
    · rintro ⟨h1, h2⟩ i hi
      by_cases e : i = k
      · rw [e]; exact h2
      · exact h1 i (by omega)
    · intro h
      exact ⟨fun i hi => h i (by omega), h k (by omega)⟩
theorem allN_false (f : Nat → Bool) (k i : Nat) (hi : i < k) (h : f i = false) : allN f k = false := by
  cases e : allN f k
  · rfl
  · rw [(allN_iff f k).1 e i hi] at h; cases h
/-- Is the run agreed? It has m stops, of numbers zs. -/
def agrZ (n : Nat) (x : Nat → Int) (R m : Nat) (zs : List Int) : Bool := agrB n (dec n x m (stopsOf zs) R)
/-- The program's search, from the process p on, f to go. -/
def treeI (n s R : Nat) (x : Nat → Int) : Nat → Nat → Nat → List Int → Bool
  | 0, _, m, zs => agrZ n x R m zs
  | f + 1, p, m, zs => treeI n s R x f (p + 1) m zs && (decide (m = s) || allN (fun r => allN (fun h => treeI n s R x f (p + 1) (m + 1) (zs ++ [(p : Int), ((r + 1 : Nat) : Int), (h : Int)])) (2 ^ n)) 4)
/-- The reference's search, from the process p on, with so many stops left. -/
def treeS (n R : Nat) (x : Nat → Int) : Nat → Nat → Nat → List Int → Bool
  | 0, _, m, zs => agrZ n x R m zs
  | f + 1, p, m, zs => agrZ n x R m zs && allN (fun i => decide (i < p) || allN (fun r => allN (fun h => h.testBit i || treeS n R x f (i + 1) (m + 1) (zs ++ [(i : Int), ((r + 1 : Nat) : Int), (h : Int)])) (2 ^ n)) R) n
def xBits (j : Nat) (p : Nat) : Int := if j.testBit p then 1 else 0
def searchI (n s R : Nat) : Bool := allN (fun j => treeI n s R (xBits j) n 0 0 []) (2 ^ n)
def searchS (n s R : Nat) : Nat → List Int → Bool
  | 0, l => treeS n R (fun i => l.getD i 0) s 0 0 []
  | f + 1, l => searchS n s R f (l ++ [0]) && searchS n s R f (l ++ [1])
/-- The stops so far make a valid run, and all are of processes below p. -/
structure RunZ (n : Nat) (x : Nat → Int) (p m : Nat) (zs : List Int) : Prop where
  ok : runB n x m (stopsOf zs) = true
  len : zs.length = m * 3
  low : lastP (stopsOf zs) m < (p : Int)
theorem stopsOf_old (zs ws : List Int) (i : Nat) (h : i * 3 + 2 < zs.length) : stopsOf (zs ++ ws) i = stopsOf zs i := by
  unfold stopsOf
  simp only [List.getD_eq_getElem?_getD]
  rw [List.getElem?_append_left (by omega), List.getElem?_append_left (by omega), List.getElem?_append_left (by omega)]
theorem stopsOf_new (zs : List Int) (m : Nat) (a b c : Int) (h : zs.length = m * 3) : stopsOf (zs ++ [a, b, c]) m = (a, b, c) := by
  unfold stopsOf
  simp only [List.getD_eq_getElem?_getD]
  rw [List.getElem?_append_right (by omega), List.getElem?_append_right (by omega), List.getElem?_append_right (by omega)]
  rw [show m * 3 - zs.length = 0 by omega, show m * 3 + 1 - zs.length = 1 by omega, show m * 3 + 2 - zs.length = 2 by omega]
  rfl
theorem RunZ.wider {n : Nat} {x : Nat → Int} {p q m : Nat} {zs : List Int} (h : RunZ n x p m zs) (hq : p ≤ q) : RunZ n x q m zs := ⟨h.ok, h.len, by have := h.low; omega⟩
theorem RunZ.add {n : Nat} {x : Nat → Int} {p m : Nat} {zs : List Int} (h : RunZ n x p m zs) (i r k : Nat) (hi : p ≤ i) (hin : i < n) (hr : r < 4) (hk : k < 2 ^ n) : RunZ n x (i + 1) (m + 1) (zs ++ [(i : Int), ((r + 1 : Nat) : Int), (k : Int)]) := by
  have hl := h.len
  have hlow := h.low
  have hok := h.ok
  refine ⟨?_, by simp; omega, by simp only [lastP]; rw [stopsOf_new zs m _ _ _ hl]; dsimp only; omega⟩
  unfold runB at hok ⊢
  rw [Bool.and_eq_true] at hok ⊢
  refine ⟨hok.1, ?_⟩
  have h2 : anyB (stopBad n (stopsOf zs)) m = false := by simpa using hok.2
  have hlast : ∀ j, j ≤ m → lastP (stopsOf (zs ++ [(i : Int), ((r + 1 : Nat) : Int), (k : Int)])) j = lastP (stopsOf zs) j := fun j hj => by
    cases j with
    | zero => rfl
    | succ j => simp only [lastP]; rw [stopsOf_old _ _ _ (by omega)]
  have : anyB (stopBad n (stopsOf (zs ++ [(i : Int), ((r + 1 : Nat) : Int), (k : Int)]))) (m + 1) = false := by
    rw [anyB_false]
    intro j hj
    by_cases e : j = m
    · subst e
      unfold stopBad
      rw [hlast j (Nat.le_refl _), stopsOf_new zs j _ _ _ hl]
      dsimp only
      have hkk : ((k : Nat) : Int) ≤ ((2 ^ n : Nat) : Int) - 1 := by omega
      rw [inB_mk (by omega) (by omega), inB_mk (by omega) (by omega), inB_mk (by omega) hkk]
      rfl
    · have := (anyB_false _ _).1 h2 j (by omega)
      unfold stopBad at this ⊢
      rw [hlast j (by omega), stopsOf_old _ _ _ (by omega)]
      exact this
  rw [this]; rfl
theorem RunZ.nil (n : Nat) (x : Nat → Int) (h1 : 1 ≤ n) (h4 : n ≤ 4) (hx : ∀ i, i < n → 0 ≤ x i ∧ x i ≤ 3) : RunZ n x 0 0 [] := by
  refine ⟨?_, rfl, by simp [lastP]⟩
  unfold runB
  rw [inB_mk (by omega) (by omega)]
  have : anyB (fun i => !inB (x i) 0 3) n = false := by
    rw [anyB_false]
    intro i hi
    rw [inB_mk (hx i hi).1 (hx i hi).2]; rfl
  rw [this]
  rfl
/-- A round without a stop: two that are left know the same, and all agree. -/
theorem agree_free {n m : Nat} {x : Nat → Int} {st : Nat → Int × Int × Int} (h : runB n x m st = true) (R r : Nat) (hr : r < R) (hno : ∀ i, i < m → (st i).2.1 ≠ ((r + 1 : Nat) : Int)) (hR : R ≤ 4) : agrB n (dec n x m st R) = true := by
  have hno' : ∀ q, q < n → (stopF st m q).2.1 ≠ ((r + 1 : Nat) : Int) := fun q _ e => by
    rcases stop_find h (q : Int) with ⟨i, hi, _, e2, _⟩ | ⟨_, e2⟩
    · rw [e2] at e; exact hno i hi e
    · rw [e2] at e; dsimp only at e; omega
  obtain ⟨U, hU⟩ := same_from n (fun q => (stopF st m q).2.1) (fun q p r => heard st m q p r) (aft n st m)
    (fun q p r e => by
      unfold heard at e
      rw [Bool.or_eq_true, Bool.and_eq_true] at e
      rcases e with e | e
      · have := of_decide_eq_true e; omega
      · have : (stopF st m q).2.1 = (r : Int) := by simpa using e.1
        omega)
    (fun q p r e => by unfold heard; simp [e]) (fun _ _ => rfl) r hno'
  obtain ⟨j, rfl⟩ : ∃ j, R = r + 1 + j := ⟨R - (r + 1), by omega⟩
  rw [agrB_iff]
  intro i k hi hk h1 h2
  unfold dec at *
  by_cases e1 : (stopF st m i).2.1 ≤ ((r + 1 + j : Nat) : Int)
  · rw [if_pos e1] at h1; omega
  · by_cases e2 : (stopF st m k).2.1 ≤ ((r + 1 + j : Nat) : Int)
    · rw [if_pos e2] at h2; omega
    · rw [if_neg e1, if_neg e2, hU j i hi (by omega), hU j k hk (by omega)]
theorem stop_good {n m : Nat} {x : Nat → Int} {st : Nat → Int × Int × Int} (h : runB n x m st = true) (j : Nat) (hj : j < m) : lastP st j + 1 ≤ (st j).1 ∧ (st j).1 ≤ (n : Int) - 1 := by
  unfold runB at h
  rw [Bool.and_eq_true] at h
  have h2 : anyB (stopBad n st) m = false := by simpa using h.2
  have := (anyB_false _ _).1 h2 j hj
  simp only [stopBad, Bool.not_eq_false', Bool.and_eq_true] at this
  exact inB_true this.1.1
/-- A round without a stop, or one process is left. -/
theorem agree_last {n m : Nat} {x : Nat → Int} {st : Nat → Int × Int × Int} (h : runB n x m st = true) (R : Nat) (hR : R ≤ 4) (hn : n ≤ 3) (hm : m + 1 ≤ n) (hge : n ≤ R + 1) : agrB n (dec n x m st R) = true := by
  by_cases hmR : m < R
  · exact agree_few h R hR hmR
  · have hmn : n = m + 1 ∧ R = m := by omega
    obtain ⟨rfl, rfl⟩ := hmn
    by_cases hf : ∃ r, r < R ∧ ∀ i, i < R → (st i).2.1 ≠ ((r + 1 : Nat) : Int)
    · obtain ⟨r, hr, hno⟩ := hf
      exact agree_free h R r hr hno hR
    · have g : ∀ r, r < R → ∃ i, i < R ∧ (st i).2.1 = ((r + 1 : Nat) : Int) := fun r hr => by
        apply Classical.byContradiction
        intro hn
        exact hf ⟨r, hr, fun i hi e => hn ⟨i, hi, e⟩⟩
      have out : ∀ i, i < R + 1 → 0 ≤ dec (R + 1) x R st R i → ∀ j, j < R → (st j).2.1 ≤ (R : Int) → (st j).1 ≠ (i : Int) := fun i _ h0 j hj hle e => by
        unfold dec at h0
        rcases stop_find h (i : Int) with ⟨j', hj', e1, e2, e3⟩ | ⟨h3, _⟩
        · have := e3 j hj e
          subst this
          rw [e2, if_pos hle] at h0
          omega
        · exact h3 j hj e
      rw [agrB_iff]
      intro i k hi hk h1 h2
      have hik : i = k := by
        obtain rfl | rfl | rfl : R = 0 ∨ R = 1 ∨ R = 2 := by omega
        · omega
        · obtain ⟨a, ha, ea⟩ := g 0 (by omega)
          obtain rfl : a = 0 := by omega
          have g0 := stop_good h 0 (by omega)
          simp only [lastP] at g0
          have o1 := out i hi h1 0 (by omega) (by omega)
          have o2 := out k hk h2 0 (by omega) (by omega)
          omega
        · obtain ⟨a, ha, ea⟩ := g 0 (by omega)
          obtain ⟨b, hb, eb⟩ := g 1 (by omega)
          have g0 := stop_good h 0 (by omega)
          have g1 := stop_good h 1 (by omega)
          simp only [lastP] at g0 g1
          have both : (st 0).2.1 ≤ ((2 : Nat) : Int) ∧ (st 1).2.1 ≤ ((2 : Nat) : Int) := by
            obtain rfl | rfl : a = 0 ∨ a = 1 := by omega
            · obtain rfl | rfl : b = 0 ∨ b = 1 := by omega
              · omega
              · omega
            · obtain rfl | rfl : b = 0 ∨ b = 1 := by omega
              · omega
              · omega
          have o1 := out i hi h1 0 (by omega) both.1
          have o2 := out k hk h2 0 (by omega) both.1
          have o3 := out i hi h1 1 (by omega) both.2
          have o4 := out k hk h2 1 (by omega) both.2
          omega
      rw [hik]
theorem agrZ_true {n s R p m : Nat} {x : Nat → Int} {zs : List Int} (h : RunZ n x p m zs) (hn : n ≤ 3) (hs : s + 1 ≤ n) (hR : R ≤ 4) (hm : m ≤ s) (hg : s < R ∨ n ≤ R + 1) : agrZ n x R m zs = true := by
  rcases hg with hg | hg
  · exact agree_few h.ok R hR (by omega)
  · exact agree_last h.ok R hR hn (by omega) hg
theorem treeI_true {n s R : Nat} {x : Nat → Int} (hn : n ≤ 3) (hs : s + 1 ≤ n) (hR : R ≤ 4) (hg : s < R ∨ n ≤ R + 1) : ∀ (f p m : Nat) (zs : List Int), p + f = n → RunZ n x p m zs → m ≤ s → treeI n s R x f p m zs = true
  | 0, _, _, _, _, h, hm => agrZ_true h hn hs hR hm hg
  | f + 1, p, m, zs, hp, h, hm => by
    rw [treeI, Bool.and_eq_true, Bool.or_eq_true]
    refine ⟨treeI_true hn hs hR hg f (p + 1) m zs (by omega) (h.wider (by omega)) hm, ?_⟩
    by_cases e : m = s
    · exact .inl (by simpa using e)
    · refine .inr ((allN_iff _ _).2 fun r hr => (allN_iff _ _).2 fun k hk => ?_)
      exact treeI_true hn hs hR hg f (p + 1) (m + 1) _ (by omega) (h.add p r k (Nat.le_refl _) (by omega) hr hk) (by omega)
theorem treeS_true {n s R : Nat} {x : Nat → Int} (hn : n ≤ 3) (hs : s + 1 ≤ n) (hR : R ≤ 4) (hg : s < R ∨ n ≤ R + 1) : ∀ (f p m : Nat) (zs : List Int), m + f = s → RunZ n x p m zs → treeS n R x f p m zs = true
  | 0, _, _, _, _, h => agrZ_true h hn hs hR (by omega) hg
  | f + 1, p, m, zs, hm, h => by
    rw [treeS, Bool.and_eq_true]
    refine ⟨agrZ_true h hn hs hR (by omega) hg, (allN_iff _ _).2 fun i hi => ?_⟩
    by_cases e : i < p
    · simp [e]
    · rw [Bool.or_eq_true]
      refine .inr ((allN_iff _ _).2 fun r hr => (allN_iff _ _).2 fun k hk => ?_)
      rw [Bool.or_eq_true]
      exact .inr (treeS_true hn hs hR hg f (i + 1) (m + 1) _ (by omega) (h.add i r k (by omega) hi (by omega) hk))
theorem xBits_in (j i : Nat) : 0 ≤ xBits j i ∧ xBits j i ≤ 3 := by unfold xBits; split <;> omega
theorem searchI_true {n s R : Nat} (h1 : 1 ≤ n) (hn : n ≤ 3) (hs : s + 1 ≤ n) (hR : R ≤ 4) (hg : s < R ∨ n ≤ R + 1) : searchI n s R = true :=
  (allN_iff _ _).2 fun j _ => treeI_true hn hs hR hg n 0 0 [] (by omega) (RunZ.nil n _ h1 (by omega) (fun i _ => xBits_in j i)) (by omega)
theorem searchS_true {n s R : Nat} (h1 : 1 ≤ n) (hn : n ≤ 3) (hs : s + 1 ≤ n) (hR : R ≤ 4) (hg : s < R ∨ n ≤ R + 1) : ∀ (f : Nat) (l : List Int), (∀ i, 0 ≤ l.getD i 0 ∧ l.getD i 0 ≤ 3) → searchS n s R f l = true
  | 0, l, hl => treeS_true hn hs hR hg s 0 0 [] (by omega) (RunZ.nil n _ h1 (by omega) (fun i _ => hl i))
  | f + 1, l, hl => by
    have app : ∀ v : Int, 0 ≤ v → v ≤ 3 → ∀ i, 0 ≤ (l ++ [v]).getD i 0 ∧ (l ++ [v]).getD i 0 ≤ 3 := fun v h0 h3 i => by
      rw [List.getD_eq_getElem?_getD, List.getElem?_append]
      split
      · have := hl i; rw [List.getD_eq_getElem?_getD] at this; exact this
      · by_cases e : i - l.length = 0
        · rw [e]; simp; omega
        · rw [List.getElem?_eq_none (by simp; omega)]; simp
    rw [searchS, Bool.and_eq_true]
    exact ⟨searchS_true h1 hn hs hR hg f _ (app 0 (by omega) (by omega)), searchS_true h1 hn hs hR hg f _ (app 1 (by omega) (by omega))⟩
/-- Where they are not enough: both searches find it. -/
theorem search_not : ([(2, 0, 0), (2, 1, 0), (3, 0, 0), (3, 1, 0), (3, 2, 0), (3, 1, 1), (3, 2, 1)] : List (Nat × Nat × Nat)).all (fun t => !searchI t.1 t.2.1 t.2.2 && !searchS t.1 t.2.1 t.2.2 t.1 []) = true := by decide +kernel
/-- Are rounds enough? -/
def enoughB (n s R : Int) : Bool := inB n 1 3 && inB s 0 (n - 1) && inB R 0 4 && (decide (s < R) || decide (n - 1 ≤ R))
theorem search_eq {n s R : Nat} (h1 : 1 ≤ n) (hn : n ≤ 3) (hs : s + 1 ≤ n) (hR : R ≤ 4) : searchI n s R = (decide (s < R) || decide (n ≤ R + 1)) ∧ searchS n s R n [] = (decide (s < R) || decide (n ≤ R + 1)) := by
  by_cases hg : s < R ∨ n ≤ R + 1
  · rw [searchI_true h1 hn hs hR hg, searchS_true h1 hn hs hR hg n [] (fun i => by simp)]
    have : (decide (s < R) || decide (n ≤ R + 1)) = true := by simpa using hg
    rw [this]
    exact ⟨rfl, rfl⟩
  · have e : (decide (s < R) || decide (n ≤ R + 1)) = false := by simpa using hg
    have hmem : ((n, s, R) : Nat × Nat × Nat) ∈ ([(2, 0, 0), (2, 1, 0), (3, 0, 0), (3, 1, 0), (3, 2, 0), (3, 1, 1), (3, 2, 1)] : List (Nat × Nat × Nat)) := by
      have : (n = 2 ∧ s = 0 ∧ R = 0) ∨ (n = 2 ∧ s = 1 ∧ R = 0) ∨ (n = 3 ∧ s = 0 ∧ R = 0) ∨ (n = 3 ∧ s = 1 ∧ R = 0) ∨ (n = 3 ∧ s = 2 ∧ R = 0) ∨ (n = 3 ∧ s = 1 ∧ R = 1) ∨ (n = 3 ∧ s = 2 ∧ R = 1) := by omega
      rcases this with ⟨rfl, rfl, rfl⟩ | ⟨rfl, rfl, rfl⟩ | ⟨rfl, rfl, rfl⟩ | ⟨rfl, rfl, rfl⟩ | ⟨rfl, rfl, rfl⟩ | ⟨rfl, rfl, rfl⟩ | ⟨rfl, rfl, rfl⟩ <;> simp
    have := (List.all_eq_true.1 search_not) _ hmem
    rw [Bool.and_eq_true] at this
    rw [e]
    exact ⟨by simpa using this.1, by simpa using this.2⟩
end Go.Proofs.Ytepgogaoppdllaa
