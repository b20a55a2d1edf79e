/-
  Plain laws on lists of numbers in order, each once. No condition.
-/
import Derived.Lib.Hide
import Derived.Sort.Statements
namespace Go.Proofs.YtlniogfinofakaaGreatDoor
set_option maxRecDepth 100000
set_option maxRecDepth 100000
set_option linter.unusedVariables false

/-- Which of two lists stands first: -1, 0 or 1. -/
def cmpL : List Int → List Int → Int
  | [], [] => 0
  | [], _ :: _ => -1
  | _ :: _, [] => 1
  | a :: x, b :: y => if a < b then -1 else if b < a then 1 else cmpL x y
theorem cmpL_self : ∀ x, cmpL x x = 0
  | [] => rfl
  | a :: x => by simp [cmpL, cmpL_self x]
theorem cmpL_zero : ∀ x y, cmpL x y = 0 → x = y
  | [], [], _ => rfl
  | [], _ :: _, h => by simp [cmpL] at h
  | _ :: _, [], h => by simp [cmpL] at h
  | a :: x, b :: y, h => by
    unfold cmpL at h
    split at h
    · omega
    · split at h
      · omega
      · rw [cmpL_zero x y h, show a = b by omega]
theorem cmpL_three : ∀ x y, cmpL x y = -1 ∨ cmpL x y = 0 ∨ cmpL x y = 1
  | [], [] => .inr (.inl rfl)
  | [], _ :: _ => .inl rfl
  | _ :: _, [] => .inr (.inr rfl)
  | a :: x, b :: y => by
    unfold cmpL
    split
    · exact .inl rfl
    · split
      · exact .inr (.inr rfl)
      · exact cmpL_three x y
theorem cmpL_swap : ∀ x y, cmpL y x = - cmpL x y
  | [], [] => rfl
  | [], _ :: _ => rfl
  | _ :: _, [] => rfl
  | a :: x, b :: y => by
    unfold cmpL
    by_cases h1 : a < b
    · rw [if_pos h1, if_neg (show ¬ b < a by omega), if_pos h1]; rfl
    · by_cases h2 : b < a
      · rw [if_pos h2, if_neg h1, if_pos h2]
      · rw [if_neg h1, if_neg h2, if_neg h2, if_neg h1]; exact cmpL_swap x y
theorem cmpL_trans : ∀ x y z, cmpL x y < 0 → cmpL y z < 0 → cmpL x z < 0
  | [], [], _, h, _ => by simp [cmpL] at h
  | [], _ :: _, [], _, h => by simp [cmpL] at h
  | [], _ :: _, _ :: _, _, _ => by simp [cmpL]
  | _ :: _, [], _, h, _ => by simp [cmpL] at h
  | _ :: _, _ :: _, [], _, h => by simp [cmpL] at h
  | a :: x, b :: y, c :: z, h1, h2 => by
    unfold cmpL at h1 h2 ⊢
    by_cases e1 : a < b
    · by_cases e2 : b < c
      · rw [if_pos (show a < c by omega)]; omega
      · by_cases e3 : c < b
        · rw [if_neg e2, if_pos e3] at h2; omega
        · rw [if_pos (show a < c by omega)]; omega
    · by_cases e4 : b < a
      · rw [if_neg e1, if_pos e4] at h1; omega
      · rw [if_neg e1, if_neg e4] at h1
        by_cases e2 : b < c
        · rw [if_pos (show a < c by omega)]; omega
        · by_cases e3 : c < b
          · rw [if_neg e2, if_pos e3] at h2; omega
          · rw [if_neg e2, if_neg e3] at h2
            rw [if_neg (show ¬ a < c by omega), if_neg (show ¬ c < a by omega)]
            exact cmpL_trans x y z h1 h2
/-- A list stands ahead of another one. -/
def ltL (x y : List Int) : Bool := decide (cmpL x y < 0)
theorem ltL_irrefl (x : List Int) : ltL x x = false := by unfold ltL; rw [cmpL_self]; rfl
theorem ltL_trans {x y z : List Int} (h1 : ltL x y = true) (h2 : ltL y z = true) : ltL x z = true :=
  decide_eq_true (cmpL_trans x y z (of_decide_eq_true h1) (of_decide_eq_true h2))
theorem ltL_asymm {x y : List Int} (h : ltL x y = true) : ltL y x = false := by
  have h := of_decide_eq_true h
  unfold ltL
  rw [cmpL_swap x y]
  exact decide_eq_false (by omega)
theorem ltL_three (x y : List Int) : ltL x y = true ∨ x = y ∨ ltL y x = true := by
  rcases cmpL_three x y with h | h | h
  · exact .inl (decide_eq_true (by omega))
  · exact .inr (.inl (cmpL_zero x y h))
  · exact .inr (.inr (decide_eq_true (by rw [cmpL_swap x y]; omega)))
theorem ltL_ntrans {x y z : List Int} (h1 : ltL x y = false) (h2 : ltL y z = false) : ltL x z = false := by
  cases h : ltL x z
  · rfl
  · rcases ltL_three x y with e | e | e
    · rw [e] at h1; cases h1
    · subst e; rw [h] at h2; cases h2
    · have := ltL_trans e h
      rw [this] at h2; cases h2
/-- Lists in order, each once. -/
def SL (L : List (List Int)) : Prop := L.Pairwise (fun x y => ltL x y = true)
theorem SL.nodup {L : List (List Int)} (h : SL L) : L.Nodup := List.Pairwise.imp (fun {a b} hab e => by subst e; rw [ltL_irrefl] at hab; cases hab) h
/-- Two such lists with the same members are equal. -/
theorem SL.ext : ∀ {L M : List (List Int)}, SL L → SL M → (∀ x, x ∈ L ↔ x ∈ M) → L = M
  | [], [], _, _, _ => rfl
  | [], y :: M, _, _, h => by have := (h y).2 (List.mem_cons_self ..); simp at this
  | x :: L, [], _, _, h => by have := (h x).1 (List.mem_cons_self ..); simp at this
  | x :: L, y :: M, hL, hM, h => by
    have hL' := List.pairwise_cons.1 hL
    have hM' := List.pairwise_cons.1 hM
    have e : x = y := by
      rcases List.mem_cons.1 ((h x).1 (List.mem_cons_self ..)) with e | e
      · exact e
      · rcases List.mem_cons.1 ((h y).2 (List.mem_cons_self ..)) with e2 | e2
        · exact e2.symm
        · have h1 := hM'.1 x e
          have h2 := hL'.1 y e2
          rw [ltL_asymm h1] at h2; cases h2
    subst e
    refine congrArg _ (SL.ext hL'.2 hM'.2 fun z => ⟨fun hz => ?_, fun hz => ?_⟩)
    · rcases List.mem_cons.1 ((h z).1 (List.mem_cons_of_mem _ hz)) with e | e
      · subst e
        have := hL'.1 z hz
        rw [ltL_irrefl] at this; cases this
      · exact e
    · rcases List.mem_cons.1 ((h z).2 (List.mem_cons_of_mem _ hz)) with e | e
      · subst e
        have := hM'.1 z hz
        rw [ltL_irrefl] at this; cases this
      · exact e
/-- How many of a list stand ahead of x, from its beginning on. -/
def cutL (x : List Int) : List (List Int) → Nat
  | [] => 0
  | y :: L => if ltL y x then cutL x L + 1 else 0
theorem cutL_le (x : List Int) : ∀ L, cutL x L ≤ L.length
  | [] => Nat.le_refl _
  | y :: L => by
    unfold cutL
    split
    · have := cutL_le x L; simp; omega
    · simp
theorem cutL_at (x : List Int) : ∀ (L : List (List Int)) (k : Nat), k ≤ cutL x L → (∀ i, i < k → ltL (L.getD i []) x = true)
  | [], k, h, i, hi => by simp [cutL] at h; omega
  | y :: L, k, h, i, hi => by
    unfold cutL at h
    split at h
    · rename_i hy
      match i, k with
      | 0, _ => exact hy
      | i + 1, k + 1 => exact cutL_at x L k (by omega) i (by omega)
    · omega
theorem cutL_stop (x : List Int) : ∀ (L : List (List Int)), cutL x L < L.length → ltL (L.getD (cutL x L) []) x = false
  | [], h => by simp at h
  | y :: L, h => by
    unfold cutL at h ⊢
    split
    · rename_i hy
      rw [if_pos hy] at h
      exact cutL_stop x L (by simpa using h)
    · rename_i hy
      simpa using hy
theorem cutL_eq {x : List Int} {L : List (List Int)} {k : Nat} (hk : k ≤ L.length) (h : ∀ i, i < k → ltL (L.getD i []) x = true) (hs : k < L.length → ltL (L.getD k []) x = false) : k = cutL x L := by
  rcases Nat.lt_trichotomy k (cutL x L) with h1 | h1 | h1
  · have := cutL_at x L (cutL x L) (Nat.le_refl _) k h1
    have hl := cutL_le x L
    rw [hs (by omega)] at this; cases this
  · exact h1
  · have := h _ h1
    rw [cutL_stop x L (by omega)] at this; cases this
/-- One more at its place, if it is not there. -/
def insL (x : List Int) (L : List (List Int)) : List (List Int) :=
  if cutL x L < L.length ∧ L.getD (cutL x L) [] = x then L else L.take (cutL x L) ++ x :: L.drop (cutL x L)
theorem insL_cons (x y : List Int) (L : List (List Int)) : insL x (y :: L) = if ltL y x then y :: insL x L else if y = x then y :: L else x :: y :: L := by
  by_cases h : ltL y x = true
  · have hc : cutL x (y :: L) = cutL x L + 1 := by show (if ltL y x then _ else _) = _; rw [if_pos h]
    unfold insL
    rw [if_pos h, hc]
    simp only [List.length_cons, Nat.add_lt_add_iff_right, List.getD_cons_succ, List.take_succ_cons, List.drop_succ_cons, List.cons_append]
    split <;> rfl
  · have hc : cutL x (y :: L) = 0 := by show (if ltL y x then _ else _) = _; rw [if_neg h]
    unfold insL
    rw [if_neg h, hc]
    simp only [List.length_cons, Nat.zero_lt_succ, true_and, List.getD_cons_zero, List.take_zero, List.drop_zero, List.nil_append]
theorem insL_nil (x : List Int) : insL x [] = [x] := rfl
theorem mem_insL (x z : List Int) : ∀ L, z ∈ insL x L ↔ z = x ∨ z ∈ L
  | [] => by rw [insL_nil]; simp
  | y :: L => by
    rw [insL_cons]
    split
    · rw [List.mem_cons, mem_insL x z L, List.mem_cons]
      constructor
      · rintro (h | h | h)
        · exact .inr (.inl h)
        · exact .inl h
        · exact .inr (.inr h)
      · rintro (h | h | h)
        · exact .inr (.inl h)
        · exact .inl h
        · exact .inr (.inr h)
    · split
      · rename_i e
        subst e
        constructor
        · exact .inr
        · rintro (h | h)
          · subst h; exact List.mem_cons_self ..
          · exact h
      · rw [List.mem_cons]
theorem sl_insL (x : List Int) : ∀ {L}, SL L → SL (insL x L)
  | [], _ => by rw [insL_nil]; exact List.pairwise_singleton _ _
  | y :: L, h => by
    have h' := List.pairwise_cons.1 h
    rw [insL_cons]
    split
    · rename_i hy
      refine List.pairwise_cons.2 ⟨fun z hz => ?_, sl_insL x h'.2⟩
      rcases (mem_insL x z L).1 hz with e | e
      · subst e; exact hy
      · exact h'.1 z e
    · split
      · exact h
      · rename_i hy hne
        have hxy : ltL x y = true := by
          rcases ltL_three x y with e | e | e
          · exact e
          · exact absurd e.symm hne
          · exact absurd e hy
        refine List.pairwise_cons.2 ⟨fun z hz => ?_, h⟩
        rcases List.mem_cons.1 hz with e | e
        · subst e; exact hxy
        · exact ltL_trans hxy (h'.1 z e)
theorem insL_len (x : List Int) (L : List (List Int)) : L.length ≤ (insL x L).length ∧ (insL x L).length ≤ L.length + 1 := by
  unfold insL
  split
  · omega
  · have := cutL_le x L
    simp
    omega
theorem insL_mem {x : List Int} : ∀ {L : List (List Int)}, SL L → x ∈ L → insL x L = L
  | [], _, h => by simp at h
  | y :: L, h, hx => by
    have h' := List.pairwise_cons.1 h
    rw [insL_cons]
    rcases List.mem_cons.1 hx with e | e
    · subst e
      rw [if_neg (by rw [ltL_irrefl]; simp), if_pos rfl]
    · rw [if_pos (h'.1 x e), insL_mem h'.2 e]
theorem insL_new {x : List Int} {L : List (List Int)} (h : x ∉ L) : (insL x L).length = L.length + 1 := by
  unfold insL
  have hc := cutL_le x L
  rw [if_neg]
  · simp
    omega
  · rintro ⟨h1, h2⟩
    refine h ?_
    rw [← h2, List.getD_eq_getElem?_getD, List.getElem?_eq_getElem h1]
    exact List.getElem_mem h1
/-- The lists of a list, in order, each once. -/
def canL (L : List (List Int)) : List (List Int) := L.foldl (fun M x => insL x M) []
theorem canL_fold (x : List Int) : ∀ (L M : List (List Int)), (SL M → SL (L.foldl (fun M x => insL x M) M)) ∧ (x ∈ L.foldl (fun M x => insL x M) M ↔ x ∈ M ∨ x ∈ L)
  | [], M => ⟨fun h => h, by simp⟩
  | y :: L, M => by
    obtain ⟨h1, h2⟩ := canL_fold x L (insL y M)
    refine ⟨fun h => h1 (sl_insL y h), ?_⟩
    show x ∈ L.foldl (fun M x => insL x M) (insL y M) ↔ _
    rw [h2, mem_insL, List.mem_cons]
    constructor
    · rintro ((h | h) | h)
      · exact .inr (.inl h)
      · exact .inl h
      · exact .inr (.inr h)
    · rintro (h | h | h)
      · exact .inl (.inr h)
      · exact .inl (.inl h)
      · exact .inr h
theorem sl_canL (L : List (List Int)) : SL (canL L) := (canL_fold [] L []).1 List.Pairwise.nil
theorem mem_canL (x : List Int) (L : List (List Int)) : x ∈ canL L ↔ x ∈ L := by
  unfold canL
  rw [(canL_fold x L []).2]
  simp
theorem canL_snoc (L : List (List Int)) (x : List Int) : canL (L ++ [x]) = insL x (canL L) := by
  unfold canL
  rw [List.foldl_append]
  rfl
theorem canL_eq {L M : List (List Int)} (hM : SL M) (h : ∀ x, x ∈ M ↔ x ∈ L) : M = canL L := SL.ext hM (sl_canL L) (fun x => by rw [h, mem_canL])
/-- Neighbours that are equal, each once. -/
def compL : List (List Int) → List (List Int)
  | [] => []
  | [x] => [x]
  | x :: y :: L => if x = y then compL (y :: L) else x :: compL (y :: L)
theorem mem_compL (z : List Int) : ∀ L, z ∈ compL L ↔ z ∈ L
  | [] => Iff.rfl
  | [x] => Iff.rfl
  | x :: y :: L => by
    unfold compL
    split
    · rename_i e
      subst e
      rw [mem_compL z (x :: L)]
      constructor
      · exact fun h => List.mem_cons_of_mem _ h
      · intro h
        rcases List.mem_cons.1 h with h | h
        · subst h; exact List.mem_cons_self ..
        · exact h
    · rw [List.mem_cons, mem_compL z (y :: L), List.mem_cons, List.mem_cons, List.mem_cons]
/-- No later one stands ahead of an earlier one. -/
def WL (L : List (List Int)) : Prop := L.Pairwise (fun x y => ltL y x = false)
theorem sl_compL : ∀ {L}, WL L → SL (compL L)
  | [], _ => List.Pairwise.nil
  | [x], _ => List.pairwise_singleton _ _
  | x :: y :: L, h => by
    have h' := List.pairwise_cons.1 h
    have h2 := List.pairwise_cons.1 h'.2
    unfold compL
    split
    · exact sl_compL h'.2
    · rename_i hne
      refine List.pairwise_cons.2 ⟨fun z hz => ?_, sl_compL h'.2⟩
      have hxy : ltL x y = true := by
        rcases ltL_three x y with e | e | e
        · exact e
        · exact absurd e hne
        · have := h'.1 y (List.mem_cons_self ..)
          rw [e] at this; cases this
      rcases List.mem_cons.1 ((mem_compL z (y :: L)).1 hz) with e | e
      · subst e; exact hxy
      · rcases ltL_three x z with e1 | e1 | e1
        · exact e1
        · subst e1
          have := h2.1 x e
          rw [hxy] at this; cases this
        · have := h'.1 z (List.mem_cons_of_mem _ e)
          rw [e1] at this; cases this
theorem compL_can {L M : List (List Int)} (h : WL M) (hp : M.Perm L) : compL M = canL L :=
  canL_eq (sl_compL h) (fun x => by rw [mem_compL]; exact hp.mem_iff)
end Go.Proofs.YtlniogfinofakaaGreatDoor
