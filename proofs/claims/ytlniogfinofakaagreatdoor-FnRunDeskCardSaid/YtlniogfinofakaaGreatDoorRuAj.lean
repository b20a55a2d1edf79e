/-
  Plain laws of the desk: pieces of a text, numbers in decimal as both read them. No condition.
-/
import Derived.Lib.AtoiAllCases
import Derived.Lib.ItoaNum
import Derived.Lib.IndexMore
import Derived.Lib.Join
namespace Go.Proofs.YtlniogfinofakaaGreatDoor
set_option maxRecDepth 100000
open Go.Lib
set_option linter.unusedVariables false

/-- The pieces of a text between the bytes of a kind, a first piece under way. -/
def splitA (c : UInt8) (acc : List UInt8) : List UInt8 → List (List UInt8)
  | [] => [acc]
  | b :: r => if b = c then acc :: splitA c [] r else splitA c (acc ++ [b]) r
theorem splitA_ne (c : UInt8) : ∀ (l acc : List UInt8), splitA c acc l ≠ []
  | [], acc => by simp [splitA]
  | b :: r, acc => by
    unfold splitA
    split
    · simp
    · exact splitA_ne c r _
theorem index_cons (b c : UInt8) (l : List UInt8) : index (b :: l) [c] = if b = c then 0 else if index l [c] == -1 then -1 else index l [c] + 1 := by
  rw [index]
  have e : ([c].isPrefixOf (b :: l)) = decide (b = c) := by
    simp only [List.isPrefixOf, Bool.and_true]
    rw [Bool.eq_iff_iff, beq_iff_eq, decide_eq_true_iff]
    exact ⟨fun h => h.symm, fun h => h.symm⟩
  rw [e]
  by_cases h : b = c <;> simp [h]
/-- The first piece ends where the byte first stands. -/
theorem split_at (c : UInt8) : ∀ (l acc : List UInt8), (index l [c] = -1 ∧ splitA c acc l = [acc ++ l]) ∨ (∃ i : Nat, index l [c] = i ∧ i < l.length ∧ splitA c acc l = (acc ++ l.take i) :: splitA c [] (l.drop (i + 1)))
  | [], acc => .inl ⟨by simp [index], by simp [splitA]⟩
  | b :: r, acc => by
    rw [index_cons, splitA]
    by_cases h : b = c
    · rw [if_pos h, if_pos h]
      exact .inr ⟨0, rfl, by simp, by simp⟩
    · rw [if_neg h, if_neg h]
      rcases split_at c r (acc ++ [b]) with ⟨h1, h2⟩ | ⟨i, h1, h2, h3⟩
      · exact .inl ⟨by rw [h1]; rfl, by rw [h2]; simp⟩
      · refine .inr ⟨i + 1, ?_, by simp; omega, ?_⟩
        · rw [h1]
          have : ((i : Int) == -1) = false := by rw [beq_eq_false_iff_ne]; omega
          rw [this]
          simp
        · rw [h3]; simp
theorem split_none {c : UInt8} {l acc : List UInt8} (h : index l [c] = -1) : splitA c acc l = [acc ++ l] := by
  rcases split_at c l acc with ⟨_, h2⟩ | ⟨i, h1, _, _⟩
  · exact h2
  · omega
theorem split_some {c : UInt8} {l acc : List UInt8} {i : Nat} (h : index l [c] = i) : i < l.length ∧ splitA c acc l = (acc ++ l.take i) :: splitA c [] (l.drop (i + 1)) := by
  rcases split_at c l acc with ⟨h1, h2⟩ | ⟨j, h1, h2, h3⟩
  · omega
  · have : j = i := by omega
    subst this
    exact ⟨h2, h3⟩

/-- The number that the program reads: only if it is written as the program would write it. -/
def canon (l : List UInt8) : Option Int :=
  match atoiAll l with
  | .ok v => if itoa v = l then some v else none
  | _ => none
def rdStep (n : Int) (b : UInt8) : Int := if n < 0 ∨ n > 1000 ∨ b.toNat < 48 ∨ 57 < b.toNat then -1 else 10 * n + ((b.toNat : Int) - 48)
def rdF (l : List UInt8) : Int := l.foldl rdStep 0
/-- The number that the reference reads, or -1. -/
def rd1 (l : List UInt8) : Int := if l = [] ∨ rdF l < 0 ∨ decDigits (rdF l).toNat ≠ l then -1 else rdF l
theorem rdStep_bd {n : Int} {b : UInt8} (h : -1 ≤ n ∧ n ≤ 10009) : -1 ≤ rdStep n b ∧ rdStep n b ≤ 10009 := by
  unfold rdStep
  split
  · omega
  · rename_i h1
    omega
theorem rdFold_bd : ∀ (l : List UInt8) (n : Int), -1 ≤ n ∧ n ≤ 10009 → -1 ≤ l.foldl rdStep n ∧ l.foldl rdStep n ≤ 10009
  | [], n, h => h
  | b :: r, n, h => rdFold_bd r _ (rdStep_bd h)
theorem rdF_bd (l : List UInt8) : -1 ≤ rdF l ∧ rdF l ≤ 10009 := rdFold_bd l 0 (by omega)
theorem rd1_bd (l : List UInt8) : -1 ≤ rd1 l ∧ rd1 l ≤ 10009 := by
  have := rdF_bd l
  unfold rd1
  split <;> omega
theorem digs1 : ∀ p : Fin 10, atoiAll [UInt8.ofNat (48 + p.val)] = .ok (p.val : Int) ∧ rdF [UInt8.ofNat (48 + p.val)] = (p.val : Int) := by decide +kernel
theorem digs2 : ∀ p : Fin 100, 10 ≤ p.val → atoiAll [UInt8.ofNat (48 + p.val / 10), UInt8.ofNat (48 + p.val % 10)] = .ok (p.val : Int) ∧ rdF [UInt8.ofNat (48 + p.val / 10), UInt8.ofNat (48 + p.val % 10)] = (p.val : Int) := by decide +kernel
theorem digs {v : Nat} (hv : v < 100) : atoiAll (decDigits v) = .ok (v : Int) ∧ rdF (decDigits v) = (v : Int) ∧ decDigits v ≠ [] := by
  by_cases h : v < 10
  · rw [decDigits_one h]
    have := digs1 ⟨v, h⟩
    exact ⟨this.1, this.2, by simp⟩
  · rw [decDigits_two h hv]
    have := digs2 ⟨v, hv⟩ (by simp only; omega)
    exact ⟨this.1, this.2, by simp⟩
theorem itoa_nat (v : Nat) : itoa (v : Int) = decDigits v := by
  unfold itoa
  simp
theorem canon_iff {l : List UInt8} {v : Nat} (hv : v < 100) : canon l = some (v : Int) ↔ l = decDigits v := by
  unfold canon
  constructor
  · intro h
    split at h
    · rename_i u hu
      split at h
      · rename_i hi
        injection h with h
        rw [← hi, h, itoa_nat]
      · cases h
    · cases h
  · intro h
    subst h
    rw [(digs hv).1]
    simp only
    rw [if_pos (itoa_nat v)]
theorem rd1_iff {l : List UInt8} {v : Nat} (hv : v < 100) : rd1 l = (v : Int) ↔ l = decDigits v := by
  unfold rd1
  constructor
  · intro h
    split at h
    · omega
    · rename_i h1
      have h2 : decDigits (rdF l).toNat = l := by
        apply Classical.byContradiction
        intro hn
        exact h1 (.inr (.inr hn))
      rw [h] at h2
      rw [← h2]; simp
  · intro h
    subst h
    obtain ⟨h1, h2, h3⟩ := digs hv
    rw [if_neg]
    · exact h2
    · rw [h2]
      rintro (h4 | h4 | h4)
      · exact h3 h4
      · omega
      · exact h4 (by simp)
/-- Numbers of which each one is small. -/
def okL (L : List Int) : Prop := ∀ x ∈ L, 0 ≤ x ∧ x < 100
def canons : List (List UInt8) → Option (List Int)
  | [] => some []
  | p :: q => match canon p with
    | none => none
    | some v => (canons q).map (v :: ·)
theorem canons_rd : ∀ (ps : List (List UInt8)) (L : List Int), canons ps = some L → okL L → ps.map rd1 = L
  | [], L, h, _ => by
    simp only [canons, Option.some.injEq] at h
    subst h; rfl
  | p :: q, L, h, hL => by
    rw [canons] at h
    split at h
    · cases h
    · rename_i v hv
      rw [Option.map_eq_some_iff] at h
      obtain ⟨M, hM, rfl⟩ := h
      have h0 := hL v (by simp)
      obtain ⟨u, rfl⟩ : ∃ u : Nat, v = (u : Int) := ⟨v.toNat, by omega⟩
      have hu : u < 100 := by omega
      rw [List.map_cons, canons_rd q M hM (fun x hx => hL x (by simp [hx])), (rd1_iff hu).2 ((canon_iff hu).1 hv)]
theorem rd_canons : ∀ (ps : List (List UInt8)), okL (ps.map rd1) → canons ps = some (ps.map rd1)
  | [], _ => rfl
  | p :: q, hL => by
    have h0 := hL (rd1 p) (by simp)
    obtain ⟨u, hu⟩ : ∃ u : Nat, rd1 p = (u : Int) := ⟨(rd1 p).toNat, by omega⟩
    have hu1 : u < 100 := by omega
    rw [canons, (canon_iff hu1).2 ((rd1_iff hu1).1 hu)]
    simp only
    rw [rd_canons q (fun x hx => hL x (by simp at hx ⊢; exact .inr hx)), List.map_cons, hu]
    rfl
/-- What asks small numbers answers alike to both readings. -/
theorem read_alike (F : List Int → Option (List UInt8)) (hF : ∀ L, ¬ okL L → F L = none) (ps : List (List UInt8)) : (canons ps).bind F = F (ps.map rd1) := by
  cases h : canons ps with
  | none =>
    have : ¬ okL (ps.map rd1) := fun h2 => by rw [rd_canons ps h2] at h; cases h
    rw [hF _ this]; rfl
  | some L =>
    by_cases h2 : okL L
    · rw [canons_rd ps L h h2]; rfl
    · have h3 : ¬ okL (ps.map rd1) := fun h4 => by
        rw [rd_canons ps h4] at h
        injection h with h
        rw [← h] at h2
        exact h2 h4
      rw [hF _ h3]
      exact hF L h2
/-- The line in two pieces, as the program cuts it. -/
theorem cut_line (s : List UInt8) (c : UInt8) : ((cut s [c]).2.2 = false ∧ splitA c [] s = [s]) ∨ ((cut s [c]).2.2 = true ∧ splitA c [] s = (cut s [c]).1 :: splitA c [] (cut s [c]).2.1) := by
  rcases split_at c s [] with ⟨h1, h2⟩ | ⟨i, h1, h2, h3⟩
  · left
    unfold cut
    rw [h1, if_neg (by omega)]
    exact ⟨rfl, by rw [h2]; rfl⟩
  · right
    unfold cut
    rw [h1, if_pos (by omega)]
    refine ⟨rfl, ?_⟩
    rw [h3]
    simp
theorem contains_split (s : List UInt8) (c : UInt8) : (contains s [c] = false ∧ splitA c [] s = [s]) ∨ (contains s [c] = true ∧ 2 ≤ (splitA c [] s).length) := by
  rcases split_at c s [] with ⟨h1, h2⟩ | ⟨i, h1, h2, h3⟩
  · left
    unfold contains
    rw [h1]
    exact ⟨rfl, by rw [h2]; rfl⟩
  · right
    unfold contains
    rw [h1]
    refine ⟨by simp, ?_⟩
    rw [h3]
    have h4 := List.length_pos_iff.2 (splitA_ne c (s.drop (i + 1)) [])
    simp only [List.length_cons]
    omega
end Go.Proofs.YtlniogfinofakaaGreatDoor
