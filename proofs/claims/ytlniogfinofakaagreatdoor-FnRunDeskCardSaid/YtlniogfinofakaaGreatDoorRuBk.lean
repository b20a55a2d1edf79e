/-
  What the desk answers, as plain functions on lists of bytes and numbers. No condition.
-/
import Derived.Test.YtlniogfinofakaaGreatDoorRuAj
import Derived.Test.YtlniogfinofakaaGreatDoorRuAp
import Derived.Test.YtlniogfinofakaaGreatDoorRuAf
import Derived.Test.YtlniogfinofakaaGreatDoorRuAv
import Derived.Test.YtlniogfinofakaaGreatDoorRuBj
import Derived.Test.YtlniogfinofakaaGreatDoorRuAw
namespace Go.Proofs.YtlniogfinofakaaGreatDoor
set_option maxRecDepth 100000
open Go.RowKit Go.Lib
set_option linter.unusedVariables false

def w_elect : List UInt8 := [101, 108, 101, 99, 116]
def w_tokens : List UInt8 := [116, 111, 107, 101, 110, 115]
def w_muddy : List UInt8 := [109, 117, 100, 100, 121]
def w_some : List UInt8 := [115, 111, 109, 101]
def w_three : List UInt8 := [116, 104, 114, 101, 101]
def w_most : List UInt8 := [109, 111, 115, 116]
def w_odd : List UInt8 := [111, 100, 100]
def w_what : List UInt8 := [119, 104, 97, 116]
def w_wrong : List UInt8 := [119, 114, 111, 110, 103]
def w_open : List UInt8 := [111, 112, 101, 110]

def mkB (L : List Int) : Bool := (inB L.length 1 6 && !anyB (fun i => !inB (L.getD i 0) 0 20) L.length) && !anyB (fun i => anyB (fun k => L.getD k 0 == L.getD i 0) i) L.length
def electT (L : List Int) : List UInt8 := decDigits (atE (fun i => L.getD i 0) (L.length - 1)) ++ (32 :: decDigits (sumE (fun i => L.getD i 0) L.length L.length))
def commaT (l : List Nat) : List UInt8 := join (l.map decDigits) [44]
def stN (L : List Int) : Nat → Nat := fun i => (L.getD i 0).toNat
def tokT (L : List Int) : List UInt8 := commaT (tks L.length (stN L) L.length)
noncomputable def crwT (F G : List (List Int)) (n : Nat) (s : List Int) (L : List Int) : List UInt8 :=
  if verd (natF (lsII F)) (natF (lsII G)) n (lsI s) L < 0 then w_open else decDigits (verd (natF (lsII F)) (natF (lsII G)) n (lsI s) L).toNat
def mudB (L : List Int) : Bool := decide (L.length = 2) && (inB (L.getD 0 0) 1 4 && inB (L.getD 1 0) 1 ((2 ^ (L.getD 0 0).toNat : Nat) - 1))
def mudT (L : List Int) : List UInt8 := decDigits (muT (L.getD 0 0).toNat (L.getD 1 0).toNat)
/-- The answer to a word of the desk's; none where it is wrong. -/
noncomputable def answF (w : List UInt8) (L : List Int) : Option (List UInt8) :=
  if w = w_elect then (if mkB L then some (electT L) else none)
  else if w = w_tokens then (if tokOkB 5 L.length (fun i => L.getD i 0) then some (tokT L) else none)
  else if w = w_muddy then (if mudB L then some (mudT L) else none)
  else if w = w_some then (if crwB 2 L then some (crwT [[0, 1], [1, 1]] [[0, 1], [1, 1]] 2 [0, 1] L) else none)
  else if w = w_three then (if crwB 4 L then some (crwT [[0, 1, 2, 3], [1, 2, 3, 3], [2, 3, 3, 3], [3, 3, 3, 3]] [[0, 0, 0, 3], [0, 0, 3, 3], [0, 3, 3, 3], [3, 3, 3, 3]] 4 [0, 0, 0, 1] L) else none)
  else if w = w_most then (if crwB 4 L then some (crwT [[0, 2, 0, 0], [2, 1, 1, 1], [2, 3, 2, 2], [2, 3, 2, 3]] [[0, 2, 2, 2], [2, 1, 3, 3], [0, 1, 2, 2], [0, 1, 2, 3]] 4 [0, 1, 0, 1] L) else none)
  else if w = w_odd then (if crwB 4 L then some (crwT [[0, 1, 0, 0], [1, 0, 1, 1], [2, 3, 2, 2], [2, 3, 3, 3]] [[2, 3, 2, 2], [3, 2, 3, 3], [0, 1, 2, 3], [0, 1, 2, 3]] 4 [0, 1, 0, 1] L) else none)
  else none
/-- Is a word one of the desk's? -/
def knownB (w : List UInt8) : Bool := decide (w = w_elect) || decide (w = w_tokens) || decide (w = w_muddy) || decide (w = w_some) || decide (w = w_three) || decide (w = w_most) || decide (w = w_odd)
/-- The answer to a line. -/
noncomputable def answ (line : List UInt8) : List UInt8 :=
  match splitA 32 [] line with
  | [w, t] => if knownB w then ((answF w ((splitA 44 [] t).map rd1)).getD w_wrong) else w_what
  | _ => w_what
theorem ok_of_at {L : List Int} (h : ∀ i, i < L.length → 0 ≤ L.getD i 0 ∧ L.getD i 0 < 100) : okL L := fun x hx => by
  obtain ⟨i, hi, rfl⟩ := List.getElem_of_mem hx
  have := h i hi
  rw [List.getD_eq_getElem?_getD, List.getElem?_eq_getElem hi] at this
  exact this
theorem marks_ok {L : List Int} (h : mkB L = true) : okL L := ok_of_at fun i hi => by
  unfold mkB at h
  simp only [Bool.and_eq_true, Bool.not_eq_true'] at h
  have := (anyB_false _ _).1 h.1.2 i hi
  have := inB_true (n := L.getD i 0) (lo := 0) (hi := 20) (by simpa using this)
  omega
theorem tok_ok {L : List Int} (h : tokOkB 5 L.length (fun i => L.getD i 0) = true) : okL L := ok_of_at fun i hi => by
  unfold tokOkB at h
  simp only [Bool.and_eq_true, Bool.not_eq_true'] at h
  have := (anyB_false _ _).1 h.2 i hi
  have := inB_true (n := L.getD i 0) (lo := 0) (hi := 5 - 1) (by simpa using this)
  omega
theorem crw_ok {n : Nat} {L : List Int} (h : crwB n L = true) : okL L := fun x hx => by
  have := (crwB_iff.1 h).le x hx
  omega
theorem mud_ok {L : List Int} (h : mudB L = true) : okL L := ok_of_at fun i hi => by
  unfold mudB at h
  simp only [Bool.and_eq_true, decide_eq_true_eq] at h
  obtain ⟨h1, h2, h3⟩ := h
  have h2 := inB_true h2
  have h3 := inB_true h3
  have h4 : 2 ^ (L.getD 0 0).toNat ≤ 2 ^ 4 := Nat.pow_le_pow_right (by omega) (by omega)
  rcases (show i = 0 ∨ i = 1 by omega) with rfl | rfl
  · omega
  · omega
theorem answF_ok (w : List UInt8) (L : List Int) (h : ¬ okL L) : answF w L = none := by
  have h1 : mkB L = false := by cases e : mkB L with | false => rfl | true => exact absurd (marks_ok e) h
  have h2 : tokOkB 5 L.length (fun i => L.getD i 0) = false := by cases e : tokOkB 5 L.length (fun i => L.getD i 0) with | false => rfl | true => exact absurd (tok_ok e) h
  have h3 : mudB L = false := by cases e : mudB L with | false => rfl | true => exact absurd (mud_ok e) h
  have h4 : ∀ n, crwB n L = false := fun n => by cases e : crwB n L with | false => rfl | true => exact absurd (crw_ok e) h
  unfold answF
  simp only [h1, h2, h3, h4, Bool.false_eq_true, if_false]
  repeat' split
  all_goals rfl
theorem answ_cut (line : List UInt8) : answ line = if knownB (cut line [32]).1 && ((cut line [32]).2.2 && !contains (cut line [32]).2.1 [32]) then
    (((canons (splitA 44 [] (cut line [32]).2.1)).bind (answF (cut line [32]).1)).getD w_wrong) else w_what := by
  unfold answ
  rcases cut_line line 32 with ⟨h1, h2⟩ | ⟨h1, h2⟩
  · rw [h2, h1]; simp
  · rw [h2, h1]
    rcases contains_split (cut line [32]).2.1 32 with ⟨h3, h4⟩ | ⟨h3, h4⟩
    · rw [h3, h4, read_alike _ (answF_ok _)]
      simp
    · rw [h3]
      generalize hs : splitA 32 [] (cut line [32]).2.1 = s at *
      match s, h4 with
      | a :: b :: r, _ => simp
end Go.Proofs.YtlniogfinofakaaGreatDoor
/-
  How long the desk's answers are, and that none has a newline. No condition.
-/
namespace Go.Proofs.YtlniogfinofakaaGreatDoor
set_option maxRecDepth 100000
open Go.RowKit Go.Lib
set_option linter.unusedVariables false

def goodT (l : List UInt8) : Prop := l.length ≤ 100 ∧ (10 : UInt8) ∉ l
theorem dd_good {v : Nat} (h : v < 100) : (decDigits v).length ≤ 2 ∧ (10 : UInt8) ∉ decDigits v := by
  by_cases h1 : v < 10
  · rw [decDigits_one h1]
    have : ∀ p : Fin 10, (10 : UInt8) ∉ [UInt8.ofNat (48 + p.val)] := by decide +kernel
    exact ⟨by simp, this ⟨v, h1⟩⟩
  · rw [decDigits_two h1 h]
    have : ∀ p : Fin 100, (10 : UInt8) ∉ [UInt8.ofNat (48 + p.val / 10), UInt8.ofNat (48 + p.val % 10)] := by decide +kernel
    exact ⟨by simp, this ⟨v, h⟩⟩
theorem tail_good : ∀ (r : List (List UInt8)), (∀ x ∈ r, x.length ≤ 2 ∧ (10 : UInt8) ∉ x) → (joinTail [44] r).length ≤ 3 * r.length ∧ (10 : UInt8) ∉ joinTail [44] r
  | [], _ => by simp [joinTail]
  | y :: r, h => by
    have h1 := tail_good r (fun x hx => h x (by simp [hx]))
    have h2 := h y (by simp)
    have e : joinTail [44] (y :: r) = 44 :: (y ++ joinTail [44] r) := by simp [joinTail]
    rw [e]
    refine ⟨by simp only [List.length_cons, List.length_append]; omega, ?_⟩
    simp only [List.mem_cons, List.mem_append, not_or]
    exact ⟨by decide, h2.2, h1.2⟩
theorem join_good (xs : List (List UInt8)) (h : ∀ x ∈ xs, x.length ≤ 2 ∧ (10 : UInt8) ∉ x) : (join xs [44]).length ≤ 3 * xs.length ∧ (10 : UInt8) ∉ join xs [44] := by
  cases xs with
  | nil => simp [join_nil]
  | cons x r =>
    rw [join_cons]
    have h1 := tail_good r (fun y hy => h y (by simp [hy]))
    have h2 := h x (by simp)
    refine ⟨by simp only [List.length_cons, List.length_append]; omega, ?_⟩
    simp only [List.mem_append, not_or]
    exact ⟨h2.2, h1.2⟩
theorem elect_good {L : List Int} (h : mkB L = true) : goodT (electT L) := by
  unfold mkB at h
  simp only [Bool.and_eq_true] at h
  have h1 := inB_true h.1.1
  have h2 := atE_le (fun i => L.getD i 0) (L.length - 1)
  have h3 := sumE_le (fun i => L.getD i 0) L.length L.length
  have h4 : (L.length + 1) * L.length ≤ 7 * 6 := Nat.mul_le_mul (by omega) (by omega)
  have g1 := dd_good (v := atE (fun i => L.getD i 0) (L.length - 1)) (by omega)
  have g2 := dd_good (v := sumE (fun i => L.getD i 0) L.length L.length) (by omega)
  unfold electT goodT
  refine ⟨by simp only [List.length_cons, List.length_append]; omega, ?_⟩
  simp only [List.mem_cons, List.mem_append, not_or]
  exact ⟨g1.2, by decide, g2.2⟩
theorem tok_good {L : List Int} (h : tokOkB 5 L.length (fun i => L.getD i 0) = true) : goodT (tokT L) := by
  unfold tokOkB at h
  simp only [Bool.and_eq_true] at h
  have h1 := inB_true h.1.2
  have hb := tks_bd (n := L.length) (s := stN L) L.length
  have g := join_good ((tks L.length (stN L) L.length).map decDigits) (fun x hx => by
    obtain ⟨v, hv, rfl⟩ := List.mem_map.1 hx
    have := ((tks_mem L.length (stN L) v).1 hv).1
    exact dd_good (by omega))
  unfold tokT commaT goodT
  rw [List.length_map] at g
  exact ⟨by omega, g.2⟩
theorem muT_le (n w : Nat) : muT n w ≤ 4 := by
  unfold muT
  repeat' split
  all_goals omega
theorem verd_cases (F G : Nat → Nat → Nat) (n : Nat) (s : Nat → Int) (c : List Int) : verd F G n s c = 0 ∨ verd F G n s c = 1 ∨ verd F G n s c = -1 := by
  unfold verd
  repeat' split
  all_goals simp
theorem crw_good (F G : List (List Int)) (n : Nat) (s L : List Int) : goodT (crwT F G n s L) := by
  unfold crwT
  rcases verd_cases (natF (lsII F)) (natF (lsII G)) n (lsI s) L with h | h | h <;> rw [h]
  · have := dd_good (v := 0) (by omega)
    exact ⟨by rw [if_neg (by omega)]; exact Nat.le_trans this.1 (by omega), by rw [if_neg (by omega)]; exact this.2⟩
  · have := dd_good (v := 1) (by omega)
    exact ⟨by rw [if_neg (by omega)]; exact Nat.le_trans this.1 (by omega), by rw [if_neg (by omega)]; exact this.2⟩
  · rw [if_pos (by omega)]
    exact ⟨by decide, by decide⟩
theorem answF_good (w : List UInt8) (L : List Int) (l : List UInt8) (h : answF w L = some l) : goodT l := by
  unfold answF at h
  repeat' split at h
  all_goals first
    | cases h; done
    | (injection h with h; subst h)
  · exact elect_good ‹_›
  · exact tok_good ‹_›
  · have := dd_good (v := muT (L.getD 0 0).toNat (L.getD 1 0).toNat) (by have := muT_le (L.getD 0 0).toNat (L.getD 1 0).toNat; omega)
    exact ⟨Nat.le_trans this.1 (by omega), this.2⟩
  all_goals exact crw_good _ _ _ _ _
theorem answ_good (line : List UInt8) : goodT (answ line) := by
  have hw : goodT w_wrong := ⟨by decide, by decide⟩
  have ht : goodT w_what := ⟨by decide, by decide⟩
  unfold answ
  split
  · split
    · rename_i w t _ _
      cases h : answF w ((splitA 44 [] t).map rd1) with
      | none => exact hw
      | some l => exact answF_good _ _ _ h
    · exact ht
  · exact ht
/-- The answers to the first k lines. -/
noncomputable def deskK (f : Nat → ByteArray) : Nat → List UInt8
  | 0 => []
  | k + 1 => deskK f k ++ (answ (f k).data.toList ++ [10])
noncomputable def deskT (n : Nat) (f : Nat → ByteArray) : List UInt8 := if 20 < n then [] else deskK f n
theorem deskK_len (f : Nat → ByteArray) : ∀ k, (deskK f k).length ≤ 101 * k
  | 0 => by simp [deskK]
  | k + 1 => by
    have h1 := deskK_len f k
    have h2 := (answ_good (f k).data.toList).1
    rw [deskK]
    simp only [List.length_append, List.length_cons, List.length_nil]
    omega
theorem deskK_nl (f : Nat → ByteArray) : ∀ k, (deskK f k).count 10 = k
  | 0 => by simp [deskK]
  | k + 1 => by
    have h1 := deskK_nl f k
    have h2 := List.count_eq_zero.2 (answ_good (f k).data.toList).2
    rw [deskK, List.count_append, List.count_append, h1, h2]
    simp
theorem deskK_pre (f : Nat → ByteArray) : ∀ k j, ∃ r, deskK f (k + j) = deskK f k ++ r
  | k, 0 => ⟨[], by simp⟩
  | k, j + 1 => by
    obtain ⟨r, h⟩ := deskK_pre f k j
    refine ⟨r ++ (answ (f (k + j)).data.toList ++ [10]), ?_⟩
    rw [← Nat.add_assoc, deskK, h, List.append_assoc]
theorem deskK_congr {f g : Nat → ByteArray} : ∀ k, (∀ i, i < k → f i = g i) → deskK f k = deskK g k
  | 0, _ => rfl
  | k + 1, h => by rw [deskK, deskK, deskK_congr k (fun i hi => h i (by omega)), h k (by omega)]
end Go.Proofs.YtlniogfinofakaaGreatDoor
