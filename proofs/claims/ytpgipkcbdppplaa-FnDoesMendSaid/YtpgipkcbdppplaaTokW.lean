/-
  Plain laws of the reference's search for the most moves: what is found is the solution. Condition: a solution, at least one state.
-/
import Derived.Test.YtpgipkcbdppplaaTokC
namespace Go.Proofs.Ytpgipkcbdppplaa
set_option linter.unusedVariables false
open Go.RowKit

def cntD (k n x : Nat) : Nat := cntB (tokB n (digN k n x)) n
/-- The number of the states behind a move. -/
def chD (k n x i : Nat) : Nat := codeN k (movF k (digN k n x) i) n
theorem chD_lt {k n x i : Nat} (hk : 0 < k) (hi : i < n) : chD k n x i < k ^ n := code_lt n (mov_lt hk (fun j _ => dig_lt hk n x j) i hi)
structure SolD (k n : Nat) (f : Nat → Int) : Prop where
  shut : ∀ x, x < k ^ n → cntD k n x ≤ 1 → f x = 0
  opened : ∀ x, x < k ^ n → 1 < cntD k n x →
    (f x = -1 ∧ ∃ i, i < n ∧ tokB n (digN k n x) i = true ∧ f (chD k n x i) = -1) ∨
    (0 < f x ∧ (∀ i, i < n → tokB n (digN k n x) i = true → 0 ≤ f (chD k n x i) ∧ f (chD k n x i) < f x) ∧ ∃ i, i < n ∧ tokB n (digN k n x) i = true ∧ f (chD k n x i) = f x - 1)
theorem Sol.toD {k n : Nat} {f : Nat → Int} (hk : 0 < k) (h : Sol k n f) : SolD k n f := by
  refine ⟨fun x hx hc => ?_, fun x hx hc => ?_⟩
  · have := h.shut (digN k n x) (fun j _ => dig_lt hk n x j) hc
    rwa [code_dig hk hx] at this
  · have := h.opened (digN k n x) (fun j _ => dig_lt hk n x j) hc
    rwa [code_dig hk hx] at this
section
variable {k n : Nat} {f : Nat → Int}
theorem SolD.low (h : SolD k n f) {x : Nat} (hx : x < k ^ n) : -1 ≤ f x := by
  by_cases e : cntD k n x ≤ 1
  · rw [h.shut x hx e]; omega
  · rcases h.opened x hx (by omega) with h1 | h1 <;> omega
/-- All lesser numbers are there. -/
theorem SolD.chain (hk : 0 < k) (h : SolD k n f) : ∀ (d x : Nat), x < k ^ n → f x = (d : Int) → ∀ e, e ≤ d → ∃ y, y < k ^ n ∧ f y = (e : Int)
  | 0, x, hx, hf, e, he => ⟨x, hx, by rw [hf]; congr 1; omega⟩
  | d + 1, x, hx, hf, e, he => by
    by_cases ed : e = d + 1
    · subst ed; exact ⟨x, hx, hf⟩
    · have hc : 1 < cntD k n x := by
        by_cases hc : cntD k n x ≤ 1
        · rw [h.shut x hx hc] at hf; omega
        · omega
      rcases h.opened x hx hc with h1 | ⟨_, _, i, hi, _, h3⟩
      · omega
      · exact SolD.chain hk h d (chD k n x i) (chD_lt hk hi) (by rw [h3, hf]; omega) e (by omega)
theorem SolD.lt (hk : 0 < k) (h : SolD k n f) {x : Nat} (hx : x < k ^ n) : f x < ((k ^ n : Nat) : Int) := by
  by_cases h0 : 0 ≤ f x
  · obtain ⟨d, hd⟩ := Int.eq_ofNat_of_zero_le h0
    have hc := SolD.chain hk h d x hx hd
    have hex : ∃ y : Nat → Nat, ∀ e, e ≤ d → y e < k ^ n ∧ f (y e) = (e : Int) :=
      ⟨fun e => if he : e ≤ d then (hc e he).choose else 0, fun e he => by dsimp only; rw [dif_pos he]; exact (hc e he).choose_spec⟩
    obtain ⟨y, hy⟩ := hex
    have := pigeon (k ^ n) (d + 1) y (fun i hi => (hy i (by omega)).1) (fun i j hi hj e => by
      have h1 := (hy i (by omega)).2
      have h2 := (hy j (by omega)).2
      rw [e] at h1
      omega)
    omega
  · have : 0 < k ^ n := Nat.pow_pos hk
    omega
/-- The list under way: -1 where it is not yet known. -/
def WInv (k n : Nat) (f A : Nat → Int) : Prop := ∀ x, x < k ^ n → (A x = -1 ∧ 1 < cntD k n x) ∨ (A x = f x ∧ 0 ≤ f x)
theorem WInv.start (h : SolD k n f) : WInv k n f (fun x => if 1 < cntD k n x then -1 else 0) := fun x hx => by
  by_cases e : 1 < cntD k n x
  · exact .inl ⟨if_pos e, e⟩
  · have := h.shut x hx (by omega)
    exact .inr ⟨by dsimp only; rw [if_neg e, this], by omega⟩
theorem WInv.bd {A : Nat → Int} (hk : 0 < k) (h : SolD k n f) (hA : WInv k n f A) {x : Nat} (hx : x < k ^ n) : -1 ≤ A x ∧ A x < ((k ^ n : Nat) : Int) := by
  have h1 := h.lt hk hx
  rcases hA x hx with h2 | h2
  · have : 0 < k ^ n := Nat.pow_pos hk
    omega
  · omega
/-- What is found of a number: all behind it are known. -/
def Most (k n : Nat) (A : Nat → Int) (x m : Nat) (v : Int) : Prop :=
  (0 ≤ v ∧ (∀ j, j < m → 0 ≤ A (chD k n x ((tks n (digN k n x) n).getD j 0)) ∧ A (chD k n x ((tks n (digN k n x) n).getD j 0)) < v) ∧ ((m = 0 ∧ v = 0) ∨ ∃ j, j < m ∧ A (chD k n x ((tks n (digN k n x) n).getD j 0)) + 1 = v)) ∨
  (v = -1 ∧ ∃ j, j < (tks n (digN k n x) n).length ∧ A (chD k n x ((tks n (digN k n x) n).getD j 0)) < 0)
theorem most_next {A : Nat → Int} {x m : Nat} {v y : Int} (hm : m < (tks n (digN k n x) n).length) (h : Most k n A x m v) (h0 : 0 ≤ v) (hy : y = A (chD k n x ((tks n (digN k n x) n).getD m 0))) : Most k n A x (m + 1) (if y < 0 then -1 else max v (y + 1)) := by
  subst hy
  by_cases e : A (chD k n x ((tks n (digN k n x) n).getD m 0)) < 0
  · rw [if_pos e]
    exact .inr ⟨rfl, m, hm, e⟩
  · rw [if_neg e]
    rcases h with ⟨_, h1, h2⟩ | ⟨h1, _⟩
    · refine .inl ⟨by omega, fun j hj => ?_, .inr ?_⟩
      · by_cases ej : j = m
        · subst ej; omega
        · have := h1 j (by omega); omega
      · by_cases hle : v ≤ A (chD k n x ((tks n (digN k n x) n).getD m 0)) + 1
        · exact ⟨m, by omega, by omega⟩
        · rcases h2 with ⟨_, h2⟩ | ⟨j, hj, h2⟩
          · omega
          · exact ⟨j, by omega, by omega⟩
    · omega
theorem Most.bd {A : Nat → Int} (hk : 0 < k) (h : SolD k n f) (hA : WInv k n f A) {x m : Nat} {v : Int} (hm : m ≤ (tks n (digN k n x) n).length) (hM : Most k n A x m v) : -1 ≤ v ∧ v ≤ ((k ^ n : Nat) : Int) := by
  rcases hM with ⟨h0, _, h2⟩ | ⟨h1, _⟩
  · rcases h2 with h2 | ⟨j, hj, h2⟩
    · have : 0 < k ^ n := Nat.pow_pos hk
      omega
    · have := (hA.bd hk h (chD_lt (x := x) hk (tks_at n (digN k n x) j (by omega)).1)).2
      omega
  · have : 0 < k ^ n := Nat.pow_pos hk
    omega
/-- All behind it are known: it is found. -/
theorem most_found {A : Nat → Int} (hk : 0 < k) (h : SolD k n f) (hA : WInv k n f A) {x : Nat} (hx : x < k ^ n) (hneg : A x = -1) {v : Int} (hM : Most k n A x (tks n (digN k n x) n).length v) :
    (0 < v ∧ v = f x ∧ WInv k n f (fun y => if y = x then v else A y)) ∨ (v = -1 ∧ ∃ i, i < n ∧ tokB n (digN k n x) i = true ∧ A (chD k n x i) < 0) := by
  have hc : 1 < cntD k n x := by
    rcases hA x hx with h1 | h1
    · exact h1.2
    · omega
  have hlen : (tks n (digN k n x) n).length = cntD k n x := tks_len n _ n
  rcases hM with ⟨h0, h1, h2⟩ | ⟨h1, j, hj, h2⟩
  · rcases h2 with ⟨h2, _⟩ | ⟨j, hj, h2⟩
    · omega
    · have hall : ∀ i, i < n → tokB n (digN k n x) i = true → 0 ≤ A (chD k n x i) ∧ A (chD k n x i) < v := fun i hi ti => by
        have hmem := (tks_mem n (digN k n x) i).2 ⟨hi, ti⟩
        obtain ⟨j', hj', e⟩ := List.getElem_of_mem hmem
        have := h1 j' hj'
        rw [List.getD_eq_getElem?_getD, List.getElem?_eq_getElem hj', Option.getD_some, e] at this
        exact this
      have hkn : ∀ i, i < n → 0 ≤ A (chD k n x i) → A (chD k n x i) = f (chD k n x i) := fun i hi h0 => by
        rcases hA _ (chD_lt (x := x) hk hi) with h3 | h3
        · omega
        · exact h3.1
      obtain ⟨hi, ti⟩ := tks_at n (digN k n x) j hj
      have hv : v = f x ∧ 0 < v := by
        have hjv := hall _ hi ti
        rcases h.opened x hx hc with ⟨_, i, hi', ti', h3⟩ | ⟨h3, h4, i, hi', ti', h5⟩
        · have := hall i hi' ti'
          rw [hkn i hi' this.1] at this
          omega
        · have h6 := hall i hi' ti'
          rw [hkn i hi' h6.1] at h6
          have h7 := (h4 _ hi ti).2
          rw [← hkn _ hi hjv.1] at h7
          omega
      refine .inl ⟨hv.2, hv.1, fun y hy => ?_⟩
      by_cases e : y = x
      · subst e
        exact .inr ⟨by simp [hv.1], by omega⟩
      · rcases hA y hy with h3 | h3
        · exact .inl ⟨by simp [e, h3.1], h3.2⟩
        · exact .inr ⟨by simp [e, h3.1], h3.2⟩
  · obtain ⟨hi, ti⟩ := tks_at n (digN k n x) j hj
    exact .inr ⟨h1, _, hi, ti, h2⟩
/-- Nothing more is found: it is the solution. -/
theorem winv_end {A : Nat → Int} (hk : 0 < k) (h : SolD k n f) (hA : WInv k n f A) (hE : ∀ x, x < k ^ n → A x = -1 → ∃ i, i < n ∧ tokB n (digN k n x) i = true ∧ A (chD k n x i) < 0) : ∀ x, x < k ^ n → A x = f x := by
  have key : ∀ (d x : Nat), x < k ^ n → A x = -1 → f x ≤ (d : Int) → f x = -1 := by
    intro d
    induction d with
    | zero =>
      intro x hx ha hd
      rcases hA x hx with h1 | h1
      · rcases h.opened x hx h1.2 with h2 | h2
        · exact h2.1
        · omega
      · omega
    | succ d ih =>
      intro x hx ha hd
      rcases hA x hx with h1 | h1
      · rcases h.opened x hx h1.2 with h2 | ⟨h2, h3, _⟩
        · exact h2.1
        · obtain ⟨i, hi, ti, h4⟩ := hE x hx ha
          have h5 := h3 i hi ti
          have hlt := chD_lt (x := x) hk hi
          have h6 : A (chD k n x i) = -1 := by
            rcases hA _ hlt with h6 | h6
            · exact h6.1
            · omega
          have := ih _ hlt h6 (by omega)
          omega
      · omega
  intro x hx
  rcases hA x hx with h1 | h1
  · have := key (f x).toNat x hx h1.1 (by omega)
    rw [this, h1.1]
  · exact h1.1
end
end Go.Proofs.Ytpgipkcbdppplaa
