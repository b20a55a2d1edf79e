/-
  Plain laws on tokens: there is a solution for the most moves. Condition: at least one state.
-/
import Derived.Test.YtpgipkcbdppplaaTok
namespace Go.Proofs.Ytpgipkcbdppplaa
set_option linter.unusedVariables false
open Go.RowKit

/-- From s all ways end within d moves. -/
def Ends (k n : Nat) : Nat → (Nat → Nat) → Prop
  | 0, s => cntB (tokB n s) n ≤ 1
  | d + 1, s => cntB (tokB n s) n ≤ 1 ∨ ∀ i, i < n → tokB n s i = true → Ends k n d (movF k s i)
theorem cnt_tok {n : Nat} {s t : Nat → Nat} (h : ∀ j, j < n → s j = t j) : cntB (tokB n s) n = cntB (tokB n t) n := cntB_congr n (fun i hi => tok_congr h i hi)
theorem ends_congr {k n : Nat} : ∀ (d : Nat) {s t : Nat → Nat}, (∀ j, j < n → s j = t j) → Ends k n d s → Ends k n d t
  | 0, s, t, h, e => by
    have e' : cntB (tokB n s) n ≤ 1 := e
    show cntB (tokB n t) n ≤ 1
    rw [← cnt_tok h]; exact e'
  | d + 1, s, t, h, e => by
    rcases e with e | e
    · exact .inl (by rw [← cnt_tok h]; exact e)
    · exact .inr fun i hi ti => ends_congr d (fun j hj => mov_congr h i hi j hj) (e i hi (by rw [tok_congr h i hi]; exact ti))
theorem ends_mono {k n : Nat} : ∀ (d : Nat) {s : Nat → Nat}, Ends k n d s → Ends k n (d + 1) s
  | 0, _, e => .inl e
  | d + 1, _, e => by
    rcases e with e | e
    · exact .inl e
    · exact .inr fun i hi ti => ends_mono d (e i hi ti)
theorem ends_le {k n d : Nat} {s : Nat → Nat} (h : Ends k n d s) : ∀ j, Ends k n (d + j) s
  | 0 => h
  | j + 1 => ends_mono _ (ends_le h j)
theorem least_of {P : Nat → Prop} (h : ∃ d, P d) : ∃ d, P d ∧ ∀ j, j < d → ¬ P j := by
  obtain ⟨d, hd⟩ := h
  induction d using Nat.strongRecOn with
  | _ d ih =>
    by_cases e : ∃ j, j < d ∧ P j
    · obtain ⟨j, hj, hp⟩ := e
      exact ih j hj hp
    · exact ⟨d, hd, fun j hj hp => e ⟨j, hj, hp⟩⟩
theorem max_of (n : Nat) (P : Nat → Nat → Prop) (hm : ∀ i d, P i d → P i (d + 1)) (h : ∀ i, i < n → ∃ d, P i d) : ∃ d, ∀ i, i < n → P i d := by
  have up : ∀ i d j, P i d → P i (d + j) := fun i d j hp => by
    induction j with
    | zero => exact hp
    | succ j ih => exact hm i _ ih
  induction n with
  | zero => exact ⟨0, fun i hi => absurd hi (Nat.not_lt_zero _)⟩
  | succ n ih =>
    obtain ⟨d, hd⟩ := ih (fun i hi => h i (by omega))
    obtain ⟨d', hd'⟩ := h n (by omega)
    refine ⟨d + d', fun i hi => ?_⟩
    by_cases e : i = n
    · subst e
      rw [Nat.add_comm]
      exact up i d' d hd'
    · exact up i d d' (hd i (by omega))
theorem sol_exists (k n : Nat) (hk : 0 < k) : ∃ f : Nat → Int, Sol k n f := by
  have hex : ∃ f : Nat → Int, ∀ x, (f x = -1 ∧ ∀ d, ¬ Ends k n d (digN k n x)) ∨ ∃ d : Nat, f x = d ∧ Ends k n d (digN k n x) ∧ ∀ j, j < d → ¬ Ends k n j (digN k n x) := by
    have h1 : ∀ x, ∃ z : Int, (z = -1 ∧ ∀ d, ¬ Ends k n d (digN k n x)) ∨ ∃ d : Nat, z = d ∧ Ends k n d (digN k n x) ∧ ∀ j, j < d → ¬ Ends k n j (digN k n x) := fun x => by
      by_cases e : ∃ d, Ends k n d (digN k n x)
      · obtain ⟨d, hd, hl⟩ := least_of e
        exact ⟨d, .inr ⟨d, rfl, hd, hl⟩⟩
      · exact ⟨-1, .inl ⟨rfl, fun d hd => e ⟨d, hd⟩⟩⟩
    exact ⟨fun x => (h1 x).choose, fun x => (h1 x).choose_spec⟩
  obtain ⟨f, hf⟩ := hex
  have hs : ∀ s : Nat → Nat, (∀ j, j < n → s j < k) → (f (codeN k s n) = -1 ∧ ∀ d, ¬ Ends k n d s) ∨ ∃ d : Nat, f (codeN k s n) = d ∧ Ends k n d s ∧ ∀ j, j < d → ¬ Ends k n j s := fun s hs => by
    have hc : ∀ j, j < n → digN k n (codeN k s n) j = s j := fun j hj => dig_code hk hs j hj
    have hc' : ∀ j, j < n → s j = digN k n (codeN k s n) j := fun j hj => (hc j hj).symm
    rcases hf (codeN k s n) with ⟨h1, h2⟩ | ⟨d, h1, h2, h3⟩
    · exact .inl ⟨h1, fun d hd => h2 d (ends_congr d hc' hd)⟩
    · exact .inr ⟨d, h1, ends_congr d hc h2, fun j hj hd => h3 j hj (ends_congr j hc' hd)⟩
  refine ⟨f, ⟨fun s hb hc => ?_, fun s hb hc => ?_⟩⟩
  · rcases hs s hb with ⟨_, h2⟩ | ⟨d, h1, h2, h3⟩
    · exact absurd (show Ends k n 0 s from hc) (h2 0)
    · by_cases e : d = 0
      · rw [h1, e]; rfl
      · exact absurd (show Ends k n 0 s from hc) (h3 0 (by omega))
  · have hmv : ∀ i, i < n → ∀ j, j < n → movF k s i j < k := fun i hi => mov_lt hk hb i hi
    rcases hs s hb with ⟨h1, h2⟩ | ⟨d, h1, h2, h3⟩
    · refine .inl ⟨h1, ?_⟩
      by_cases e : ∃ i, i < n ∧ tokB n s i = true ∧ f (codeN k (movF k s i) n) = -1
      · exact e
      · exfalso
        have hall : ∀ i, i < n → ∃ d, tokB n s i = true → Ends k n d (movF k s i) := fun i hi => by
          by_cases ti : tokB n s i = true
          · rcases hs _ (hmv i hi) with ⟨h4, _⟩ | ⟨d, _, h5, _⟩
            · exact absurd ⟨i, hi, ti, h4⟩ e
            · exact ⟨d, fun _ => h5⟩
          · exact ⟨0, fun h => absurd h ti⟩
        obtain ⟨d, hd⟩ := max_of n (fun i d => tokB n s i = true → Ends k n d (movF k s i)) (fun i d h ti => ends_mono d (h ti)) hall
        exact h2 (d + 1) (.inr fun i hi ti => hd i hi ti)
    · cases d with
      | zero => exact absurd (show cntB (tokB n s) n ≤ 1 from h2) (by omega)
      | succ d =>
        have hch : ∀ i, i < n → tokB n s i = true → Ends k n d (movF k s i) := by
          rcases h2 with h2 | h2
          · omega
          · exact h2
        have hval : ∀ i, i < n → tokB n s i = true → ∃ e : Nat, f (codeN k (movF k s i) n) = e ∧ e ≤ d ∧ Ends k n e (movF k s i) := fun i hi ti => by
          rcases hs _ (hmv i hi) with ⟨_, h5⟩ | ⟨e, h4, h5, h6⟩
          · exact absurd (hch i hi ti) (h5 d)
          · refine ⟨e, h4, ?_, h5⟩
            by_cases hle : e ≤ d
            · exact hle
            · exact absurd (hch i hi ti) (h6 d (by omega))
        refine .inr ⟨by omega, fun i hi ti => ?_, ?_⟩
        · obtain ⟨e, h4, h5, _⟩ := hval i hi ti
          omega
        · by_cases hx : ∃ i, i < n ∧ tokB n s i = true ∧ f (codeN k (movF k s i) n) = d
          · obtain ⟨i, hi, ti, h4⟩ := hx
            exact ⟨i, hi, ti, by omega⟩
          · exfalso
            cases d with
            | zero =>
              obtain ⟨i, hi, ti⟩ := (cntB_pos (tokB n s) n).1 (by omega)
              obtain ⟨e, h4, h5, _⟩ := hval i hi ti
              exact hx ⟨i, hi, ti, by omega⟩
            | succ d =>
              refine h3 (d + 1) (by omega) (.inr fun i hi ti => ?_)
              obtain ⟨e, h4, h5, h6⟩ := hval i hi ti
              have : e ≠ d + 1 := fun h => hx ⟨i, hi, ti, by omega⟩
              have h7 := ends_le h6 (d - e)
              rwa [show e + (d - e) = d by omega] at h7
end Go.Proofs.Ytpgipkcbdppplaa
