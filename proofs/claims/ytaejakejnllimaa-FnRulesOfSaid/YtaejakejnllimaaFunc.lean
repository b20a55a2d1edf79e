/-
  The contracts of slices.IndexFunc and slices.ContainsFunc at []int and [][]int: whatever function value they are handed, if that answers p k at the k-th element and keeps what was there. Condition: lengths at most 2^40.
-/
import Derived.Test.YtaejakejnllimaaFilter
namespace Go.Proofs.Ytaejakejnllimaa
open Go.RowKit

/-- Is there one k < n with p k? -/
def anyB (p : Nat → Bool) : Nat → Bool
  | 0 => false
  | n + 1 => anyB p n || p n
theorem anyB_iff (p : Nat → Bool) (n : Nat) : anyB p n = true ↔ ∃ i, i < n ∧ p i = true := by
  induction n with
  | zero => simp [anyB]
  | succ n ih =>
    simp only [anyB, Bool.or_eq_true, ih]
    constructor
    · rintro (⟨i, h, hp⟩ | h)
      · exact ⟨i, by omega, hp⟩
      · exact ⟨n, by omega, h⟩
    · rintro ⟨i, h, hp⟩
      by_cases hi : i = n
      · subst hi; exact .inr hp
      · exact .inl ⟨i, by omega, hp⟩
theorem anyB_false (p : Nat → Bool) (n : Nat) : anyB p n = false ↔ ∀ i, i < n → p i = false := by
  rw [← Bool.not_eq_true, anyB_iff]
  constructor
  · intro h i hi
    cases hp : p i
    · rfl
    · exact (h ⟨i, hi, hp⟩).elim
  · rintro h ⟨i, hi, hp⟩
    rw [h i hi] at hp
    cases hp
/-- The first k < n with p k, -1 if there is none. -/
def idxB (p : Nat → Bool) (n : Nat) : Int := match (List.range n).find? p with | some k => k | none => -1
theorem find_range (p : Nat → Bool) (n k : Nat) (hk : k < n) (hp : p k = true) (h : ∀ i, i < k → p i = false) : (List.range n).find? p = some k := by
  rw [List.find?_range_eq_some]
  exact ⟨hp, by simpa using hk, fun i hi => by simp [h i hi]⟩
theorem idxB_at (p : Nat → Bool) (n k : Nat) (hk : k < n) (hp : p k = true) (h : ∀ i, i < k → p i = false) : (k : Int) = idxB p n := by
  unfold idxB; rw [find_range p n k hk hp h]
theorem idxB_none (p : Nat → Bool) (n : Nat) (h : ∀ i, i < n → p i = false) : -1 = idxB p n := by
  have : (List.range n).find? p = none := by rw [List.find?_range_eq_none]; intro i hi; simp [h i hi]
  unfold idxB; rw [this]
theorem idxB_ge (p : Nat → Bool) (n : Nat) : decide (0 ≤ idxB p n) = anyB p n := by
  by_cases h : ∀ i, i < n → p i = false
  · rw [← idxB_none p n h, (anyB_false p n).2 h]; rfl
  · cases ha : anyB p n
    · exact (h ((anyB_false p n).1 ha)).elim
    · unfold idxB
      split
      · simp
      · rename_i hn
        rw [List.find?_range_eq_none] at hn
        obtain ⟨i, hi, hp⟩ := (anyB_iff p n).1 ha
        have := hn i (by simpa using hi)
        simp [hp] at this

set_option maxHeartbeats 400000 in
theorem intidx_any (f : Nat) (cap : Array Value) (a : Option Addr) (n c : Nat) (x : Nat → Int) (p : Nat → Bool) (w : World) (hn : n ≤ 1099511627776) (hE : Ints w a n x)
  (hf : ∀ (args : Array Value) (w : World), (callFunc f args).run Try.prog w = .ok (.enter f args) w)
  (hcl : ∀ (k : Nat) (w' : World), k < n → Keeps w w' → Calls Try.prog f (#[.int .i64 (x k)] ++ cap) w' fun e w'' => e = .returned (.bool (p k)) ∧ Keeps w' w'') :
    Calls Try.prog 66 #[.slice a n c, .func (.func f) #[] cap] w fun e w' => e = .returned (.int .i64 (idxB p n)) ∧ Keeps w w' := by
  have HC := Lib.hid hcl
  clear hcl
  have HE := Lib.hid hE
  clear hE
  go_enter Try.func66, Try.ntmps66
  go_wp2
  go_loopw [8] (fun i wr => ∃ k : Nat, k ≤ n ∧ i = .int .i64 k ∧ Hid (∀ j, j < k → p j = false) ∧ Keeps w wr) (fun i _ => n - (intOf i).toNat)
  case atStart => exact ⟨0, by omega, rfl, Lib.hid (fun _ h => absurd h (Nat.not_lt_zero _)), Keeps.refl _⟩
  case round =>
    obtain ⟨k, hk, rfl, hb, hK⟩ := hrel
    by_cases hlt : k < n
    · have hlt' : (k : Int) < n := by omega
      obtain ⟨b, off, e, hc⟩ := HE.out k hlt
      subst e
      have hc1 := cell_keeps hK hc
      go_wp2_with fail
      refine (HC.out k _ hlt hK).mono ?_
      rintro e w1 ⟨rfl, h1⟩
      cases hpk : p k
      · have HP := Lib.hid hpk
        clear hpk
        go_wp2
        go_roundw
        case rel =>
          refine ⟨k + 1, by omega, by go_num, Lib.hid (fun j hj => ?_), hK.step h1⟩
          by_cases hjk : j = k
          · rw [hjk]; exact HP.out
          · exact hb.out j (by omega)
        case measure => simp [intOf]; omega
      · have HP := Lib.hid hpk
        clear hpk
        go_wp2
        go_ret
        exact ⟨ret_int (idxB_at p n k hlt HP.out hb.out), hK.step h1⟩
    · have : k = n := by omega
      subst this
      go_wp2
      go_ret
      exact ⟨ret_int (idxB_none p k hb.out), hK⟩
set_option maxHeartbeats 400000 in
theorem intcontains_any (f : Nat) (cap : Array Value) (a : Option Addr) (n c : Nat) (x : Nat → Int) (p : Nat → Bool) (w : World) (hn : n ≤ 1099511627776) (hE : Ints w a n x)
  (hf : ∀ (args : Array Value) (w : World), (callFunc f args).run Try.prog w = .ok (.enter f args) w)
  (hcl : ∀ (k : Nat) (w' : World), k < n → Keeps w w' → Calls Try.prog f (#[.int .i64 (x k)] ++ cap) w' fun e w'' => e = .returned (.bool (p k)) ∧ Keeps w' w'') :
    Calls Try.prog 43 #[.slice a n c, .func (.func f) #[] cap] w fun e w' => e = .returned (.bool (anyB p n)) ∧ Keeps w w' := by
  have HC := Lib.hid hcl
  clear hcl
  have HE := Lib.hid hE
  clear hE
  have HG := Lib.hid (idxB_ge p n)
  go_enter Try.func43, Try.ntmps43
  go_wp2_with fail
  refine (intidx_any f cap a n c x p w hn HE.out hf HC.out).mono ?_
  rintro e w1 ⟨rfl, h1⟩
  go_wp2
  go_ret
  exact ⟨ret_bool HG.out, h1⟩

set_option maxHeartbeats 400000 in
theorem rowidx_any (f : Nat) (cap : Array Value) (a : Option Addr) (n c : Nat) (r : Nat → Option Addr × Nat × Nat) (x : Nat → Nat → Int) (p : Nat → Bool) (w : World) (hn : n ≤ 1099511627776) (hE : Rows w a n r x)
  (hf : ∀ (args : Array Value) (w : World), (callFunc f args).run Try.prog w = .ok (.enter f args) w)
  (hcl : ∀ (k : Nat) (w' : World), k < n → Keeps w w' → Calls Try.prog f (#[.slice (r k).1 (r k).2.1 (r k).2.2] ++ cap) w' fun e w'' => e = .returned (.bool (p k)) ∧ Keeps w' w'') :
    Calls Try.prog 77 #[.slice a n c, .func (.func f) #[] cap] w fun e w' => e = .returned (.int .i64 (idxB p n)) ∧ Keeps w w' := by
  have HC := Lib.hid hcl
  clear hcl
  have HE := Lib.hid hE
  clear hE
  go_enter Try.func77, Try.ntmps77
  go_wp2
  go_loopw [8] (fun i wr => ∃ k : Nat, k ≤ n ∧ i = .int .i64 k ∧ Hid (∀ j, j < k → p j = false) ∧ Keeps w wr) (fun i _ => n - (intOf i).toNat)
  case atStart => exact ⟨0, by omega, rfl, Lib.hid (fun _ h => absurd h (Nat.not_lt_zero _)), Keeps.refl _⟩
  case round =>
    obtain ⟨k, hk, rfl, hb, hK⟩ := hrel
    by_cases hlt : k < n
    · have hlt' : (k : Int) < n := by omega
      obtain ⟨b, off, e, hc⟩ := (HE.out k hlt).1
      subst e
      have hc1 := cell_keeps hK hc
      go_wp2_with fail
      refine (HC.out k _ hlt hK).mono ?_
      rintro e w1 ⟨rfl, h1⟩
      cases hpk : p k
      · have HP := Lib.hid hpk
        clear hpk
        go_wp2
        go_roundw
        case rel =>
          refine ⟨k + 1, by omega, by go_num, Lib.hid (fun j hj => ?_), hK.step h1⟩
          by_cases hjk : j = k
          · rw [hjk]; exact HP.out
          · exact hb.out j (by omega)
        case measure => simp [intOf]; omega
      · have HP := Lib.hid hpk
        clear hpk
        go_wp2
        go_ret
        exact ⟨ret_int (idxB_at p n k hlt HP.out hb.out), hK.step h1⟩
    · have : k = n := by omega
      subst this
      go_wp2
      go_ret
      exact ⟨ret_int (idxB_none p k hb.out), hK⟩
set_option maxHeartbeats 400000 in
theorem rowcontains_any (f : Nat) (cap : Array Value) (a : Option Addr) (n c : Nat) (r : Nat → Option Addr × Nat × Nat) (x : Nat → Nat → Int) (p : Nat → Bool) (w : World) (hn : n ≤ 1099511627776) (hE : Rows w a n r x)
  (hf : ∀ (args : Array Value) (w : World), (callFunc f args).run Try.prog w = .ok (.enter f args) w)
  (hcl : ∀ (k : Nat) (w' : World), k < n → Keeps w w' → Calls Try.prog f (#[.slice (r k).1 (r k).2.1 (r k).2.2] ++ cap) w' fun e w'' => e = .returned (.bool (p k)) ∧ Keeps w' w'') :
    Calls Try.prog 56 #[.slice a n c, .func (.func f) #[] cap] w fun e w' => e = .returned (.bool (anyB p n)) ∧ Keeps w w' := by
  have HC := Lib.hid hcl
  clear hcl
  have HE := Lib.hid hE
  clear hE
  have HG := Lib.hid (idxB_ge p n)
  go_enter Try.func56, Try.ntmps56
  go_wp2_with fail
  refine (rowidx_any f cap a n c r x p w hn HE.out hf HC.out).mono ?_
  rintro e w1 ⟨rfl, h1⟩
  go_wp2
  go_ret
  exact ⟨ret_bool HG.out, h1⟩
end Go.Proofs.Ytaejakejnllimaa
