/-
  The contracts of small functions on numbers: within, inRange, power, bit, has, with. Conditions: the ranges in each statement.
-/
import Derived.Test.YtlniogfinofakaaGreatDoorRows
import Derived.Test.YtlniogfinofakaaGreatDoorRuAa
namespace Go.Proofs.YtlniogfinofakaaGreatDoor
set_option maxRecDepth 100000
open Go.RowKit

/-- n lies in lo..hi. -/
def inB (n lo hi : Int) : Bool := decide (lo ≤ n ∧ n ≤ hi)
theorem inB_true {n lo hi : Int} (h : inB n lo hi = true) : lo ≤ n ∧ n ≤ hi := by simpa [inB] using h
theorem inB_false {n lo hi : Int} (h : inB n lo hi = false) : n < lo ∨ hi < n := by
  have : ¬ (lo ≤ n ∧ n ≤ hi) := by simpa [inB] using h
  omega
theorem inB_mk {n lo hi : Int} (h : lo ≤ n) (k : n ≤ hi) : inB n lo hi = true := by simp [inB, h, k]
theorem inB_not {n lo hi : Int} (h : n < lo ∨ hi < n) : inB n lo hi = false := by
  have : ¬ (lo ≤ n ∧ n ≤ hi) := by omega
  simp [inB, this]

set_option maxHeartbeats 400000 in
theorem within_any (n lo hi : Int) (w : World) : Calls Tryz.prog 87 #[.int .i64 n, .int .i64 lo, .int .i64 hi] w fun e w' => e = .returned (.bool (inB n lo hi)) ∧ w = w' := by
  by_cases h : lo ≤ n
  · by_cases k : n ≤ hi
    · rw [inB_mk h k]
      go_enter Tryz.func87, Tryz.ntmps87
      go_wp2
      go_ret
      exact ⟨rfl, rfl⟩
    · rw [inB_not (by omega)]
      go_enter Tryz.func87, Tryz.ntmps87
      go_wp2
      go_ret
      exact ⟨rfl, rfl⟩
  · rw [inB_not (by omega)]
    go_enter Tryz.func87, Tryz.ntmps87
    go_wp2
    go_ret
    exact ⟨rfl, rfl⟩
set_option maxHeartbeats 400000 in
theorem inRange_any (n lo hi : Int) (w : World) : Calls Tryz.prog 37 #[.int .i64 n, .int .i64 lo, .int .i64 hi] w fun e w' => e = .returned (.bool (inB n lo hi)) ∧ w = w' := by
  by_cases h : lo ≤ n
  · by_cases k : n ≤ hi
    · rw [inB_mk h k]
      go_enter Tryz.func37, Tryz.ntmps37
      go_wp2
      go_ret
      exact ⟨rfl, rfl⟩
    · rw [inB_not (by omega)]
      go_enter Tryz.func37, Tryz.ntmps37
      go_wp2
      go_ret
      exact ⟨rfl, rfl⟩
  · rw [inB_not (by omega)]
    go_enter Tryz.func37, Tryz.ntmps37
    go_wp2
    go_ret
    exact ⟨rfl, rfl⟩

theorem pow_step (k : Nat) : (2 : Int) * ((2 ^ k : Nat) : Int) = ((2 ^ (k + 1) : Nat) : Int) := by
  rw [Nat.pow_succ]; omega
theorem pow_le62 (k : Nat) (h : k ≤ 61) : ((2 ^ k : Nat) : Int) ≤ 2305843009213693952 := by
  have := Nat.pow_le_pow_right (show 0 < 2 by omega) h
  omega
set_option maxHeartbeats 400000 in
theorem spower_any (n : Nat) (w : World) (h : n ≤ 62) : Calls Tryz.prog 38 #[.int .i64 n] w fun e w' => e = .returned (.int .i64 ((2 ^ n : Nat) : Int)) ∧ w = w' := by
  go_enter Tryz.func38, Tryz.ntmps38
  go_wp2
  go_loop [3, 0] (fun o m => ∃ k : Nat, k ≤ n ∧ o = .int .i64 ((2 ^ k : Nat) : Int) ∧ m = .int .i64 ((n - k : Nat) : Int)) (fun _ m => (intOf m).toNat)
  case atStart => exact ⟨0, by omega, by simp, by simp⟩
  case round =>
    obtain ⟨k, hk, rfl, rfl⟩ := hrel
    by_cases hlt : k < n
    · have h1 := pow_le62 k (by omega)
      have h2 : (0 : Int) ≤ ((2 ^ k : Nat) : Int) := Int.natCast_nonneg _
      have hs := pow_step k
      have HS := Lib.hid hs
      clear hs
      have H2 : Hid (((n - k : Nat) : Int) - 1 = ((n - (k + 1) : Nat) : Int)) := Lib.hid (by omega)
      generalize 2 ^ k = p at *
      go_wp2
      go_round
      case rel => exact ⟨k + 1, by omega, by rw [HS.out], by rw [H2.out]⟩
      case measure => simp [intOf]; omega
    · have : k = n := by omega
      subst this
      go_wp2
      go_ret
      exact ⟨rfl, rfl⟩

/-- A bit as a number. -/
def bitI (b : Bool) : Int := if b then 1 else 0
theorem bit_eq (s n : Nat) : (s : Int) / ((2 ^ n : Nat) : Int) % 2 = bitI (s.testBit n) := by
  rw [Nat.testBit_eq_decide_div_mod_eq, ← Int.natCast_ediv]
  generalize s / 2 ^ n = q
  unfold bitI
  by_cases h : q % 2 = 1 <;> simp [h] <;> omega

set_option maxHeartbeats 400000 in
theorem sbit_any (s n : Nat) (w : World) (hs : s < 9223372036854775808) (h : n ≤ 62) : Calls Tryz.prog 58 #[.int .i64 s, .int .i64 n] w fun e w' => e = .returned (.int .i64 (bitI (s.testBit n))) ∧ w = w' := by
  have hp : (1 : Int) ≤ ((2 ^ n : Nat) : Int) := by have := Nat.two_pow_pos n; omega
  have HB : Hid ((s : Int) / ((2 ^ n : Nat) : Int) % 2 = bitI (s.testBit n)) := Lib.hid (bit_eq s n)
  have hd : (0 : Int) ≤ (s : Int) / ((2 ^ n : Nat) : Int) := Int.ediv_nonneg (by omega) (by omega)
  have hu : (s : Int) / ((2 ^ n : Nat) : Int) ≤ 9223372036854775807 := by have := Int.ediv_le_self (a := (s : Int)) ((2 ^ n : Nat) : Int) (by omega); omega
  go_enter Tryz.func58, Tryz.ntmps58
  go_wp2_with fail
  refine (spower_any n _ h).mono ?_
  rintro e w' ⟨rfl, rfl⟩
  generalize ((2 ^ n : Nat) : Int) = p at *
  go_wp2
  go_ret
  exact ⟨ret_int HB.out, rfl⟩


set_option maxHeartbeats 400000 in
theorem has_any (s n : Nat) (w : World) (hs : s < 9223372036854775808) (h : n ≤ 62) : Calls Tryz.prog 96 #[.int .i64 s, .int .i64 n] w fun e w' => e = .returned (.bool (s.testBit n)) ∧ w = w' := by
  have H := Lib.hid (testBit_one s n hs)
  go_enter Tryz.func96, Tryz.ntmps96
  go_wp2
  go_ret
  exact ⟨ret_bool H.out, rfl⟩
set_option maxHeartbeats 400000 in
theorem with_any (s n : Nat) (w : World) (hs : s < 9223372036854775808) (h : n ≤ 62) : Calls Tryz.prog 97 #[.int .i64 s, .int .i64 n] w fun e w' => e = .returned (.int .i64 ((s ||| 2 ^ n : Nat) : Int)) ∧ w = w' := by
  have H := Lib.hid (bits_or s (2 ^ n) hs (pow_lt63 n (by omega)))
  have H2 := Lib.hid (wrapPow n (by omega))
  go_enter Tryz.func97, Tryz.ntmps97
  go_wp2
  go_ret
  exact ⟨ret_int (by rw [H2.out, H.out]), rfl⟩
end Go.Proofs.YtlniogfinofakaaGreatDoor
/-
  The contract of filter: whatever function value it is handed, if that answers p k at each k below W and keeps I, filter returns the sum of 2 to each k with p k. Condition: W at most 16.
-/
namespace Go.Proofs.YtlniogfinofakaaGreatDoor
set_option maxRecDepth 100000
open Go.RowKit

/-- The set of all k < n with p k, as bits. -/
def maskB (p : Nat → Bool) : Nat → Nat
  | 0 => 0
  | n + 1 => if p n then maskB p n ||| 2 ^ n else maskB p n
theorem maskB_lt (p : Nat → Bool) (n : Nat) : maskB p n < 2 ^ n := by
  induction n with
  | zero => simp [maskB]
  | succ n ih =>
    have h2 : 2 ^ n < 2 ^ (n + 1) := Nat.pow_lt_pow_right (by omega) (by omega)
    unfold maskB
    split
    · exact Nat.or_lt_two_pow (by omega) h2
    · omega
theorem maskB_testBit (p : Nat → Bool) (n i : Nat) : (maskB p n).testBit i = (decide (i < n) && p i) := by
  induction n with
  | zero => simp [maskB]
  | succ n ih =>
    have hl : i = n → (maskB p n).testBit n = false := fun _ => Nat.testBit_lt_two_pow (maskB_lt p n)
    unfold maskB
    by_cases hin : i = n
    · subst hin
      by_cases hp : p i
      · simp [hp, Nat.testBit_or, Nat.testBit_two_pow_self]
      · simp [hp, hl rfl]
    · have h1 : (2 ^ n).testBit i = false := by rw [Nat.testBit_two_pow]; simp; omega
      have h2 : decide (i < n + 1) = decide (i < n) := by simp; omega
      by_cases hp : p n
      · simp only [hp, if_true, Nat.testBit_or, ih, h1, Bool.or_false, h2]
      · simp only [hp, Bool.false_eq_true, if_false, ih, h2]
theorem maskB_lt16 (p : Nat → Bool) (n : Nat) (h : n ≤ 17) : maskB p n < 131072 := Nat.lt_of_lt_of_le (maskB_lt p n) (Nat.le_trans (Nat.pow_le_pow_right (by omega) h) (by omega))
theorem maskB_congr {p q : Nat → Bool} {n : Nat} (h : ∀ i, i < n → p i = q i) : maskB p n = maskB q n := by
  apply Nat.eq_of_testBit_eq
  intro i
  rw [maskB_testBit, maskB_testBit]
  by_cases hi : i < n <;> simp [hi, h]

set_option maxHeartbeats 400000 in
theorem filter_any (f : Nat) (cap : Array Value) (W : Nat) (p : Nat → Bool) (I : World → Prop) (hW : W ≤ 16)
  (hf : ∀ (args : Array Value) (w : World), (callFunc f args).run Tryz.prog w = .ok (.enter f args) w)
  (hcl : ∀ (k : Nat) (w : World), k < W → I w → Calls Tryz.prog f (#[.int .i64 k] ++ cap) w fun e w' => e = .returned (.bool (p k)) ∧ I w') (w : World) (hI : I w) :
    Calls Tryz.prog 93 #[.int .i64 W, .func (.func f) #[] cap] w fun e w' => e = .returned (.int .i64 (maskB p W : Nat)) ∧ I w' := by
  have HC := Lib.hid hcl
  clear hcl
  go_enter Tryz.func93, Tryz.ntmps93
  go_wp2
  go_loopw [5, 8] (fun o i wr => ∃ k : Nat, k ≤ W ∧ o = .int .i64 (maskB p k : Nat) ∧ i = .int .i64 k ∧ I wr) (fun _ i _ => W - (intOf i).toNat)
  case atStart => exact ⟨0, by omega, rfl, rfl, hI⟩
  case round =>
    obtain ⟨k, hk, rfl, rfl, hIr⟩ := hrel
    by_cases hlt : k < W
    · have hm := maskB_lt16 p k (by omega)
      have HT : Hid (maskB p (k + 1) = if p k then maskB p k ||| 2 ^ k else maskB p k) := Lib.hid rfl
      go_wp2_with fail
      refine (HC.out k _ hlt hIr).mono ?_
      rintro e w1 ⟨rfl, hI1⟩
      cases hpk : p k
      · have HP := Lib.hid hpk
        clear hpk
        go_wp2
        go_roundw
        case rel => exact ⟨k + 1, by omega, by rw [HT.out, HP.out]; simp, by go_num, hI1⟩
        case measure => simp [intOf]; omega
      · have HP := Lib.hid hpk
        clear hpk
        go_wp2_with fail
        refine (with_any _ k _ (by omega) (by omega)).mono ?_
        rintro e w2 ⟨rfl, rfl⟩
        go_wp2
        go_roundw
        case rel => exact ⟨k + 1, by omega, by rw [HT.out, HP.out]; simp, by go_num, hI1⟩
        case measure => simp [intOf]; omega
    · have : k = W := by omega
      subst this
      go_wp2
      go_ret
      exact ⟨rfl, hIr⟩
end Go.Proofs.YtlniogfinofakaaGreatDoor
/-
  The contracts of slices.IndexFunc and slices.ContainsFunc at []int and [][]int: whatever function value they are handed, if that answers p k at the k-th element and keeps what was there. Condition: lengths at most 2^40.
-/
namespace Go.Proofs.YtlniogfinofakaaGreatDoor
set_option maxRecDepth 100000
open Go.RowKit

/-- Is there one k < n with p k? -/
def anyB (p : Nat → Bool) : Nat → Bool
  | 0 => false
  | n + 1 => anyB p n || p n
theorem anyB_iff (p : Nat → Bool) (n : Nat) : anyB p n = true ↔ ∃ i, i < n ∧ p i = true := by
  induction n with
  | zero => simp [anyB]
  | succ n ih =>
    simp only [anyB, Bool.or_eq_true, ih]
    constructor
    · rintro (⟨i, h, hp⟩ | h)
      · exact ⟨i, by omega, hp⟩
      · exact ⟨n, by omega, h⟩
    · rintro ⟨i, h, hp⟩
      by_cases hi : i = n
      · subst hi; exact .inr hp
      · exact .inl ⟨i, by omega, hp⟩
theorem anyB_false (p : Nat → Bool) (n : Nat) : anyB p n = false ↔ ∀ i, i < n → p i = false := by
  rw [← Bool.not_eq_true, anyB_iff]
  constructor
  · intro h i hi
    cases hp : p i
    · rfl
    · exact (h ⟨i, hi, hp⟩).elim
  · rintro h ⟨i, hi, hp⟩
    rw [h i hi] at hp
    cases hp
/-- The first k < n with p k, -1 if there is none. -/
def idxB (p : Nat → Bool) (n : Nat) : Int := match (List.range n).find? p with | some k => k | none => -1
theorem find_range (p : Nat → Bool) (n k : Nat) (hk : k < n) (hp : p k = true) (h : ∀ i, i < k → p i = false) : (List.range n).find? p = some k := by
  rw [List.find?_range_eq_some]
  exact ⟨hp, by simpa using hk, fun i hi => by simp [h i hi]⟩
theorem idxB_at (p : Nat → Bool) (n k : Nat) (hk : k < n) (hp : p k = true) (h : ∀ i, i < k → p i = false) : (k : Int) = idxB p n := by
  unfold idxB; rw [find_range p n k hk hp h]
theorem idxB_none (p : Nat → Bool) (n : Nat) (h : ∀ i, i < n → p i = false) : -1 = idxB p n := by
  have : (List.range n).find? p = none := by rw [List.find?_range_eq_none]; intro i hi; simp [h i hi]
  unfold idxB; rw [this]
theorem idxB_ge (p : Nat → Bool) (n : Nat) : decide (0 ≤ idxB p n) = anyB p n := by
  by_cases h : ∀ i, i < n → p i = false
  · rw [← idxB_none p n h, (anyB_false p n).2 h]; rfl
  · cases ha : anyB p n
    · exact (h ((anyB_false p n).1 ha)).elim
    · unfold idxB
      split
      · simp
      · rename_i hn
        rw [List.find?_range_eq_none] at hn
        obtain ⟨i, hi, hp⟩ := (anyB_iff p n).1 ha
        have := hn i (by simpa using hi)
        simp [hp] at this

set_option maxHeartbeats 400000 in
theorem intidx_any (f : Nat) (cap : Array Value) (a : Option Addr) (n c : Nat) (x : Nat → Int) (p : Nat → Bool) (w : World) (hn : n ≤ 1099511627776) (hE : Ints w a n x)
  (hf : ∀ (args : Array Value) (w : World), (callFunc f args).run Tryz.prog w = .ok (.enter f args) w)
  (hcl : ∀ (k : Nat) (w' : World), k < n → Keeps w w' → Calls Tryz.prog f (#[.int .i64 (x k)] ++ cap) w' fun e w'' => e = .returned (.bool (p k)) ∧ Keeps w' w'') :
    Calls Tryz.prog 117 #[.slice a n c, .func (.func f) #[] cap] w fun e w' => e = .returned (.int .i64 (idxB p n)) ∧ Keeps w w' := by
  have HC := Lib.hid hcl
  clear hcl
  have HE := Lib.hid hE
  clear hE
  go_enter Tryz.func117, Tryz.ntmps117
  go_wp2
  go_loopw [8] (fun i wr => ∃ k : Nat, k ≤ n ∧ i = .int .i64 k ∧ Hid (∀ j, j < k → p j = false) ∧ Keeps w wr) (fun i _ => n - (intOf i).toNat)
  case atStart => exact ⟨0, by omega, rfl, Lib.hid (fun _ h => absurd h (Nat.not_lt_zero _)), Keeps.refl _⟩
  case round =>
    obtain ⟨k, hk, rfl, hb, hK⟩ := hrel
    by_cases hlt : k < n
    · have hlt' : (k : Int) < n := by omega
      obtain ⟨b, off, e, hc⟩ := HE.out k hlt
      subst e
      have hc1 := cell_keeps hK hc
      go_wp2_with fail
      refine (HC.out k _ hlt hK).mono ?_
      rintro e w1 ⟨rfl, h1⟩
      cases hpk : p k
      · have HP := Lib.hid hpk
        clear hpk
        go_wp2
        go_roundw
        case rel =>
          refine ⟨k + 1, by omega, by go_num, Lib.hid (fun j hj => ?_), hK.step h1⟩
          by_cases hjk : j = k
          · rw [hjk]; exact HP.out
          · exact hb.out j (by omega)
        case measure => simp [intOf]; omega
      · have HP := Lib.hid hpk
        clear hpk
        go_wp2
        go_ret
        exact ⟨ret_int (idxB_at p n k hlt HP.out hb.out), hK.step h1⟩
    · have : k = n := by omega
      subst this
      go_wp2
      go_ret
      exact ⟨ret_int (idxB_none p k hb.out), hK⟩
set_option maxHeartbeats 400000 in
theorem intcontains_any (f : Nat) (cap : Array Value) (a : Option Addr) (n c : Nat) (x : Nat → Int) (p : Nat → Bool) (w : World) (hn : n ≤ 1099511627776) (hE : Ints w a n x)
  (hf : ∀ (args : Array Value) (w : World), (callFunc f args).run Tryz.prog w = .ok (.enter f args) w)
  (hcl : ∀ (k : Nat) (w' : World), k < n → Keeps w w' → Calls Tryz.prog f (#[.int .i64 (x k)] ++ cap) w' fun e w'' => e = .returned (.bool (p k)) ∧ Keeps w' w'') :
    Calls Tryz.prog 88 #[.slice a n c, .func (.func f) #[] cap] w fun e w' => e = .returned (.bool (anyB p n)) ∧ Keeps w w' := by
  have HC := Lib.hid hcl
  clear hcl
  have HE := Lib.hid hE
  clear hE
  have HG := Lib.hid (idxB_ge p n)
  go_enter Tryz.func88, Tryz.ntmps88
  go_wp2_with fail
  refine (intidx_any f cap a n c x p w hn HE.out hf HC.out).mono ?_
  rintro e w1 ⟨rfl, h1⟩
  go_wp2
  go_ret
  exact ⟨ret_bool HG.out, h1⟩

set_option maxHeartbeats 400000 in
theorem rowidx_any (f : Nat) (cap : Array Value) (a : Option Addr) (n c : Nat) (r : Nat → Option Addr × Nat × Nat) (x : Nat → Nat → Int) (p : Nat → Bool) (w : World) (hn : n ≤ 1099511627776) (hE : Rows w a n r x)
  (hf : ∀ (args : Array Value) (w : World), (callFunc f args).run Tryz.prog w = .ok (.enter f args) w)
  (hcl : ∀ (k : Nat) (w' : World), k < n → Keeps w w' → Calls Tryz.prog f (#[.slice (r k).1 (r k).2.1 (r k).2.2] ++ cap) w' fun e w'' => e = .returned (.bool (p k)) ∧ Keeps w' w'') :
    Calls Tryz.prog 137 #[.slice a n c, .func (.func f) #[] cap] w fun e w' => e = .returned (.int .i64 (idxB p n)) ∧ Keeps w w' := by
  have HC := Lib.hid hcl
  clear hcl
  have HE := Lib.hid hE
  clear hE
  go_enter Tryz.func137, Tryz.ntmps137
  go_wp2
  go_loopw [8] (fun i wr => ∃ k : Nat, k ≤ n ∧ i = .int .i64 k ∧ Hid (∀ j, j < k → p j = false) ∧ Keeps w wr) (fun i _ => n - (intOf i).toNat)
  case atStart => exact ⟨0, by omega, rfl, Lib.hid (fun _ h => absurd h (Nat.not_lt_zero _)), Keeps.refl _⟩
  case round =>
    obtain ⟨k, hk, rfl, hb, hK⟩ := hrel
    by_cases hlt : k < n
    · have hlt' : (k : Int) < n := by omega
      obtain ⟨b, off, e, hc⟩ := (HE.out k hlt).1
      subst e
      have hc1 := cell_keeps hK hc
      go_wp2_with fail
      refine (HC.out k _ hlt hK).mono ?_
      rintro e w1 ⟨rfl, h1⟩
      cases hpk : p k
      · have HP := Lib.hid hpk
        clear hpk
        go_wp2
        go_roundw
        case rel =>
          refine ⟨k + 1, by omega, by go_num, Lib.hid (fun j hj => ?_), hK.step h1⟩
          by_cases hjk : j = k
          · rw [hjk]; exact HP.out
          · exact hb.out j (by omega)
        case measure => simp [intOf]; omega
      · have HP := Lib.hid hpk
        clear hpk
        go_wp2
        go_ret
        exact ⟨ret_int (idxB_at p n k hlt HP.out hb.out), hK.step h1⟩
    · have : k = n := by omega
      subst this
      go_wp2
      go_ret
      exact ⟨ret_int (idxB_none p k hb.out), hK⟩
set_option maxHeartbeats 400000 in
theorem rowcontains_any (f : Nat) (cap : Array Value) (a : Option Addr) (n c : Nat) (r : Nat → Option Addr × Nat × Nat) (x : Nat → Nat → Int) (p : Nat → Bool) (w : World) (hn : n ≤ 1099511627776) (hE : Rows w a n r x)
  (hf : ∀ (args : Array Value) (w : World), (callFunc f args).run Tryz.prog w = .ok (.enter f args) w)
  (hcl : ∀ (k : Nat) (w' : World), k < n → Keeps w w' → Calls Tryz.prog f (#[.slice (r k).1 (r k).2.1 (r k).2.2] ++ cap) w' fun e w'' => e = .returned (.bool (p k)) ∧ Keeps w' w'') :
    Calls Tryz.prog 102 #[.slice a n c, .func (.func f) #[] cap] w fun e w' => e = .returned (.bool (anyB p n)) ∧ Keeps w w' := by
  have HC := Lib.hid hcl
  clear hcl
  have HE := Lib.hid hE
  clear hE
  have HG := Lib.hid (idxB_ge p n)
  go_enter Tryz.func102, Tryz.ntmps102
  go_wp2_with fail
  refine (rowidx_any f cap a n c r x p w hn HE.out hf HC.out).mono ?_
  rintro e w1 ⟨rfl, h1⟩
  go_wp2
  go_ret
  exact ⟨ret_bool HG.out, h1⟩
end Go.Proofs.YtlniogfinofakaaGreatDoor
/-
  Plain laws on distances in a net: what distances are, that there is one such function, that the reference's levels are it, and what a search that goes on from a queue keeps. Condition: ports lead to nodes.
-/
namespace Go.Proofs.YtlniogfinofakaaGreatDoor
set_option maxRecDepth 100000
open Go.RowKit

/-- Does a port of v lead to u? L: how many ports, T: where they lead. -/
def Adj (L : Nat → Nat) (T : Nat → Nat → Nat) (v u : Nat) : Prop := ∃ p, p < L v ∧ T v p = u
/-- f is the distance from s, -1 where there is no way. -/
structure IsDist (m : Nat) (A : Nat → Nat → Prop) (s : Nat) (f : Nat → Int) : Prop where
  low : ∀ x, x < m → -1 ≤ f x
  src : f s = 0
  zero : ∀ x, x < m → f x = 0 → x = s
  pred : ∀ x, x < m → 0 < f x → ∃ v, v < m ∧ f v = f x - 1 ∧ A v x
  edge : ∀ v u, v < m → u < m → A v u → 0 ≤ f v → 0 ≤ f u ∧ f u ≤ f v + 1
theorem dist_le {m s : Nat} {A : Nat → Nat → Prop} {f g : Nat → Int} (hf : IsDist m A s f) (hg : IsDist m A s g) : ∀ (d : Nat) (x : Nat), x < m → f x = (d : Int) → 0 ≤ g x ∧ g x ≤ (d : Int)
  | 0, x, hx, h => by
    obtain rfl := hf.zero x hx (by simpa using h)
    rw [hg.src]; omega
  | d + 1, x, hx, h => by
    obtain ⟨v, hv, e, a⟩ := hf.pred x hx (by omega)
    obtain ⟨h1, h2⟩ := dist_le hf hg d v hv (by omega)
    obtain ⟨h3, h4⟩ := hg.edge v x hv hx a h1
    exact ⟨h3, by omega⟩
theorem dist_eq {m s : Nat} {A : Nat → Nat → Prop} {f g : Nat → Int} (hf : IsDist m A s f) (hg : IsDist m A s g) (x : Nat) (hx : x < m) : f x = g x := by
  have l1 := hf.low x hx
  have l2 := hg.low x hx
  by_cases h : 0 ≤ f x
  · obtain ⟨d, hd⟩ := Int.eq_ofNat_of_zero_le h
    obtain ⟨h1, h2⟩ := dist_le hf hg d x hx hd
    obtain ⟨e, he⟩ := Int.eq_ofNat_of_zero_le h1
    obtain ⟨_, h3⟩ := dist_le hg hf e x hx he
    omega
  · by_cases h' : 0 ≤ g x
    · obtain ⟨e, he⟩ := Int.eq_ofNat_of_zero_le h'
      obtain ⟨h3, _⟩ := dist_le hg hf e x hx he
      omega
    · omega
/-- k different numbers below m: k is at most m. -/
theorem pigeon : ∀ (m k : Nat) (y : Nat → Nat), (∀ i, i < k → y i < m) → (∀ i j, i < k → j < k → y i = y j → i = j) → k ≤ m
  | 0, k, y, h, _ => by
    rcases Nat.eq_zero_or_pos k with h0 | h0
    · omega
    · exact absurd (h 0 h0) (Nat.not_lt_zero _)
  | m + 1, k, y, h, inj => by
    by_cases hex : ∃ i, i < k ∧ y i = m
    · obtain ⟨i, hi, e⟩ := hex
      have := pigeon m (k - 1) (fun j => y (if j < i then j else j + 1)) (fun j hj => by
        have h1 := h (if j < i then j else j + 1) (by split <;> omega)
        have h2 : y (if j < i then j else j + 1) ≠ m := fun e2 => by
          have := inj _ _ (by split <;> omega) hi (e2.trans e.symm)
          split at this <;> omega
        (try dsimp only)
        omega) (fun a b ha hb e2 => by
        have := inj _ _ (by split <;> omega) (by split <;> omega) e2
        split at this <;> split at this <;> omega)
      omega
    · have := pigeon m k y (fun i hi => by
        have := h i hi
        have : y i ≠ m := fun e => hex ⟨i, hi, e⟩
        omega) inj
      omega
/-- From each value down to 0 there is one. -/
theorem chain {m : Nat} {A : Nat → Nat → Prop} {f : Nat → Int} (hp : ∀ x, x < m → 0 < f x → ∃ v, v < m ∧ f v = f x - 1 ∧ A v x) : ∀ (d : Nat) (x : Nat), x < m → f x = (d : Int) → ∀ e, e ≤ d → ∃ y, y < m ∧ f y = (e : Int)
  | 0, x, hx, h, e, he => ⟨x, hx, by rw [h]; congr 1; omega⟩
  | d + 1, x, hx, h, e, he => by
    by_cases h1 : e = d + 1
    · exact ⟨x, hx, by rw [h, h1]⟩
    · obtain ⟨v, hv, e1, _⟩ := hp x hx (by omega)
      exact chain hp d v hv (by omega) e (by omega)
theorem dist_lt {m : Nat} {A : Nat → Nat → Prop} {f : Nat → Int} (hp : ∀ x, x < m → 0 < f x → ∃ v, v < m ∧ f v = f x - 1 ∧ A v x) (x : Nat) (hx : x < m) : f x < (m : Int) := by
  by_cases h : 0 ≤ f x
  · obtain ⟨d, hd⟩ := Int.eq_ofNat_of_zero_le h
    obtain ⟨y, hy⟩ := Deep.choose_lt (n := d + 1) (p := fun e y => y < m ∧ f y = (e : Int)) (fun e he => chain hp d x hx hd e (by omega))
    have := pigeon m (d + 1) y (fun i hi => (hy i hi).1) (fun i j hi hj e => by
      have h1 := (hy i hi).2
      have h2 := (hy j hj).2
      rw [e] at h1
      omega)
    omega
  · omega

/-! ### the reference's levels -/
/-- Does one of the first v nodes at f d have a port that leads to x? -/
def hitB (L : Nat → Nat) (T : Nat → Nat → Nat) (d : Nat) (f : Nat → Int) (v x : Nat) : Bool := anyB (fun v' => decide (f v' = (d : Int)) && anyB (fun p => T v' p == x) (L v')) v
/-- A sweep: the first v nodes, and p ports of the node v. -/
def sweptF (L : Nat → Nat) (T : Nat → Nat → Nat) (d : Nat) (f : Nat → Int) (v p : Nat) : Nat → Int := fun x =>
  if 0 ≤ f x then f x else if hitB L T d f v x || (decide (f v = (d : Int)) && anyB (fun p' => T v p' == x) p) then (d : Int) + 1 else f x
/-- The levels up to d. -/
def levF (m : Nat) (L : Nat → Nat) (T : Nat → Nat → Nat) (s : Nat) : Nat → Nat → Int
  | 0 => fun x => if x = s then 0 else -1
  | d + 1 => sweptF L T d (levF m L T s d) m 0
/-- The distances. -/
def farF (m : Nat) (L : Nat → Nat) (T : Nat → Nat → Nat) (s : Nat) : Nat → Int := levF m L T s m
theorem swept_zero (L : Nat → Nat) (T : Nat → Nat → Nat) (d : Nat) (f : Nat → Int) : sweptF L T d f 0 0 = f := by
  funext x
  unfold sweptF hitB
  simp [anyB]
theorem swept_next (L : Nat → Nat) (T : Nat → Nat → Nat) (d : Nat) (f : Nat → Int) (v : Nat) : sweptF L T d f v (L v) = sweptF L T d f (v + 1) 0 := by
  funext x
  unfold sweptF hitB
  simp only [anyB, Bool.and_false, Bool.or_false]
theorem swept_skip (L : Nat → Nat) (T : Nat → Nat → Nat) (d : Nat) (f : Nat → Int) (v p : Nat) (h : f v ≠ (d : Int)) : sweptF L T d f v p = sweptF L T d f v 0 := by
  funext x
  unfold sweptF
  simp [h]
theorem swept_keeps (L : Nat → Nat) (T : Nat → Nat → Nat) (d : Nat) (f : Nat → Int) (v p x : Nat) (h : 0 ≤ f x) : sweptF L T d f v p x = f x := by
  unfold sweptF; rw [if_pos h]
theorem swept_at (L : Nat → Nat) (T : Nat → Nat → Nat) (d : Nat) (f : Nat → Int) (v p x : Nat) : (sweptF L T d f v p x = (d : Int)) ↔ f x = (d : Int) := by
  unfold sweptF
  by_cases h : 0 ≤ f x
  · rw [if_pos h]
  · rw [if_neg h]
    split <;> omega
theorem swept_low (L : Nat → Nat) (T : Nat → Nat → Nat) (d : Nat) (f : Nat → Int) (v p x : Nat) (hl : -1 ≤ f x) : -1 ≤ sweptF L T d f v p x := by
  unfold sweptF
  split
  · exact hl
  · split
    · omega
    · exact hl
/-- One port more. -/
theorem swept_port (L : Nat → Nat) (T : Nat → Nat → Nat) (d : Nat) (f : Nat → Int) (v p : Nat) (h : f v = (d : Int)) (hneg : sweptF L T d f v p (T v p) < 0) : sweptF L T d f v (p + 1) = fun x => if x = T v p then (d : Int) + 1 else sweptF L T d f v p x := by
  funext x
  unfold sweptF at hneg ⊢
  by_cases e : x = T v p
  · subst e
    rw [if_pos rfl]
    have hn : ¬ 0 ≤ f (T v p) := fun h0 => by rw [if_pos h0] at hneg; omega
    rw [if_neg hn, if_pos (by simp [anyB, h])]
  · rw [if_neg e]
    have e' : ¬ T v p = x := fun h => e h.symm
    simp [anyB, e']
theorem swept_port_not (L : Nat → Nat) (T : Nat → Nat → Nat) (d : Nat) (f : Nat → Int) (v p : Nat) (hneg : ¬ sweptF L T d f v p (T v p) < 0) : sweptF L T d f v (p + 1) = sweptF L T d f v p := by
  funext x
  unfold sweptF at hneg ⊢
  by_cases e : x = T v p
  · subst e
    by_cases h0 : 0 ≤ f (T v p)
    · rw [if_pos h0, if_pos h0]
    · rw [if_neg h0] at hneg ⊢
      rw [if_neg h0]
      by_cases hh : (hitB L T d f v (T v p) || (decide (f v = (d : Int)) && anyB (fun p' => T v p' == T v p) p)) = true
      · rw [if_pos hh]
        have hh2 : (hitB L T d f v (T v p) || (decide (f v = (d : Int)) && anyB (fun p' => T v p' == T v p) (p + 1))) = true := by
          rw [Bool.or_eq_true] at hh ⊢
          rcases hh with hh | hh
          · exact .inl hh
          · rw [Bool.and_eq_true] at hh
            exact .inr (by rw [anyB, hh.1, hh.2]; rfl)
        rw [if_pos hh2]
      · rw [if_neg hh] at hneg
        omega
  · have e' : ¬ T v p = x := fun h => e h.symm
    simp [anyB, e']
structure LevInv (m : Nat) (L : Nat → Nat) (T : Nat → Nat → Nat) (s d : Nat) (f : Nat → Int) : Prop where
  low : ∀ x, -1 ≤ f x
  src : f s = 0
  zero : ∀ x, f x = 0 → x = s
  hi : ∀ x, f x ≤ (d : Int)
  pred : ∀ x, 0 < f x → ∃ v, v < m ∧ f v = f x - 1 ∧ Adj L T v x
  edge : ∀ v u, v < m → Adj L T v u → 0 ≤ f v → f v < (d : Int) → 0 ≤ f u ∧ f u ≤ f v + 1
theorem hit_iff (L : Nat → Nat) (T : Nat → Nat → Nat) (d : Nat) (f : Nat → Int) (v x : Nat) : hitB L T d f v x = true ↔ ∃ v', v' < v ∧ f v' = (d : Int) ∧ Adj L T v' x := by
  unfold hitB
  rw [anyB_iff]
  constructor
  · rintro ⟨v', h1, h2⟩
    rw [Bool.and_eq_true, anyB_iff] at h2
    obtain ⟨h3, p, h4, h5⟩ := h2
    exact ⟨v', h1, of_decide_eq_true h3, p, h4, by simpa using h5⟩
  · rintro ⟨v', h1, h2, p, h4, h5⟩
    refine ⟨v', h1, ?_⟩
    rw [Bool.and_eq_true, anyB_iff]
    exact ⟨decide_eq_true h2, p, h4, by simpa using h5⟩
theorem lev_next (m : Nat) (L : Nat → Nat) (T : Nat → Nat → Nat) (s d : Nat) (x : Nat) : levF m L T s (d + 1) x = if 0 ≤ levF m L T s d x then levF m L T s d x else if hitB L T d (levF m L T s d) m x then (d : Int) + 1 else levF m L T s d x := by
  show sweptF L T d (levF m L T s d) m 0 x = _
  unfold sweptF
  simp [anyB]
theorem lev_inv (m : Nat) (L : Nat → Nat) (T : Nat → Nat → Nat) (s : Nat) : ∀ d, LevInv m L T s d (levF m L T s d)
  | 0 => by
    have e : ∀ x, levF m L T s 0 x = if x = s then 0 else -1 := fun _ => rfl
    refine ⟨fun x => ?_, by rw [e, if_pos rfl], fun x h => ?_, fun x => ?_, fun x h => ?_, fun v u _ _ h1 h2 => ?_⟩
    · rw [e]; split <;> omega
    · rw [e] at h; split at h
      · assumption
      · omega
    · rw [e]; split <;> omega
    · rw [e] at h; split at h <;> omega
    · rw [e] at h1 h2; split at h1 <;> omega
  | d + 1 => by
    have I := lev_inv m L T s d
    have e := lev_next m L T s d
    generalize levF m L T s d = f at *
    generalize levF m L T s (d + 1) = g at *
    have old : ∀ x, 0 ≤ f x → g x = f x := fun x h => by rw [e, if_pos h]
    have new : ∀ x, g x = f x ∨ (f x < 0 ∧ g x = (d : Int) + 1 ∧ hitB L T d f m x = true) := fun x => by
      rw [e]
      by_cases h : 0 ≤ f x
      · rw [if_pos h]; exact .inl rfl
      · rw [if_neg h]
        cases hh : hitB L T d f m x
        · exact .inl rfl
        · exact .inr ⟨by omega, rfl, rfl⟩
    refine ⟨fun x => ?_, ?_, fun x h => ?_, fun x => ?_, fun x h => ?_, fun v u hv ha h1 h2 => ?_⟩
    · have := I.low x
      rcases new x with h | ⟨_, h, _⟩ <;> omega
    · rw [old s (by rw [I.src]; omega)]; exact I.src
    · rcases new x with h1 | ⟨_, h1, _⟩
      · exact I.zero x (by omega)
      · omega
    · have := I.hi x
      rcases new x with h | ⟨_, h, _⟩ <;> omega
    · rcases new x with h1 | ⟨_, h1, h2⟩
      · obtain ⟨v, hv, h3, h4⟩ := I.pred x (by omega)
        exact ⟨v, hv, by rw [old v (by omega)]; omega, h4⟩
      · obtain ⟨v, hv, h3, h4⟩ := (hit_iff L T d f m x).1 h2
        exact ⟨v, hv, by rw [old v (by omega)]; omega, h4⟩
    · rcases new v with h3 | ⟨_, h3, _⟩
      · by_cases h4 : f v < (d : Int)
        · obtain ⟨h5, h6⟩ := I.edge v u hv ha (by omega) h4
          rw [old u h5]
          exact ⟨h5, by omega⟩
        · have h5 := I.hi v
          have hh : hitB L T d f m u = true := (hit_iff L T d f m u).2 ⟨v, hv, by omega, ha⟩
          have h6 := I.hi u
          rcases new u with h7 | ⟨_, h7, _⟩
          · rw [e u] at h7
            by_cases h8 : 0 ≤ f u
            · rw [old u h8]; exact ⟨h8, by omega⟩
            · rw [if_neg h8, if_pos hh] at h7
              omega
          · rw [h7]; omega
      · push_cast at h2
        omega
theorem far_dist (m : Nat) (L : Nat → Nat) (T : Nat → Nat → Nat) (s : Nat) : IsDist m (Adj L T) s (farF m L T s) := by
  have I := lev_inv m L T s m
  unfold farF
  refine ⟨fun x _ => I.low x, I.src, fun x _ h => I.zero x h, fun x _ h => I.pred x h, fun v u hv _ ha h => I.edge v u hv ha h (dist_lt (A := Adj L T) (fun x _ h => I.pred x h) v hv)⟩

/-! ### a search from a queue -/
structure Bfs (m : Nat) (L : Nat → Nat) (T : Nat → Nat → Nat) (s : Nat) (f : Nat → Int) (q : List Nat) : Prop where
  low : ∀ x, x < m → -1 ≤ f x
  src : f s = 0
  zero : ∀ x, x < m → f x = 0 → x = s
  pred : ∀ x, x < m → 0 < f x → ∃ v, v < m ∧ f v = f x - 1 ∧ Adj L T v x
  inq : ∀ x, x ∈ q → x < m ∧ 0 ≤ f x
  done : ∀ x, x < m → 0 ≤ f x → x ∈ q ∨ ∀ u, u < m → Adj L T x u → 0 ≤ f u ∧ f u ≤ f x + 1
  sort : q.Pairwise (fun a b => f a ≤ f b)
  top : ∀ x h r, x < m → q = h :: r → f x ≤ f h + 1
theorem Bfs.start {m : Nat} {L : Nat → Nat} {T : Nat → Nat → Nat} {s : Nat} (hs : s < m) : Bfs m L T s (fun x => if x = s then 0 else -1) [s] := by
  refine ⟨fun x _ => by (try dsimp only); split <;> omega, by simp, fun x _ h => ?_, fun x _ h => ?_, fun x h => ?_, fun x _ h => ?_, by simp, fun x h r _ e => ?_⟩
  · (try dsimp only at h); split at h
    · assumption
    · omega
  · (try dsimp only at h); split at h <;> omega
  · simp at h; subst h; simp [hs]
  · (try dsimp only at h); split at h
    · rename_i e; subst e; simp
    · omega
  · cases e
    (try dsimp only)
    split <;> simp
theorem Bfs.finish {m : Nat} {L : Nat → Nat} {T : Nat → Nat → Nat} {s : Nat} {f : Nat → Int} (h : Bfs m L T s f []) : IsDist m (Adj L T) s f :=
  ⟨h.low, h.src, h.zero, h.pred, fun v u hv hu ha h0 => by
    rcases h.done v hv h0 with h1 | h1
    · cases h1
    · exact h1 u hu ha⟩
theorem Bfs.pop {m : Nat} {L : Nat → Nat} {T : Nat → Nat → Nat} {s v : Nat} {r : List Nat} {f : Nat → Int} (h : Bfs m L T s f (v :: r)) (hd : ∀ p, p < L v → 0 ≤ f (T v p) ∧ f (T v p) ≤ f v + 1) : Bfs m L T s f r := by
  refine ⟨h.low, h.src, h.zero, h.pred, fun x hx => h.inq x (List.mem_cons_of_mem _ hx), fun x hx h0 => ?_, (List.pairwise_cons.1 h.sort).2, fun x h' r' hx e => ?_⟩
  · rcases h.done x hx h0 with h1 | h1
    · rcases List.mem_cons.1 h1 with h2 | h2
      · subst h2
        refine .inr fun u _ ha => ?_
        obtain ⟨p, hp, e⟩ := ha
        have := hd p hp
        rwa [e] at this
      · exact .inl h2
    · exact .inr h1
  · have h1 := h.top x v r hx rfl
    have h2 := (List.pairwise_cons.1 h.sort).1 h' (by rw [e]; exact List.mem_cons_self)
    omega
theorem Bfs.push {m : Nat} {L : Nat → Nat} {T : Nat → Nat → Nat} {s v u : Nat} {r : List Nat} {f : Nat → Int} (h : Bfs m L T s f (v :: r)) (ha : Adj L T v u) (hu : u < m) (hn : f u < 0) : Bfs m L T s (fun x => if x = u then f v + 1 else f x) (v :: r ++ [u]) := by
  have hv := h.inq v List.mem_cons_self
  have at_u : ∀ x, 0 ≤ f x → (if x = u then f v + 1 else f x) = f x := fun x h0 => if_neg (fun e => by subst e; omega)
  refine ⟨fun x hx => ?_, ?_, fun x hx h0 => ?_, fun x hx h0 => ?_, fun x hx => ?_, fun x hx h0 => ?_, ?_, fun x h' r' hx e => ?_⟩
  · have := h.low x hx
    (try dsimp only); split <;> omega
  · (try dsimp only)
    rw [at_u s (by rw [h.src]; omega)]; exact h.src
  · (try dsimp only at h0)
    split at h0
    · omega
    · exact h.zero x hx h0
  · (try dsimp only at h0 ⊢)
    split at h0
    · rename_i e
      refine ⟨v, hv.1, ?_, by rw [e]; exact ha⟩
      rw [at_u v hv.2, if_pos e]; omega
    · rename_i e
      obtain ⟨v', h1, h2, h3⟩ := h.pred x hx h0
      exact ⟨v', h1, by rw [at_u v' (by omega), if_neg e, h2], h3⟩
  · rcases List.mem_append.1 hx with h1 | h1
    · have := h.inq x h1
      exact ⟨this.1, by (try dsimp only); rw [at_u x this.2]; exact this.2⟩
    · simp at h1
      subst h1
      exact ⟨hu, by (try dsimp only); rw [if_pos rfl]; omega⟩
  · (try dsimp only at h0 ⊢)
    by_cases e : x = u
    · exact .inl (by rw [e]; simp)
    · rw [if_neg e] at h0
      rcases h.done x hx h0 with h1 | h1
      · exact .inl (List.mem_append_left _ h1)
      · refine .inr fun u' hu' ha' => ?_
        have h2 := h1 u' hu' ha'
        rw [at_u u' h2.1, if_neg e]
        exact h2
  · rw [List.pairwise_append]
    refine ⟨?_, by simp, fun a ha' b hb => ?_⟩
    · refine List.Pairwise.imp_of_mem (fun {a b} h1 h2 h3 => ?_) h.sort
      (try dsimp only)
      rw [at_u a (h.inq a h1).2, at_u b (h.inq b h2).2]
      exact h3
    · simp at hb
      subst hb
      (try dsimp only)
      rw [at_u a (h.inq a ha').2, if_pos rfl]
      exact h.top a v r (h.inq a ha').1 rfl
  · cases e
    (try dsimp only)
    rw [at_u v hv.2]
    have := h.top x v r hx rfl
    split <;> omega
/-- How many of the first n are below 0. -/
def negs (f : Nat → Int) : Nat → Nat
  | 0 => 0
  | n + 1 => negs f n + (if f n < 0 then 1 else 0)
theorem negs_same (f g : Nat → Int) : ∀ n, (∀ x, x < n → (f x < 0 ↔ g x < 0)) → negs f n = negs g n
  | 0, _ => rfl
  | n + 1, h => by
    unfold negs
    rw [negs_same f g n (fun x hx => h x (by omega))]
    have := h n (by omega)
    by_cases h1 : f n < 0
    · rw [if_pos h1, if_pos (this.1 h1)]
    · rw [if_neg h1, if_neg (fun h2 => h1 (this.2 h2))]
theorem negs_set (f : Nat → Int) (u : Nat) (c : Int) (hn : f u < 0) (hc : 0 ≤ c) : ∀ n, u < n → negs (fun x => if x = u then c else f x) n + 1 = negs f n
  | 0, h => absurd h (Nat.not_lt_zero _)
  | n + 1, h => by
    unfold negs
    by_cases e : u = n
    · subst e
      rw [negs_same (fun x => if x = u then c else f x) f u (fun x hx => by (try dsimp only); rw [if_neg (by omega)])]
      rw [if_pos rfl, if_pos hn, if_neg (by omega)]
    · have := negs_set f u c hn hc n (by omega)
      have e2 : ¬ n = u := fun h => e h.symm
      simp only [if_neg e2]
      omega
theorem negs_le (f : Nat → Int) : ∀ n, negs f n ≤ n
  | 0 => Nat.le_refl _
  | n + 1 => by
    unfold negs
    have := negs_le f n
    split <;> omega
end Go.Proofs.YtlniogfinofakaaGreatDoor
/-
  Plain laws on classes of nodes that look the same: least ones, refinement, when nothing changes any more, and that all classes are of the same size at the end. Condition: at least one node, ports lead to other nodes and back.
-/
namespace Go.Proofs.YtlniogfinofakaaGreatDoor
set_option maxRecDepth 100000
open Go.RowKit

/-- The first k < n with p k, n if there is none. -/
def leastN (p : Nat → Bool) : Nat → Nat
  | 0 => 0
  | n + 1 => if leastN p n < n then leastN p n else if p n then n else n + 1
theorem leastN_le (p : Nat → Bool) : ∀ n, leastN p n ≤ n
  | 0 => Nat.le_refl _
  | n + 1 => by
    unfold leastN
    split
    · have := leastN_le p n; omega
    · split <;> omega
theorem leastN_before (p : Nat → Bool) : ∀ n k, k < leastN p n → p k = false
  | 0, k, h => absurd h (Nat.not_lt_zero _)
  | n + 1, k, h => by
    unfold leastN at h
    have hl := leastN_le p n
    split at h
    · exact leastN_before p n k h
    · split at h
      · exact leastN_before p n k (by omega)
      · rename_i h1 h2
        by_cases e : k = n
        · subst e; simpa using h2
        · exact leastN_before p n k (by omega)
theorem leastN_at (p : Nat → Bool) : ∀ n, leastN p n < n → p (leastN p n) = true
  | 0, h => absurd h (Nat.not_lt_zero _)
  | n + 1, h => by
    unfold leastN at h ⊢
    have hl := leastN_le p n
    split
    · rename_i h1
      exact leastN_at p n h1
    · rename_i h1
      rw [if_neg h1] at h
      split
      · assumption
      · rename_i h2
        rw [if_neg h2] at h
        omega
theorem leastN_eq (p : Nat → Bool) (n k : Nat) (hk : k ≤ n) (hb : ∀ j, j < k → p j = false) (ha : k < n → p k = true) : leastN p n = k := by
  have h1 := leastN_le p n
  by_cases h : leastN p n < k
  · have := leastN_at p n (by omega)
    rw [hb _ h] at this
    cases this
  · by_cases h' : k < leastN p n
    · have := leastN_before p n k h'
      rw [ha (by omega)] at this
      cases this
    · omega
theorem leastN_congr {p q : Nat → Bool} (n : Nat) (h : ∀ k, k < n → p k = q k) : leastN p n = leastN q n := by
  refine leastN_eq p n _ (leastN_le q n) (fun j hj => ?_) (fun hl => ?_)
  · rw [h j (by have := leastN_le q n; omega)]
    exact leastN_before q n j hj
  · rw [h _ hl]
    exact leastN_at q n hl

/-! ### least ones of an equivalence -/
structure Equi (m : Nat) (R : Nat → Nat → Bool) : Prop where
  refl : ∀ v, v < m → R v v = true
  symm : ∀ u v, u < m → v < m → R u v = true → R v u = true
  trans : ∀ u v x, u < m → v < m → x < m → R u v = true → R v x = true → R u x = true
/-- The least node that is like v. -/
def repF (R : Nat → Nat → Bool) (v : Nat) : Nat := leastN (fun u => R u v) v
theorem rep_le (R : Nat → Nat → Bool) (v : Nat) : repF R v ≤ v := leastN_le _ _
theorem rep_rel {m : Nat} {R : Nat → Nat → Bool} (E : Equi m R) (v : Nat) (hv : v < m) : R (repF R v) v = true := by
  by_cases h : repF R v < v
  · exact leastN_at _ v h
  · have := rep_le R v
    rw [show repF R v = v by omega]
    exact E.refl v hv
theorem rep_eq {m : Nat} {R : Nat → Nat → Bool} (E : Equi m R) (u v : Nat) (hu : u < m) (hv : v < m) : repF R u = repF R v ↔ R u v = true := by
  have lu := rep_le R u
  have lv := rep_le R v
  constructor
  · intro e
    have h1 := rep_rel E u hu
    have h2 := rep_rel E v hv
    rw [e] at h1
    exact E.trans _ _ _ hu (by omega) hv (E.symm _ _ (by omega) hu h1) h2
  · intro h
    have key : ∀ a b, a < m → b < m → R a b = true → repF R a ≤ repF R b := fun a b ha hb hab => by
      have la := rep_le R a
      have lb := rep_le R b
      by_cases hlt : repF R b < repF R a
      · have h1 := rep_rel E b hb
        have h2 := E.trans _ _ _ (by omega) hb ha h1 (E.symm a b ha hb hab)
        have h3 := leastN_before (fun u => R u a) a _ hlt
        (try dsimp only at h3)
        rw [h2] at h3
        cases h3
      · omega
    have h1 := key u v hu hv h
    have h2 := key v u hv hu (E.symm u v hu hv h)
    omega
theorem rep_rep {m : Nat} {R : Nat → Nat → Bool} (E : Equi m R) (v : Nat) (hv : v < m) : repF R (repF R v) = repF R v := by
  have := rep_le R v
  exact (rep_eq E _ _ (by omega) hv).2 (rep_rel E v hv)

/-! ### classes -/
/-- The port by which the p-th port of v leads back. -/
def backF (L : Nat → Nat) (T : Nat → Nat → Nat) (v p : Nat) : Int := idxB (fun q => T (T v p) q == v) (L (T v p))
/-- Do the p-th ports of u and v look different? -/
def linkBad (L : Nat → Nat) (T : Nat → Nat → Nat) (c : Nat → Nat) (u v p : Nat) : Bool := !(c (T u p) == c (T v p)) || !(backF L T u p == backF L T v p)
def alikeB (L : Nat → Nat) (T : Nat → Nat → Nat) (c : Nat → Nat) (u v : Nat) : Bool := (c u == c v) && (L u == L v) && !anyB (linkBad L T c u v) (L v)
def marksB (M : Nat → Int) (u v : Nat) : Bool := M u == M v
/-- Which relation gives the classes after r rounds? -/
def relF (L : Nat → Nat) (T : Nat → Nat → Nat) (M : Nat → Int) : Nat → Nat → Nat → Bool
  | 0 => marksB M
  | r + 1 => alikeB L T (repF (relF L T M r))
def clsF (L : Nat → Nat) (T : Nat → Nat → Nat) (M : Nat → Int) (r : Nat) : Nat → Nat := repF (relF L T M r)
theorem alike_iff (L : Nat → Nat) (T : Nat → Nat → Nat) (c : Nat → Nat) (u v : Nat) : alikeB L T c u v = true ↔ c u = c v ∧ L u = L v ∧ ∀ p, p < L v → c (T u p) = c (T v p) ∧ backF L T u p = backF L T v p := by
  unfold alikeB
  rw [Bool.and_eq_true, Bool.and_eq_true, Bool.not_eq_true', anyB_false, beq_iff_eq, beq_iff_eq, and_assoc]
  refine and_congr Iff.rfl (and_congr Iff.rfl (forall_congr' fun p => forall_congr' fun _ => ?_))
  unfold linkBad
  simp
theorem alike_equi (m : Nat) (L : Nat → Nat) (T : Nat → Nat → Nat) (c : Nat → Nat) : Equi m (alikeB L T c) := by
  refine ⟨fun v _ => ?_, fun u v _ _ h => ?_, fun u v x _ _ _ h k => ?_⟩
  · rw [alike_iff]; exact ⟨rfl, rfl, fun _ _ => ⟨rfl, rfl⟩⟩
  · rw [alike_iff] at h ⊢
    obtain ⟨h1, h2, h3⟩ := h
    exact ⟨h1.symm, h2.symm, fun p hp => ⟨(h3 p (by omega)).1.symm, (h3 p (by omega)).2.symm⟩⟩
  · rw [alike_iff] at h k ⊢
    obtain ⟨h1, h2, h3⟩ := h
    obtain ⟨k1, k2, k3⟩ := k
    exact ⟨h1.trans k1, h2.trans k2, fun p hp => ⟨(h3 p (by omega)).1.trans (k3 p hp).1, (h3 p (by omega)).2.trans (k3 p hp).2⟩⟩
theorem rel_equi (m : Nat) (L : Nat → Nat) (T : Nat → Nat → Nat) (M : Nat → Int) : ∀ r, Equi m (relF L T M r)
  | 0 => ⟨fun v _ => by simp [relF, marksB], fun u v _ _ h => by simp [relF, marksB] at h ⊢; exact h.symm, fun u v x _ _ _ h k => by simp [relF, marksB] at h k ⊢; exact h.trans k⟩
  | r + 1 => alike_equi m L T _
section
variable {m : Nat} {L : Nat → Nat} {T : Nat → Nat → Nat} {M : Nat → Int}
theorem cls_le (r v : Nat) : clsF L T M r v ≤ v := rep_le _ _
theorem cls_eq (r u v : Nat) : clsF L T M r u = clsF L T M r v ↔ relF L T M r u v = true := by
  exact rep_eq (rel_equi (max u v + 1) L T M r) u v (by omega) (by omega)
theorem cls_cls (r v : Nat) : clsF L T M r (clsF L T M r v) = clsF L T M r v := rep_rep (rel_equi (v + 1) L T M r) v (by omega)
theorem cls_finer (r u v : Nat) (h : clsF L T M (r + 1) u = clsF L T M (r + 1) v) : clsF L T M r u = clsF L T M r v := by
  rw [cls_eq] at h
  exact ((alike_iff L T _ u v).1 h).1
theorem cls_finer' (r u v : Nat) : ∀ k, clsF L T M (r + k) u = clsF L T M (r + k) v → clsF L T M r u = clsF L T M r v
  | 0, h => h
  | k + 1, h => cls_finer' r u v k (cls_finer (r + k) u v h)
theorem cls_down (r v k : Nat) : clsF L T M r (clsF L T M (r + k) v) = clsF L T M r v := cls_finer' r _ _ k (cls_cls (r + k) v)
/-- The round behind looks at nodes alone. -/
theorem cls_step_congr (hT : ∀ v p, v < m → p < L v → T v p < m) {r s : Nat} (h : ∀ v, v < m → clsF L T M r v = clsF L T M s v) (v : Nat) (hv : v < m) : clsF L T M (r + 1) v = clsF L T M (s + 1) v := by
  refine leastN_congr v fun u hu => ?_
  rw [Bool.eq_iff_iff]
  show alikeB L T (clsF L T M r) u v = true ↔ alikeB L T (clsF L T M s) u v = true
  rw [alike_iff, alike_iff, h u (by omega), h v hv]
  refine and_congr Iff.rfl ?_
  constructor
  · rintro ⟨h1, h2⟩
    exact ⟨h1, fun p hp => by rw [← h _ (hT u p (by omega) (by omega)), ← h _ (hT v p hv hp)]; exact h2 p hp⟩
  · rintro ⟨h1, h2⟩
    exact ⟨h1, fun p hp => by rw [h _ (hT u p (by omega) (by omega)), h _ (hT v p hv hp)]; exact h2 p hp⟩
theorem cls_stays (hT : ∀ v p, v < m → p < L v → T v p < m) {r : Nat} (h : ∀ v, v < m → clsF L T M r v = clsF L T M (r + 1) v) : ∀ k v, v < m → clsF L T M (r + k) v = clsF L T M r v
  | 0, _, _ => rfl
  | k + 1, v, hv => by
    have h1 := cls_step_congr hT (r := r + k) (s := r) (cls_stays hT h k) v hv
    rw [← Nat.add_assoc, h1]
    exact (h v hv).symm

/-! ### how many classes -/
/-- How many of the first n have p? -/
def cntB (p : Nat → Bool) : Nat → Nat
  | 0 => 0
  | n + 1 => cntB p n + (if p n then 1 else 0)
theorem cntB_le (p : Nat → Bool) : ∀ n, cntB p n ≤ n
  | 0 => Nat.le_refl _
  | n + 1 => by unfold cntB; have := cntB_le p n; split <;> omega
theorem cntB_mono (p q : Nat → Bool) : ∀ n, (∀ k, k < n → p k = true → q k = true) → cntB p n ≤ cntB q n
  | 0, _ => Nat.le_refl _
  | n + 1, h => by
    unfold cntB
    have h1 := cntB_mono p q n (fun k hk => h k (by omega))
    have h2 := h n (by omega)
    by_cases e : p n = true
    · rw [if_pos e, if_pos (h2 e)]; omega
    · rw [if_neg e]; omega
theorem cntB_same (p q : Nat → Bool) : ∀ n, (∀ k, k < n → p k = true → q k = true) → cntB p n = cntB q n → ∀ k, k < n → q k = true → p k = true
  | 0, _, _, k, hk, _ => absurd hk (Nat.not_lt_zero _)
  | n + 1, h, e, k, hk, hq => by
    unfold cntB at e
    have h1 := cntB_mono p q n (fun k hk => h k (by omega))
    have h2 := h n (by omega)
    by_cases ep : p n = true
    · rw [if_pos ep, if_pos (h2 ep)] at e
      by_cases ek : k = n
      · rw [ek]; exact ep
      · exact cntB_same p q n (fun k hk => h k (by omega)) (by omega) k (by omega) hq
    · rw [if_neg ep] at e
      by_cases eq : q n = true
      · rw [if_pos eq] at e; omega
      · rw [if_neg eq] at e
        by_cases ek : k = n
        · rw [ek] at hq; exact absurd hq eq
        · exact cntB_same p q n (fun k hk => h k (by omega)) (by omega) k (by omega) hq
theorem cntB_congr {p q : Nat → Bool} (n : Nat) (h : ∀ k, k < n → p k = q k) : cntB p n = cntB q n :=
  Nat.le_antisymm (cntB_mono p q n fun k hk e => by rw [← h k hk]; exact e) (cntB_mono q p n fun k hk e => by rw [h k hk]; exact e)
theorem cntB_step (p : Nat → Bool) (n k : Nat) (h : k < n) (hp : p k = true) : cntB p k < cntB p n := by
  induction n with
  | zero => omega
  | succ n ih =>
    show cntB p k < cntB p n + (if p n then 1 else 0)
    by_cases e : k = n
    · subst e; rw [if_pos hp]; omega
    · have := ih (by omega)
      omega
theorem cntB_inj (p : Nat → Bool) (a b : Nat) (ha : p a = true) (hb : p b = true) (e : cntB p a = cntB p b) : a = b := by
  by_cases h1 : a < b
  · have := cntB_step p b a h1 ha; omega
  · by_cases h2 : b < a
    · have := cntB_step p a b h2 hb; omega
    · omega
theorem cntB_nth (p : Nat → Bool) : ∀ n i, i < cntB p n → ∃ k, k < n ∧ p k = true ∧ cntB p k = i
  | 0, i, h => absurd h (Nat.not_lt_zero _)
  | n + 1, i, h => by
    by_cases e : i < cntB p n
    · obtain ⟨k, h1, h2, h3⟩ := cntB_nth p n i e
      exact ⟨k, by omega, h2, h3⟩
    · unfold cntB at h
      by_cases ep : p n = true
      · rw [if_pos ep] at h
        exact ⟨n, by omega, ep, by omega⟩
      · rw [if_neg ep] at h; omega
theorem cntB_pos (p : Nat → Bool) (n : Nat) : 0 < cntB p n ↔ ∃ k, k < n ∧ p k = true := by
  constructor
  · intro h
    obtain ⟨k, h1, h2, _⟩ := cntB_nth p n 0 h
    exact ⟨k, h1, h2⟩
  · rintro ⟨k, h1, h2⟩
    have := cntB_step p n k h1 h2
    omega
/-- What goes one by one from p's to q's: there are at least as many. -/
theorem cntB_into (p q : Nat → Bool) (n : Nat) (f : Nat → Nat) (hf : ∀ k, k < n → p k = true → f k < n ∧ q (f k) = true) (inj : ∀ a b, a < n → b < n → p a = true → p b = true → f a = f b → a = b) : cntB p n ≤ cntB q n := by
  obtain ⟨e, he⟩ := Deep.choose_lt (n := cntB p n) (p := fun i k => k < n ∧ p k = true ∧ cntB p k = i) (fun i hi => cntB_nth p n i hi)
  refine pigeon (cntB q n) (cntB p n) (fun i => cntB q (f (e i))) (fun i hi => ?_) (fun i j hi hj h => ?_)
  · obtain ⟨h1, h2, _⟩ := he i hi
    obtain ⟨h3, h4⟩ := hf _ h1 h2
    exact cntB_step q n _ h3 h4
  · obtain ⟨h1, h2, h3⟩ := he i hi
    obtain ⟨k1, k2, k3⟩ := he j hj
    have := inj _ _ h1 k1 h2 k2 (cntB_inj q _ _ (hf _ h1 h2).2 (hf _ k1 k2).2 h)
    rw [← h3, ← k3, this]
def kindsN (f : Nat → Nat) (m : Nat) : Nat := cntB (fun v => f v == v) m
theorem kinds_mono (r m : Nat) : ∀ k, k < m → (clsF L T M r k == k) = true → (clsF L T M (r + 1) k == k) = true := fun v _ h => by
  rw [beq_iff_eq] at h ⊢
  have h1 := cls_down (L := L) (T := T) (M := M) r v 1
  have h2 := cls_le (L := L) (T := T) (M := M) (r + 1) v
  have h3 := cls_le (L := L) (T := T) (M := M) r (clsF L T M (r + 1) v)
  omega
theorem kinds_le (r m : Nat) : kindsN (clsF L T M r) m ≤ kindsN (clsF L T M (r + 1)) m := cntB_mono _ _ m (kinds_mono r m)
theorem kinds_eq (r m : Nat) (h : kindsN (clsF L T M r) m = kindsN (clsF L T M (r + 1)) m) (v : Nat) (hv : v < m) : clsF L T M r v = clsF L T M (r + 1) v := by
  have h1 := cls_le (L := L) (T := T) (M := M) (r + 1) v
  have h2 := cntB_same _ _ m (kinds_mono r m) h (clsF L T M (r + 1) v) (by omega) (by rw [beq_iff_eq]; exact cls_cls _ _)
  rw [beq_iff_eq, cls_down r v 1] at h2
  exact h2
theorem kinds_lt (r m : Nat) : kindsN (clsF L T M r) m < kindsN (clsF L T M (r + 1)) m ↔ ∃ v, v < m ∧ clsF L T M r v ≠ clsF L T M (r + 1) v := by
  have h := kinds_le (L := L) (T := T) (M := M) r m
  constructor
  · intro hlt
    apply Classical.byContradiction
    intro hn
    have : kindsN (clsF L T M r) m = kindsN (clsF L T M (r + 1)) m := cntB_congr m fun k hk => by
      have : clsF L T M r k = clsF L T M (r + 1) k := Classical.byContradiction fun e => hn ⟨k, hk, e⟩
      rw [this]
    omega
  · rintro ⟨v, hv, e⟩
    have : kindsN (clsF L T M r) m ≠ kindsN (clsF L T M (r + 1)) m := fun h' => e (kinds_eq r m h' v hv)
    omega
/-- As long as it goes on, there are more classes than rounds. -/
theorem kinds_grow (h1 : 1 ≤ m) : ∀ r, (∀ k, k < r → kindsN (clsF L T M k) m < kindsN (clsF L T M (k + 1)) m) → r + 1 ≤ kindsN (clsF L T M r) m
  | 0, _ => by
    have : cntB (fun v => clsF L T M 0 v == v) 0 < cntB (fun v => clsF L T M 0 v == v) m := cntB_step _ m 0 h1 (by have := cls_le (L := L) (T := T) (M := M) 0 0; simp; omega)
    unfold kindsN
    omega
  | r + 1, h => by
    have := kinds_grow h1 r (fun k hk => h k (by omega))
    have := h r (by omega)
    omega
/-- The round from which on nothing changes, at most f more. -/
def settleF (L : Nat → Nat) (T : Nat → Nat → Nat) (M : Nat → Int) (m : Nat) : Nat := leastN (fun r => !decide (kindsN (clsF L T M r) m < kindsN (clsF L T M (r + 1)) m)) m
theorem settle_lt (h1 : 1 ≤ m) : settleF L T M m < m := by
  have h2 := leastN_le (fun r => !decide (kindsN (clsF L T M r) m < kindsN (clsF L T M (r + 1)) m)) m
  by_cases h : settleF L T M m < m
  · exact h
  · have h3 : ∀ k, k < m → kindsN (clsF L T M k) m < kindsN (clsF L T M (k + 1)) m := fun k hk => by
      have := leastN_before (fun r => !decide (kindsN (clsF L T M r) m < kindsN (clsF L T M (r + 1)) m)) m k (by unfold settleF at h; omega)
      simpa using this
    have h4 := kinds_grow h1 m h3
    have h5 : kindsN (clsF L T M m) m ≤ m := cntB_le _ _
    omega
theorem settle_before {k : Nat} (h : k < settleF L T M m) : kindsN (clsF L T M k) m < kindsN (clsF L T M (k + 1)) m := by
  have := leastN_before (fun r => !decide (kindsN (clsF L T M r) m < kindsN (clsF L T M (r + 1)) m)) m k h
  simpa using this
theorem settle_at (h1 : 1 ≤ m) : ∀ v, v < m → clsF L T M (settleF L T M m) v = clsF L T M (settleF L T M m + 1) v := by
  have := leastN_at (fun r => !decide (kindsN (clsF L T M r) m < kindsN (clsF L T M (r + 1)) m)) m (settle_lt h1)
  have h2 := kinds_le (L := L) (T := T) (M := M) (settleF L T M m) m
  have h3 : ¬ kindsN (clsF L T M (settleF L T M m)) m < kindsN (clsF L T M (settleF L T M m + 1)) m := by
    unfold settleF
    simpa using this
  exact kinds_eq _ m (by omega)
theorem settle_stays (hT : ∀ v p, v < m → p < L v → T v p < m) (h1 : 1 ≤ m) (r : Nat) (hr : settleF L T M m ≤ r) (v : Nat) (hv : v < m) : clsF L T M r v = clsF L T M (settleF L T M m) v := by
  have := cls_stays hT (settle_at (L := L) (T := T) (M := M) h1) (r - settleF L T M m) v hv
  rwa [show settleF L T M m + (r - settleF L T M m) = r by omega] at this

/-! ### all classes are of the same size at the end -/
theorem idxB_spec (p : Nat → Bool) (n : Nat) (h : ∃ k, k < n ∧ p k = true) : ∃ k : Nat, idxB p n = k ∧ k < n ∧ p k = true := by
  unfold idxB
  split
  · rename_i k hk
    rw [List.find?_range_eq_some] at hk
    exact ⟨k, rfl, by simpa using hk.2.1, hk.1⟩
  · rename_i hk
    rw [List.find?_range_eq_none] at hk
    obtain ⟨k, h1, h2⟩ := h
    have := hk k h1
    simp [h2] at this
theorem size_step (hT : ∀ v p, v < m → p < L v → T v p < m) (hB : ∀ v p, v < m → p < L v → Adj L T (T v p) v) (r : Nat) (hs : ∀ v, v < m → clsF L T M r v = clsF L T M (r + 1) v) (a p : Nat) (ha : a < m) (hp : p < L a) :
    cntB (fun x => clsF L T M r x == clsF L T M r a) m ≤ cntB (fun x => clsF L T M r x == clsF L T M r (T a p)) m := by
  have key : ∀ x, x < m → clsF L T M r x = clsF L T M r a → L x = L a ∧ ∀ p, p < L a → clsF L T M r (T x p) = clsF L T M r (T a p) ∧ backF L T x p = backF L T a p := fun x hx e => by
    rw [hs x hx, hs a ha, cls_eq] at e
    exact ((alike_iff L T _ x a).1 e).2
  refine cntB_into _ _ m (fun x => T x p) (fun x hx h => ?_) (fun x y hx hy h1 h2 e => ?_)
  · rw [beq_iff_eq] at h
    obtain ⟨h1, h2⟩ := key x hx h
    exact ⟨hT x p hx (by omega), by rw [beq_iff_eq]; exact (h2 p hp).1⟩
  · rw [beq_iff_eq] at h1 h2
    obtain ⟨k1, k2⟩ := key x hx h1
    obtain ⟨k3, k4⟩ := key y hy h2
    have bx := (k2 p hp).2
    rw [← (k4 p hp).2] at bx
    obtain ⟨q1, q2, q3⟩ := hB x p hx (by omega)
    obtain ⟨q1', q2', q3'⟩ := hB y p hy (by omega)
    obtain ⟨i, i1, i2, i3⟩ := idxB_spec (fun q => T (T x p) q == x) (L (T x p)) ⟨q1, q2, by simpa using q3⟩
    obtain ⟨j, j1, j2, j3⟩ := idxB_spec (fun q => T (T y p) q == y) (L (T y p)) ⟨q1', q2', by simpa using q3'⟩
    unfold backF at bx
    rw [i1, j1] at bx
    obtain rfl : i = j := by omega
    (try dsimp only at e)
    rw [beq_iff_eq] at i3 j3
    rw [e] at i3
    exact i3.symm.trans j3
theorem size_all (hT : ∀ v p, v < m → p < L v → T v p < m) (hB : ∀ v p, v < m → p < L v → Adj L T (T v p) v) (r : Nat) (hs : ∀ v, v < m → clsF L T M r v = clsF L T M (r + 1) v) :
    ∀ (d : Nat) (v : Nat), v < m → farF m L T 0 v = (d : Int) → cntB (fun x => clsF L T M r x == clsF L T M r v) m = cntB (fun x => clsF L T M r x == clsF L T M r 0) m := by
  have D := far_dist m L T 0
  intro d
  induction d with
  | zero =>
    intro v hv e
    rw [D.zero v hv (by simpa using e)]
  | succ d ih =>
    intro v hv e
    obtain ⟨u, hu, e1, p, hp, e2⟩ := D.pred v hv (by omega)
    rw [← ih u hu (by omega)]
    obtain ⟨q, hq, e3⟩ := hB u p hu hp
    rw [e2] at hq e3
    have s1 := size_step (M := M) hT hB r hs u p hu hp
    have s2 := size_step (M := M) hT hB r hs v q hv hq
    rw [e2] at s1
    rw [e3] at s2
    omega
end
end Go.Proofs.YtlniogfinofakaaGreatDoor
/-
  Plain laws on tokens: states of a ring as numbers, what may move, and that there is one solution for the most moves. Condition: at least one state, numbers below it.
-/
namespace Go.Proofs.YtlniogfinofakaaGreatDoor
set_option maxRecDepth 100000
set_option linter.unusedVariables false
open Go.RowKit

/-- States as one number. -/
def codeN (k : Nat) (s : Nat → Nat) : Nat → Nat
  | 0 => 0
  | n + 1 => codeN k s n * k + s n
/-- The j-th of the n states of a number. -/
def digN (k n x j : Nat) : Nat := x / k ^ (n - 1 - j) % k
theorem code_lt {k : Nat} {s : Nat → Nat} : ∀ n, (∀ j, j < n → s j < k) → codeN k s n < k ^ n
  | 0, _ => by simp [codeN]
  | n + 1, h => by
    have h1 := code_lt n (fun j hj => h j (by omega))
    have h2 := h n (by omega)
    unfold codeN
    rw [Nat.pow_succ]
    calc codeN k s n * k + s n < codeN k s n * k + k := by omega
      _ = (codeN k s n + 1) * k := by rw [Nat.succ_mul]
      _ ≤ k ^ n * k := Nat.mul_le_mul_right k h1
theorem code_inj {k : Nat} {s t : Nat → Nat} : ∀ n, (∀ j, j < n → s j < k) → (∀ j, j < n → t j < k) → codeN k s n = codeN k t n → ∀ j, j < n → s j = t j
  | 0, _, _, _, j, hj => absurd hj (Nat.not_lt_zero _)
  | n + 1, hs, ht, e, j, hj => by
    have a := hs n (by omega)
    have b := ht n (by omega)
    unfold codeN at e
    have hk : 0 < k := by omega
    have e1 : codeN k s n = codeN k t n := by
      have h1 : (codeN k s n * k + s n) / k = codeN k s n := by rw [Nat.mul_comm, Nat.mul_add_div hk, Nat.div_eq_of_lt a]; rfl
      have h2 : (codeN k t n * k + t n) / k = codeN k t n := by rw [Nat.mul_comm, Nat.mul_add_div hk, Nat.div_eq_of_lt b]; rfl
      rw [← h1, e, h2]
    by_cases ej : j = n
    · subst ej; rw [e1] at e; omega
    · exact code_inj n (fun j hj => hs j (by omega)) (fun j hj => ht j (by omega)) e1 j (by omega)
theorem code_congr {k : Nat} {s t : Nat → Nat} : ∀ n, (∀ j, j < n → s j = t j) → codeN k s n = codeN k t n
  | 0, _ => rfl
  | n + 1, h => by unfold codeN; rw [code_congr n (fun j hj => h j (by omega)), h n (by omega)]
theorem code_div {k : Nat} (hk : 0 < k) (x : Nat) : ∀ n, codeN k (fun j => x / k ^ (n - 1 - j) % k) n = x % k ^ n
  | 0 => by simp [codeN, Nat.mod_one]
  | n + 1 => by
    have h := code_div hk (x / k) n
    unfold codeN
    have e : codeN k (fun j => x / k ^ (n + 1 - 1 - j) % k) n = codeN k (fun j => x / k / k ^ (n - 1 - j) % k) n := code_congr n fun j hj => by
      rw [Nat.div_div_eq_div_mul, show n + 1 - 1 - j = (n - 1 - j) + 1 by omega, Nat.pow_succ, Nat.mul_comm k]
    rw [e, h, show n + 1 - 1 - n = 0 by omega, Nat.pow_zero, Nat.div_one, Nat.pow_succ, Nat.mul_comm (k ^ n) k, Nat.mod_mul, Nat.mul_comm k]
    omega
theorem code_dig {k n x : Nat} (hk : 0 < k) (hx : x < k ^ n) : codeN k (digN k n x) n = x := by
  have := code_div hk x n
  rw [Nat.mod_eq_of_lt hx] at this
  exact this
theorem dig_lt {k : Nat} (hk : 0 < k) (n x j : Nat) : digN k n x j < k := Nat.mod_lt _ hk
theorem dig_code {k n : Nat} {s : Nat → Nat} (hk : 0 < k) (hs : ∀ j, j < n → s j < k) (j : Nat) (hj : j < n) : digN k n (codeN k s n) j = s j :=
  code_inj n (fun j _ => dig_lt hk n _ j) hs (code_dig hk (code_lt n hs)) j hj

/-! ### tokens and moves -/
def tokB (n : Nat) (s : Nat → Nat) (i : Nat) : Bool := if i = 0 then s 0 == s (n - 1) else s i != s (i - 1)
def movF (k : Nat) (s : Nat → Nat) (i : Nat) : Nat → Nat := fun j => if j = i then (if i = 0 then (s 0 + 1) % k else s (i - 1)) else s j
theorem mov_lt {k n : Nat} {s : Nat → Nat} (hk : 0 < k) (hs : ∀ j, j < n → s j < k) (i : Nat) (hi : i < n) (j : Nat) (hj : j < n) : movF k s i j < k := by
  unfold movF
  split
  · split
    · exact Nat.mod_lt _ hk
    · exact hs (i - 1) (by omega)
  · exact hs j hj
theorem tok_congr {n : Nat} {s t : Nat → Nat} (h : ∀ j, j < n → s j = t j) (i : Nat) (hi : i < n) : tokB n s i = tokB n t i := by
  unfold tokB
  split
  · rw [h 0 (by omega), h (n - 1) (by omega)]
  · rw [h i hi, h (i - 1) (by omega)]
theorem mov_congr {k n : Nat} {s t : Nat → Nat} (h : ∀ j, j < n → s j = t j) (i : Nat) (hi : i < n) (j : Nat) (hj : j < n) : movF k s i j = movF k t i j := by
  unfold movF
  rw [h 0 (by omega), h (i - 1) (by omega), h j hj]
/-- f is the most moves, -1 where there is no end. -/
structure Sol (k n : Nat) (f : Nat → Int) : Prop where
  shut : ∀ s : Nat → Nat, (∀ j, j < n → s j < k) → cntB (tokB n s) n ≤ 1 → f (codeN k s n) = 0
  opened : ∀ s : Nat → Nat, (∀ j, j < n → s j < k) → 1 < cntB (tokB n s) n →
    (f (codeN k s n) = -1 ∧ ∃ i, i < n ∧ tokB n s i = true ∧ f (codeN k (movF k s i) n) = -1) ∨
    (0 < f (codeN k s n) ∧ (∀ i, i < n → tokB n s i = true → 0 ≤ f (codeN k (movF k s i) n) ∧ f (codeN k (movF k s i) n) < f (codeN k s n)) ∧ ∃ i, i < n ∧ tokB n s i = true ∧ f (codeN k (movF k s i) n) = f (codeN k s n) - 1)
theorem Sol.low {k n : Nat} {f : Nat → Int} (h : Sol k n f) (s : Nat → Nat) (hs : ∀ j, j < n → s j < k) : -1 ≤ f (codeN k s n) := by
  by_cases e : cntB (tokB n s) n ≤ 1
  · rw [h.shut s hs e]; omega
  · rcases h.opened s hs (by omega) with h1 | h1 <;> omega
/-- There is one. -/
theorem sol_le {k n : Nat} {f g : Nat → Int} (hk : 0 < k) (hf : Sol k n f) (hg : Sol k n g) : ∀ (d : Nat) (s : Nat → Nat), (∀ j, j < n → s j < k) → 0 ≤ f (codeN k s n) → f (codeN k s n) ≤ (d : Int) → f (codeN k s n) = g (codeN k s n) := by
  intro d
  induction d with
  | zero =>
    intro s hs h0 h1
    by_cases e : cntB (tokB n s) n ≤ 1
    · rw [hf.shut s hs e, hg.shut s hs e]
    · rcases hf.opened s hs (by omega) with h | h <;> omega
  | succ d ih =>
    intro s hs h0 h1
    by_cases e : cntB (tokB n s) n ≤ 1
    · rw [hf.shut s hs e, hg.shut s hs e]
    · rcases hf.opened s hs (by omega) with h | ⟨h2, h3, i, hi, ti, h4⟩
      · omega
      · have sub : ∀ i, i < n → tokB n s i = true → f (codeN k (movF k s i) n) = g (codeN k (movF k s i) n) := fun i hi ti => by
          have := h3 i hi ti
          exact ih _ (mov_lt hk hs i hi) this.1 (by omega)
        rcases hg.opened s hs (by omega) with ⟨_, i', hi', ti', h5⟩ | ⟨g2, g3, i', hi', ti', h5⟩
        · have := (h3 i' hi' ti').1
          rw [sub i' hi' ti'] at this
          omega
        · have a1 := (g3 i hi ti).2
          have a2 := (h3 i' hi' ti').2
          rw [← sub i hi ti] at a1
          rw [sub i' hi' ti'] at a2
          omega
theorem sol_eq {k n : Nat} {f g : Nat → Int} (hk : 0 < k) (hf : Sol k n f) (hg : Sol k n g) (s : Nat → Nat) (hs : ∀ j, j < n → s j < k) : f (codeN k s n) = g (codeN k s n) := by
  have l1 := hf.low s hs
  have l2 := hg.low s hs
  by_cases h : 0 ≤ f (codeN k s n)
  · exact sol_le hk hf hg (f (codeN k s n)).toNat s hs h (by omega)
  · by_cases h' : 0 ≤ g (codeN k s n)
    · exact (sol_le hk hg hf (g (codeN k s n)).toNat s hs h' (by omega)).symm
    · omega
/-- A number that gets less with each move: then there is an end from all. -/
theorem sol_ends {k n : Nat} {f : Nat → Int} (hk : 0 < k) (hf : Sol k n f) (g : Nat → Nat) (hg : ∀ s : Nat → Nat, (∀ j, j < n → s j < k) → 1 < cntB (tokB n s) n → ∀ i, i < n → tokB n s i = true → g (codeN k (movF k s i) n) < g (codeN k s n)) : ∀ (d : Nat) (s : Nat → Nat), (∀ j, j < n → s j < k) → g (codeN k s n) ≤ d → 0 ≤ f (codeN k s n) := by
  intro d
  induction d with
  | zero =>
    intro s hs h
    by_cases e : cntB (tokB n s) n ≤ 1
    · rw [hf.shut s hs e]; omega
    · rcases hf.opened s hs (by omega) with ⟨_, i, hi, ti, _⟩ | h1
      · have := hg s hs (by omega) i hi ti; omega
      · omega
  | succ d ih =>
    intro s hs h
    by_cases e : cntB (tokB n s) n ≤ 1
    · rw [hf.shut s hs e]; omega
    · rcases hf.opened s hs (by omega) with ⟨_, i, hi, ti, h2⟩ | h1
      · have := hg s hs (by omega) i hi ti
        have := ih _ (mov_lt hk hs i hi) (by omega)
        omega
      · omega
end Go.Proofs.YtlniogfinofakaaGreatDoor
/-
  Plain laws on tokens: there is a solution for the most moves. Condition: at least one state.
-/
namespace Go.Proofs.YtlniogfinofakaaGreatDoor
set_option maxRecDepth 100000
set_option linter.unusedVariables false
open Go.RowKit

/-- From s all ways end within d moves. -/
def Ends (k n : Nat) : Nat → (Nat → Nat) → Prop
  | 0, s => cntB (tokB n s) n ≤ 1
  | d + 1, s => cntB (tokB n s) n ≤ 1 ∨ ∀ i, i < n → tokB n s i = true → Ends k n d (movF k s i)
theorem cnt_tok {n : Nat} {s t : Nat → Nat} (h : ∀ j, j < n → s j = t j) : cntB (tokB n s) n = cntB (tokB n t) n := cntB_congr n (fun i hi => tok_congr h i hi)
theorem ends_congr {k n : Nat} : ∀ (d : Nat) {s t : Nat → Nat}, (∀ j, j < n → s j = t j) → Ends k n d s → Ends k n d t
  | 0, s, t, h, e => by
    have e' : cntB (tokB n s) n ≤ 1 := e
    show cntB (tokB n t) n ≤ 1
    rw [← cnt_tok h]; exact e'
  | d + 1, s, t, h, e => by
    rcases e with e | e
    · exact .inl (by rw [← cnt_tok h]; exact e)
    · exact .inr fun i hi ti => ends_congr d (fun j hj => mov_congr h i hi j hj) (e i hi (by rw [tok_congr h i hi]; exact ti))
theorem ends_mono {k n : Nat} : ∀ (d : Nat) {s : Nat → Nat}, Ends k n d s → Ends k n (d + 1) s
  | 0, _, e => .inl e
  | d + 1, _, e => by
    rcases e with e | e
    · exact .inl e
    · exact .inr fun i hi ti => ends_mono d (e i hi ti)
theorem ends_le {k n d : Nat} {s : Nat → Nat} (h : Ends k n d s) : ∀ j, Ends k n (d + j) s
  | 0 => h
  | j + 1 => ends_mono _ (ends_le h j)
theorem least_of {P : Nat → Prop} (h : ∃ d, P d) : ∃ d, P d ∧ ∀ j, j < d → ¬ P j := by
  obtain ⟨d, hd⟩ := h
  induction d using Nat.strongRecOn with
  | _ d ih =>
    by_cases e : ∃ j, j < d ∧ P j
    · obtain ⟨j, hj, hp⟩ := e
      exact ih j hj hp
    · exact ⟨d, hd, fun j hj hp => e ⟨j, hj, hp⟩⟩
theorem max_of (n : Nat) (P : Nat → Nat → Prop) (hm : ∀ i d, P i d → P i (d + 1)) (h : ∀ i, i < n → ∃ d, P i d) : ∃ d, ∀ i, i < n → P i d := by
  have up : ∀ i d j, P i d → P i (d + j) := fun i d j hp => by
    induction j with
    | zero => exact hp
    | succ j ih => exact hm i _ ih
  induction n with
  | zero => exact ⟨0, fun i hi => absurd hi (Nat.not_lt_zero _)⟩
  | succ n ih =>
    obtain ⟨d, hd⟩ := ih (fun i hi => h i (by omega))
    obtain ⟨d', hd'⟩ := h n (by omega)
    refine ⟨d + d', fun i hi => ?_⟩
    by_cases e : i = n
    · subst e
      rw [Nat.add_comm]
      exact up i d' d hd'
    · exact up i d d' (hd i (by omega))
theorem sol_exists (k n : Nat) (hk : 0 < k) : ∃ f : Nat → Int, Sol k n f := by
  have hex : ∃ f : Nat → Int, ∀ x, (f x = -1 ∧ ∀ d, ¬ Ends k n d (digN k n x)) ∨ ∃ d : Nat, f x = d ∧ Ends k n d (digN k n x) ∧ ∀ j, j < d → ¬ Ends k n j (digN k n x) := by
    have h1 : ∀ x, ∃ z : Int, (z = -1 ∧ ∀ d, ¬ Ends k n d (digN k n x)) ∨ ∃ d : Nat, z = d ∧ Ends k n d (digN k n x) ∧ ∀ j, j < d → ¬ Ends k n j (digN k n x) := fun x => by
      by_cases e : ∃ d, Ends k n d (digN k n x)
      · obtain ⟨d, hd, hl⟩ := least_of e
        exact ⟨d, .inr ⟨d, rfl, hd, hl⟩⟩
      · exact ⟨-1, .inl ⟨rfl, fun d hd => e ⟨d, hd⟩⟩⟩
    exact ⟨fun x => (h1 x).choose, fun x => (h1 x).choose_spec⟩
  obtain ⟨f, hf⟩ := hex
  have hs : ∀ s : Nat → Nat, (∀ j, j < n → s j < k) → (f (codeN k s n) = -1 ∧ ∀ d, ¬ Ends k n d s) ∨ ∃ d : Nat, f (codeN k s n) = d ∧ Ends k n d s ∧ ∀ j, j < d → ¬ Ends k n j s := fun s hs => by
    have hc : ∀ j, j < n → digN k n (codeN k s n) j = s j := fun j hj => dig_code hk hs j hj
    have hc' : ∀ j, j < n → s j = digN k n (codeN k s n) j := fun j hj => (hc j hj).symm
    rcases hf (codeN k s n) with ⟨h1, h2⟩ | ⟨d, h1, h2, h3⟩
    · exact .inl ⟨h1, fun d hd => h2 d (ends_congr d hc' hd)⟩
    · exact .inr ⟨d, h1, ends_congr d hc h2, fun j hj hd => h3 j hj (ends_congr j hc' hd)⟩
  refine ⟨f, ⟨fun s hb hc => ?_, fun s hb hc => ?_⟩⟩
  · rcases hs s hb with ⟨_, h2⟩ | ⟨d, h1, h2, h3⟩
    · exact absurd (show Ends k n 0 s from hc) (h2 0)
    · by_cases e : d = 0
      · rw [h1, e]; rfl
      · exact absurd (show Ends k n 0 s from hc) (h3 0 (by omega))
  · have hmv : ∀ i, i < n → ∀ j, j < n → movF k s i j < k := fun i hi => mov_lt hk hb i hi
    rcases hs s hb with ⟨h1, h2⟩ | ⟨d, h1, h2, h3⟩
    · refine .inl ⟨h1, ?_⟩
      by_cases e : ∃ i, i < n ∧ tokB n s i = true ∧ f (codeN k (movF k s i) n) = -1
      · exact e
      · exfalso
        have hall : ∀ i, i < n → ∃ d, tokB n s i = true → Ends k n d (movF k s i) := fun i hi => by
          by_cases ti : tokB n s i = true
          · rcases hs _ (hmv i hi) with ⟨h4, _⟩ | ⟨d, _, h5, _⟩
            · exact absurd ⟨i, hi, ti, h4⟩ e
            · exact ⟨d, fun _ => h5⟩
          · exact ⟨0, fun h => absurd h ti⟩
        obtain ⟨d, hd⟩ := max_of n (fun i d => tokB n s i = true → Ends k n d (movF k s i)) (fun i d h ti => ends_mono d (h ti)) hall
        exact h2 (d + 1) (.inr fun i hi ti => hd i hi ti)
    · cases d with
      | zero => exact absurd (show cntB (tokB n s) n ≤ 1 from h2) (by omega)
      | succ d =>
        have hch : ∀ i, i < n → tokB n s i = true → Ends k n d (movF k s i) := by
          rcases h2 with h2 | h2
          · omega
          · exact h2
        have hval : ∀ i, i < n → tokB n s i = true → ∃ e : Nat, f (codeN k (movF k s i) n) = e ∧ e ≤ d ∧ Ends k n e (movF k s i) := fun i hi ti => by
          rcases hs _ (hmv i hi) with ⟨_, h5⟩ | ⟨e, h4, h5, h6⟩
          · exact absurd (hch i hi ti) (h5 d)
          · refine ⟨e, h4, ?_, h5⟩
            by_cases hle : e ≤ d
            · exact hle
            · exact absurd (hch i hi ti) (h6 d (by omega))
        refine .inr ⟨by omega, fun i hi ti => ?_, ?_⟩
        · obtain ⟨e, h4, h5, _⟩ := hval i hi ti
          omega
        · by_cases hx : ∃ i, i < n ∧ tokB n s i = true ∧ f (codeN k (movF k s i) n) = d
          · obtain ⟨i, hi, ti, h4⟩ := hx
            exact ⟨i, hi, ti, by omega⟩
          · exfalso
            cases d with
            | zero =>
              obtain ⟨i, hi, ti⟩ := (cntB_pos (tokB n s) n).1 (by omega)
              obtain ⟨e, h4, h5, _⟩ := hval i hi ti
              exact hx ⟨i, hi, ti, by omega⟩
            | succ d =>
              refine h3 (d + 1) (by omega) (.inr fun i hi ti => ?_)
              obtain ⟨e, h4, h5, h6⟩ := hval i hi ti
              have : e ≠ d + 1 := fun h => hx ⟨i, hi, ti, by omega⟩
              have h7 := ends_le h6 (d - e)
              rwa [show e + (d - e) = d by omega] at h7
end Go.Proofs.YtlniogfinofakaaGreatDoor
