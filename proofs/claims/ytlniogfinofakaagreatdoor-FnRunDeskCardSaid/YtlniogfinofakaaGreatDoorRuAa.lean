/-
  Plain lemmas and words that all texts of this claim use: bits of int as Nat's bits, reading a slice of ints by an index function. No condition.
-/
import Derived.WalkKit
import Derived.WalkSpells
import Derived.WalkLawsBesides
import Derived.Handy
import Derived.Lib.Hide
import Derived.Deep.Slices
namespace Go.Proofs.YtlniogfinofakaaGreatDoor
set_option maxRecDepth 100000
open Go.RowKit

theorem ret_int {k : IntKind} {a b : Int} (h : a = b) : Ending.returned (.int k a) = .returned (.int k b) := by rw [h]
theorem ret_bool {a b : Bool} (h : a = b) : Ending.returned (.bool a) = .returned (.bool b) := by rw [h]
theorem ofInt64 (a : Nat) (ha : a < 9223372036854775808) : (BitVec.ofInt 64 (a : Int)).toNat = a := ofInt_u64 a (by omega)
theorem wrapNat (a : Nat) (h : a < 9223372036854775808) : IntKind.i64.wrap (a : Int) = (a : Int) := by
  rw [IntKind.wrap_i64]; omega
theorem bits_and (a b : Nat) (ha : a < 9223372036854775808) (hb : b < 9223372036854775808) : bits .and .i64 (a : Int) (b : Int) = ((a &&& b : Nat) : Int) := by
  have h3 : a &&& b < 2 ^ 63 := Nat.and_lt_two_pow _ (by omega)
  show IntKind.i64.wrap ((BitVec.ofInt 64 (a : Int) &&& BitVec.ofInt 64 (b : Int)).toNat : Int) = _
  rw [BitVec.toNat_and, ofInt64 a ha, ofInt64 b hb, wrapNat _ (by omega)]
theorem bits_or (a b : Nat) (ha : a < 9223372036854775808) (hb : b < 9223372036854775808) : bits .or .i64 (a : Int) (b : Int) = ((a ||| b : Nat) : Int) := by
  have h3 : a ||| b < 2 ^ 63 := Nat.or_lt_two_pow (by omega) (by omega)
  show IntKind.i64.wrap ((BitVec.ofInt 64 (a : Int) ||| BitVec.ofInt 64 (b : Int)).toNat : Int) = _
  rw [BitVec.toNat_or, ofInt64 a ha, ofInt64 b hb, wrapNat _ (by omega)]
theorem bits_xor (a b : Nat) (ha : a < 9223372036854775808) (hb : b < 9223372036854775808) : bits .xor .i64 (a : Int) (b : Int) = ((a ^^^ b : Nat) : Int) := by
  have h3 : a ^^^ b < 2 ^ 63 := Nat.xor_lt_two_pow (by omega) (by omega)
  show IntKind.i64.wrap ((BitVec.ofInt 64 (a : Int) ^^^ BitVec.ofInt 64 (b : Int)).toNat : Int) = _
  rw [BitVec.toNat_xor, ofInt64 a ha, ofInt64 b hb, wrapNat _ (by omega)]
theorem bits_andNot (a b : Nat) (ha : a < 9223372036854775808) (hb : b < 9223372036854775808) : bits .andNot .i64 (a : Int) (b : Int) = ((a &&& (18446744073709551615 - b) : Nat) : Int) := by
  have h3 : a &&& (18446744073709551615 - b) ≤ a := Nat.and_le_left
  show IntKind.i64.wrap ((BitVec.ofInt 64 (a : Int) &&& ~~~BitVec.ofInt 64 (b : Int)).toNat : Int) = _
  rw [BitVec.toNat_and, BitVec.toNat_not, ofInt64 a ha, ofInt64 b hb, show 2 ^ 64 - 1 - b = 18446744073709551615 - b from by omega, wrapNat _ (by omega)]
theorem testBit_andNot (a b i : Nat) (ha : a < 9223372036854775808) (hb : b < 9223372036854775808) : (a &&& (18446744073709551615 - b)).testBit i = (a.testBit i && !b.testBit i) := by
  rw [Nat.testBit_and, show 18446744073709551615 - b = 2 ^ 64 - (b + 1) from by omega, Nat.testBit_two_pow_sub_succ (by omega)]
  by_cases h : i < 64
  · simp [h]
  · have : a.testBit i = false := Nat.testBit_lt_two_pow (Nat.lt_of_lt_of_le ha (by have := Nat.pow_le_pow_right (show 0 < 2 by omega) (show 63 ≤ i by omega); omega))
    simp [this]
theorem pow_lt63 (n : Nat) (hn : n < 63) : 2 ^ n < 9223372036854775808 := Nat.pow_lt_pow_right (by omega) hn
theorem castPow (n : Nat) : ((2 ^ n : Nat) : Int) = (2 : Int) ^ n := by simp
theorem wrapPow (n : Nat) (hn : n < 63) : wrap64 ((2 : Int) ^ n) = ((2 ^ n : Nat) : Int) := by
  rw [← castPow]; have := pow_lt63 n hn; generalize 2 ^ n = p at *; unfold wrap64; omega
theorem shr_bit (s n : Nat) : ((s / 2 ^ n : Nat) : Int) = (s : Int) / 2 ^ n := by simp
theorem testBit_one (s n : Nat) (hs : s < 9223372036854775808) : (bits .and .i64 ((s : Int) / 2 ^ n) 1 == 1) = s.testBit n := by
  have h := bits_and (s / 2 ^ n) 1 (Nat.lt_of_le_of_lt (Nat.div_le_self _ _) hs) (by omega)
  rw [← shr_bit, show (1 : Int) = ((1 : Nat) : Int) from rfl, h]
  rw [Nat.testBit_eq_decide_div_mod_eq, Nat.and_one_is_mod, Bool.eq_iff_iff, beq_iff_eq, decide_eq_true_eq]
  generalize s / 2 ^ n = q
  omega

/-! reading a slice of ints -/
/-- The slice at address a has n ints; the i-th is x i. -/
def Ints (w : World) (a : Option Addr) (n : Nat) (x : Nat → Int) : Prop :=
  ∀ i, i < n → ∃ b off, a = some ⟨b, off, none⟩ ∧ w.cell? ⟨b, off + i, none⟩ = some (.int .i64 (x i))
/-- The slice at address a has n slices of ints; the i-th has address (r i).1, length (r i).2.1, capacity (r i).2.2 and the ints x i. -/
def Rows (w : World) (a : Option Addr) (n : Nat) (r : Nat → Option Addr × Nat × Nat) (x : Nat → Nat → Int) : Prop :=
  ∀ i, i < n → (∃ b off, a = some ⟨b, off, none⟩ ∧ w.cell? ⟨b, off + i, none⟩ = some (.slice (r i).1 (r i).2.1 (r i).2.2)) ∧ Ints w (r i).1 (r i).2.1 (x i)
abbrev Keeps (w w' : World) : Prop := Below w.heap.size w w'
theorem Keeps.step {w w1 w2 : World} (h : Keeps w w1) (k : Keeps w1 w2) : Keeps w w2 := h.trans (k.mono h.size)
theorem Keeps.refl (w : World) : Keeps w w := Below.refl _ _
theorem Keeps.drewN (w : World) (n : Nat) : Keeps w (w.drewN n) := ⟨rfl, rfl, rfl, Nat.le_refl _, fun _ _ => rfl⟩
theorem Keeps.drew1 (w : World) : Keeps w w.drew := ⟨rfl, rfl, rfl, Nat.le_refl _, fun _ _ => rfl⟩
theorem Keeps.alloc (w : World) (o : Obj) : Keeps w (w.alloc o) := (Below.refl _ _).alloc (Nat.le_refl _) o
theorem cell_keeps {w w' : World} (h : Keeps w w') {a : Addr} {v : Value} (hc : w.cell? a = some v) : w'.cell? a = some v :=
  (h.cell (World.block_lt_of_cell? w a hc)).trans hc
theorem Ints.keeps {w w' : World} {a : Option Addr} {n : Nat} {x : Nat → Int} (h : Ints w a n x) (k : Keeps w w') : Ints w' a n x := fun i hi => by
  obtain ⟨b, off, e, hc⟩ := h i hi
  exact ⟨b, off, e, cell_keeps k hc⟩
theorem Rows.keeps {w w' : World} {a : Option Addr} {n : Nat} {r : Nat → Option Addr × Nat × Nat} {x : Nat → Nat → Int} (h : Rows w a n r x) (k : Keeps w w') : Rows w' a n r x := fun i hi => by
  obtain ⟨⟨b, off, e, hc⟩, hr⟩ := h i hi
  exact ⟨⟨b, off, e, cell_keeps k hc⟩, hr.keeps k⟩
theorem ne_false {a b : Nat} (h : ((a : Int) != b) = false) : a = b := by
  have h' : (a : Int) = b := by simpa using h
  omega
theorem box0 (w : World) (u v : Value) (T : TypeId) : (w.alloc (.cells #[u, v] T)).cell? ⟨w.heap.size, 0, none⟩ = some u := by rw [World.cell?_alloc_at _ _ _ _ rfl]; rfl
theorem box1 (w : World) (u v : Value) (T : TypeId) : (w.alloc (.cells #[u, v] T)).cell? ⟨w.heap.size, 1, none⟩ = some v := by rw [World.cell?_alloc_at _ _ _ _ rfl]; rfl
end Go.Proofs.YtlniogfinofakaaGreatDoor
