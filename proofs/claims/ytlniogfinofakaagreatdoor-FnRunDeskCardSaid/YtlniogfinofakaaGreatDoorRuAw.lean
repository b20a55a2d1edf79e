/-
  The muddy people: what each one sees and knows in each round, as tables. No condition.
-/
import Derived.Test.YtlniogfinofakaaGreatDoorRuAh
import Derived.Test.YtlniogfinofakaaGreatDoorRuAv
import Derived.Laws.ResultCell
import Derived.Test.YtlniogfinofakaaGreatDoorRuAd
import Derived.Deep.RegionLaw
namespace Go.Proofs.YtlniogfinofakaaGreatDoor
set_option maxRecDepth 100000
open Go.RowKit
set_option linter.unusedVariables false
set_option maxRecDepth 100000

def mU : List (List (List (List (List Int)))) := [[],
 [[[[0, 1]], [[0, 1]]], [[[0, 1]]]],
 [[[[0, 1, 2, 2], [0, 1, 2, 1]], [[0, 1, 2, 2], [0, 1, 2, 3]], [[0, 1, 2, 3], [0, 1, 2, 3]]], [[[0, 1, 2, 3], [0, 1, 2, 3]], [[0, 1, 2, 3], [0, 1, 2, 3]], [[0, 1, 2, 3], [0, 1, 2, 3]]], [[[0, 1, 2, 3], [0, 1, 2, 3]]]],
 [[[[0, 1, 2, 2, 4, 4, 6, 6], [0, 1, 2, 1, 4, 5, 4, 5], [0, 1, 2, 3, 4, 1, 2, 3]], [[0, 1, 2, 2, 4, 4, 6, 6], [0, 1, 2, 3, 4, 5, 4, 5], [0, 1, 2, 3, 4, 5, 2, 3]], [[0, 1, 2, 3, 4, 4, 6, 6], [0, 1, 2, 3, 4, 5, 4, 5], [0, 1, 2, 3, 4, 5, 6, 3]], [[0, 1, 2, 3, 4, 5, 6, 6], [0, 1, 2, 3, 4, 5, 6, 5], [0, 1, 2, 3, 4, 5, 6, 3]]], [[[0, 1, 2, 3, 4, 5, 6, 6], [0, 1, 2, 3, 4, 5, 6, 5], [0, 1, 2, 3, 4, 5, 6, 3]], [[0, 1, 2, 3, 4, 5, 6, 6], [0, 1, 2, 3, 4, 5, 6, 7], [0, 1, 2, 3, 4, 5, 6, 7]], [[0, 1, 2, 3, 4, 5, 6, 7], [0, 1, 2, 3, 4, 5, 6, 7], [0, 1, 2, 3, 4, 5, 6, 7]], [[0, 1, 2, 3, 4, 5, 6, 7], [0, 1, 2, 3, 4, 5, 6, 7], [0, 1, 2, 3, 4, 5, 6, 7]]], [[[0, 1, 2, 3, 4, 5, 6, 7], [0, 1, 2, 3, 4, 5, 6, 7], [0, 1, 2, 3, 4, 5, 6, 7]], [[0, 1, 2, 3, 4, 5, 6, 7], [0, 1, 2, 3, 4, 5, 6, 7], [0, 1, 2, 3, 4, 5, 6, 7]], [[0, 1, 2, 3, 4, 5, 6, 7], [0, 1, 2, 3, 4, 5, 6, 7], [0, 1, 2, 3, 4, 5, 6, 7]], [[0, 1, 2, 3, 4, 5, 6, 7], [0, 1, 2, 3, 4, 5, 6, 7], [0, 1, 2, 3, 4, 5, 6, 7]]], [[[0, 1, 2, 3, 4, 5, 6, 7], [0, 1, 2, 3, 4, 5, 6, 7], [0, 1, 2, 3, 4, 5, 6, 7]]]],
 [[[[0, 1, 2, 2, 4, 4, 6, 6, 8, 8, 10, 10, 12, 12, 14, 14], [0, 1, 2, 1, 4, 5, 4, 5, 8, 9, 8, 9, 12, 13, 12, 13], [0, 1, 2, 3, 4, 1, 2, 3, 8, 9, 10, 11, 8, 9, 10, 11], [0, 1, 2, 3, 4, 5, 6, 7, 8, 1, 2, 3, 4, 5, 6, 7]], [[0, 1, 2, 2, 4, 4, 6, 6, 8, 8, 10, 10, 12, 12, 14, 14], [0, 1, 2, 3, 4, 5, 4, 5, 8, 9, 8, 9, 12, 13, 12, 13], [0, 1, 2, 3, 4, 5, 2, 3, 8, 9, 10, 11, 8, 9, 10, 11], [0, 1, 2, 3, 4, 5, 6, 7, 8, 9, 2, 3, 4, 5, 6, 7]], [[0, 1, 2, 3, 4, 4, 6, 6, 8, 8, 10, 10, 12, 12, 14, 14], [0, 1, 2, 3, 4, 5, 4, 5, 8, 9, 8, 9, 12, 13, 12, 13], [0, 1, 2, 3, 4, 5, 6, 3, 8, 9, 10, 11, 8, 9, 10, 11], [0, 1, 2, 3, 4, 5, 6, 7, 8, 9, 10, 3, 4, 5, 6, 7]], [[0, 1, 2, 3, 4, 5, 6, 6, 8, 8, 10, 10, 12, 12, 14, 14], [0, 1, 2, 3, 4, 5, 6, 5, 8, 9, 8, 9, 12, 13, 12, 13], [0, 1, 2, 3, 4, 5, 6, 3, 8, 9, 10, 11, 8, 9, 10, 11], [0, 1, 2, 3, 4, 5, 6, 7, 8, 9, 10, 3, 12, 5, 6, 7]], [[0, 1, 2, 3, 4, 5, 6, 6, 8, 9, 10, 10, 12, 12, 14, 14], [0, 1, 2, 3, 4, 5, 6, 5, 8, 9, 10, 9, 12, 13, 12, 13], [0, 1, 2, 3, 4, 5, 6, 3, 8, 9, 10, 11, 12, 9, 10, 11], [0, 1, 2, 3, 4, 5, 6, 7, 8, 9, 10, 3, 12, 5, 6, 7]]], [[[0, 1, 2, 3, 4, 5, 6, 6, 8, 9, 10, 10, 12, 12, 14, 14], [0, 1, 2, 3, 4, 5, 6, 5, 8, 9, 10, 9, 12, 13, 12, 13], [0, 1, 2, 3, 4, 5, 6, 3, 8, 9, 10, 11, 12, 9, 10, 11], [0, 1, 2, 3, 4, 5, 6, 7, 8, 9, 10, 3, 12, 5, 6, 7]], [[0, 1, 2, 3, 4, 5, 6, 6, 8, 9, 10, 10, 12, 12, 14, 14], [0, 1, 2, 3, 4, 5, 6, 7, 8, 9, 10, 11, 12, 13, 12, 13], [0, 1, 2, 3, 4, 5, 6, 7, 8, 9, 10, 11, 12, 13, 10, 11], [0, 1, 2, 3, 4, 5, 6, 7, 8, 9, 10, 11, 12, 13, 6, 7]], [[0, 1, 2, 3, 4, 5, 6, 7, 8, 9, 10, 11, 12, 12, 14, 14], [0, 1, 2, 3, 4, 5, 6, 7, 8, 9, 10, 11, 12, 13, 12, 13], [0, 1, 2, 3, 4, 5, 6, 7, 8, 9, 10, 11, 12, 13, 14, 11], [0, 1, 2, 3, 4, 5, 6, 7, 8, 9, 10, 11, 12, 13, 14, 7]], [[0, 1, 2, 3, 4, 5, 6, 7, 8, 9, 10, 11, 12, 13, 14, 14], [0, 1, 2, 3, 4, 5, 6, 7, 8, 9, 10, 11, 12, 13, 14, 13], [0, 1, 2, 3, 4, 5, 6, 7, 8, 9, 10, 11, 12, 13, 14, 11], [0, 1, 2, 3, 4, 5, 6, 7, 8, 9, 10, 11, 12, 13, 14, 7]], [[0, 1, 2, 3, 4, 5, 6, 7, 8, 9, 10, 11, 12, 13, 14, 14], [0, 1, 2, 3, 4, 5, 6, 7, 8, 9, 10, 11, 12, 13, 14, 13], [0, 1, 2, 3, 4, 5, 6, 7, 8, 9, 10, 11, 12, 13, 14, 11], [0, 1, 2, 3, 4, 5, 6, 7, 8, 9, 10, 11, 12, 13, 14, 7]]], [[[0, 1, 2, 3, 4, 5, 6, 7, 8, 9, 10, 11, 12, 13, 14, 14], [0, 1, 2, 3, 4, 5, 6, 7, 8, 9, 10, 11, 12, 13, 14, 13], [0, 1, 2, 3, 4, 5, 6, 7, 8, 9, 10, 11, 12, 13, 14, 11], [0, 1, 2, 3, 4, 5, 6, 7, 8, 9, 10, 11, 12, 13, 14, 7]], [[0, 1, 2, 3, 4, 5, 6, 7, 8, 9, 10, 11, 12, 13, 14, 14], [0, 1, 2, 3, 4, 5, 6, 7, 8, 9, 10, 11, 12, 13, 14, 15], [0, 1, 2, 3, 4, 5, 6, 7, 8, 9, 10, 11, 12, 13, 14, 15], [0, 1, 2, 3, 4, 5, 6, 7, 8, 9, 10, 11, 12, 13, 14, 15]], [[0, 1, 2, 3, 4, 5, 6, 7, 8, 9, 10, 11, 12, 13, 14, 15], [0, 1, 2, 3, 4, 5, 6, 7, 8, 9, 10, 11, 12, 13, 14, 15], [0, 1, 2, 3, 4, 5, 6, 7, 8, 9, 10, 11, 12, 13, 14, 15], [0, 1, 2, 3, 4, 5, 6, 7, 8, 9, 10, 11, 12, 13, 14, 15]], [[0, 1, 2, 3, 4, 5, 6, 7, 8, 9, 10, 11, 12, 13, 14, 15], [0, 1, 2, 3, 4, 5, 6, 7, 8, 9, 10, 11, 12, 13, 14, 15], [0, 1, 2, 3, 4, 5, 6, 7, 8, 9, 10, 11, 12, 13, 14, 15], [0, 1, 2, 3, 4, 5, 6, 7, 8, 9, 10, 11, 12, 13, 14, 15]], [[0, 1, 2, 3, 4, 5, 6, 7, 8, 9, 10, 11, 12, 13, 14, 15], [0, 1, 2, 3, 4, 5, 6, 7, 8, 9, 10, 11, 12, 13, 14, 15], [0, 1, 2, 3, 4, 5, 6, 7, 8, 9, 10, 11, 12, 13, 14, 15], [0, 1, 2, 3, 4, 5, 6, 7, 8, 9, 10, 11, 12, 13, 14, 15]]], [[[0, 1, 2, 3, 4, 5, 6, 7, 8, 9, 10, 11, 12, 13, 14, 15], [0, 1, 2, 3, 4, 5, 6, 7, 8, 9, 10, 11, 12, 13, 14, 15], [0, 1, 2, 3, 4, 5, 6, 7, 8, 9, 10, 11, 12, 13, 14, 15], [0, 1, 2, 3, 4, 5, 6, 7, 8, 9, 10, 11, 12, 13, 14, 15]], [[0, 1, 2, 3, 4, 5, 6, 7, 8, 9, 10, 11, 12, 13, 14, 15], [0, 1, 2, 3, 4, 5, 6, 7, 8, 9, 10, 11, 12, 13, 14, 15], [0, 1, 2, 3, 4, 5, 6, 7, 8, 9, 10, 11, 12, 13, 14, 15], [0, 1, 2, 3, 4, 5, 6, 7, 8, 9, 10, 11, 12, 13, 14, 15]], [[0, 1, 2, 3, 4, 5, 6, 7, 8, 9, 10, 11, 12, 13, 14, 15], [0, 1, 2, 3, 4, 5, 6, 7, 8, 9, 10, 11, 12, 13, 14, 15], [0, 1, 2, 3, 4, 5, 6, 7, 8, 9, 10, 11, 12, 13, 14, 15], [0, 1, 2, 3, 4, 5, 6, 7, 8, 9, 10, 11, 12, 13, 14, 15]], [[0, 1, 2, 3, 4, 5, 6, 7, 8, 9, 10, 11, 12, 13, 14, 15], [0, 1, 2, 3, 4, 5, 6, 7, 8, 9, 10, 11, 12, 13, 14, 15], [0, 1, 2, 3, 4, 5, 6, 7, 8, 9, 10, 11, 12, 13, 14, 15], [0, 1, 2, 3, 4, 5, 6, 7, 8, 9, 10, 11, 12, 13, 14, 15]], [[0, 1, 2, 3, 4, 5, 6, 7, 8, 9, 10, 11, 12, 13, 14, 15], [0, 1, 2, 3, 4, 5, 6, 7, 8, 9, 10, 11, 12, 13, 14, 15], [0, 1, 2, 3, 4, 5, 6, 7, 8, 9, 10, 11, 12, 13, 14, 15], [0, 1, 2, 3, 4, 5, 6, 7, 8, 9, 10, 11, 12, 13, 14, 15]]], [[[0, 1, 2, 3, 4, 5, 6, 7, 8, 9, 10, 11, 12, 13, 14, 15], [0, 1, 2, 3, 4, 5, 6, 7, 8, 9, 10, 11, 12, 13, 14, 15], [0, 1, 2, 3, 4, 5, 6, 7, 8, 9, 10, 11, 12, 13, 14, 15], [0, 1, 2, 3, 4, 5, 6, 7, 8, 9, 10, 11, 12, 13, 14, 15]]]]]
def mK : List (List (List Nat)) := [[],
 [[3]],
 [[3, 5], [15, 15]],
 [[3, 5, 17], [63, 95, 119], [255, 255, 255]],
 [[3, 5, 17, 257], [831, 1375, 4471, 5911], [16383, 24575, 30719, 32639], [65535, 65535, 65535, 65535]]]
def muU (n t a : Nat) : List (List Int) := ((mU.getD n []).getD t []).getD a []
def muK (n t a : Nat) : Nat := ((mK.getD n []).getD t []).getD a 0
def dirtB (n a : Nat) : Nat := maskB (fun w => w.testBit a) (2 ^ n)
def cleanB (n a : Nat) : Nat := maskB (fun w => !w.testBit a) (2 ^ n)
/-- The view of the muddy people, as both make it. -/
def mud0 (n : Nat) : List (List Int) := (List.range n).map fun a => (List.range (2 ^ n)).map fun w => ((w - (if w.testBit a then 2 ^ a else 0) : Nat) : Int)
/-- Who knows in the round t that the world is w. -/
def whoB (n w t : Nat) : Nat := maskB (fun a => (muK n t a).testBit w) n
def muT (n w : Nat) : Nat := if whoB n w 0 ≠ 0 then 1 else if whoB n w 1 ≠ 0 then 2 else if whoB n w 2 ≠ 0 then 3 else 4
theorem mu_start : ∀ n : Fin 5, 1 ≤ n.val → tellRR (lsII (mud0 n.val)) (maskB (fun u => u != 0) (2 ^ n.val)) (2 ^ n.val) n.val = muU n.val 0 0 := by decide +kernel
theorem mu_start2 : ∀ n : Fin 5, 1 ≤ n.val → maskB (fun u => u != 0) (2 ^ n.val) = 2 ^ (2 ^ n.val) - 2 := by decide +kernel
theorem mu_tell : ∀ n : Fin 5, ∀ t : Fin n.val, ∀ a : Fin n.val, tellRR (lsII (muU n.val t.val a.val)) (muK n.val t.val a.val) (2 ^ n.val) n.val = muU n.val t.val (a.val + 1) := by decide +kernel
theorem mu_know : ∀ n : Fin 5, ∀ t : Fin n.val, ∀ a : Fin n.val, (knowsB (lsII (muU n.val t.val 0)) (2 ^ n.val) a.val (dirtB n.val a.val) ||| knowsB (lsII (muU n.val t.val 0)) (2 ^ n.val) a.val (cleanB n.val a.val)) = muK n.val t.val a.val := by decide +kernel
theorem mu_next : ∀ n : Fin 5, ∀ t : Fin n.val, muU n.val t.val n.val = muU n.val (t.val + 1) 0 := by decide +kernel
theorem mu_len : ∀ n : Fin 5, ∀ t : Fin n.val, ∀ a : Fin (n.val + 1), (muU n.val t.val a.val).length = n.val ∧ ∀ i : Fin n.val, ((muU n.val t.val a.val).getD i.val []).length = 2 ^ n.val := by decide +kernel
theorem mu_len0 : ∀ n : Fin 5, (mud0 n.val).length = n.val ∧ ∀ i : Fin n.val, ((mud0 n.val).getD i.val []).length = 2 ^ n.val := by decide +kernel
theorem mu_lt : ∀ n : Fin 5, ∀ t : Fin n.val, ∀ a : Fin n.val, muK n.val t.val a.val < 65536 ∧ dirtB n.val a.val < 65536 ∧ cleanB n.val a.val < 65536 ∧ 2 ^ (2 ^ n.val) - 1 - dirtB n.val a.val = cleanB n.val a.val := by decide +kernel
theorem mu_ends : ∀ n : Fin 5, 1 ≤ n.val → ∀ w : Fin (2 ^ n.val), 1 ≤ w.val → ∃ t : Fin n.val, whoB n.val w.val t.val ≠ 0 := by decide +kernel
theorem mu_first {n w t : Nat} (hn1 : 1 ≤ n) (hn : n ≤ 4) (ht : t < n) (h : ∀ u, u < t → whoB n w u = 0) (he : whoB n w t ≠ 0) : muT n w = t + 1 := by
  unfold muT
  have h0 := fun hh => h 0 hh
  have h1 := fun hh => h 1 hh
  have h2 := fun hh => h 2 hh
  rcases (show t = 0 ∨ t = 1 ∨ t = 2 ∨ t = 3 by omega) with rfl | rfl | rfl | rfl
  · rw [if_pos he]
  · rw [if_neg (by simp [h0 (by omega)]), if_pos he]
  · rw [if_neg (by simp [h0 (by omega)]), if_neg (by simp [h1 (by omega)]), if_pos he]
  · rw [if_neg (by simp [h0 (by omega)]), if_neg (by simp [h1 (by omega)]), if_neg (by simp [h2 (by omega)])]
theorem mu_more {n w t : Nat} (hn1 : 1 ≤ n) (hn : n ≤ 4) (hw1 : 1 ≤ w) (hw : w < 2 ^ n) (ht : t ≤ n) (h : ∀ u, u < t → whoB n w u = 0) : t < n := by
  obtain ⟨u, hu⟩ := mu_ends ⟨n, by omega⟩ hn1 ⟨w, hw⟩ hw1
  rcases Nat.lt_or_ge t n with h1 | h1
  · exact h1
  · exact absurd (h u.val (by have := u.isLt; simp only at this; omega)) hu
end Go.Proofs.YtlniogfinofakaaGreatDoor
/-
  The contract of MuddyView of the program. Condition: one to four people.
-/
namespace Go.Proofs.YtlniogfinofakaaGreatDoor
set_option maxRecDepth 100000
open Go.RowKit
set_option linter.unusedVariables false

def mudR (a k : Nat) : List Int := (List.range k).map fun w => ((w - (if w.testBit a then 2 ^ a else 0) : Nat) : Int)
def mudRR (W k : Nat) : List (List Int) := (List.range k).map fun a => mudR a W
theorem mudR_next (a k : Nat) : mudR a (k + 1) = mudR a k ++ [((k - (if k.testBit a then 2 ^ a else 0) : Nat) : Int)] := by simp [mudR, List.range_succ]
theorem mudRR_next (W k : Nat) : mudRR W (k + 1) = mudRR W k ++ [mudR k W] := by simp [mudRR, List.range_succ]
theorem mud_bit : ∀ a : Fin 4, ∀ k : Fin 16, bits .andNot .i64 ((k.val : Nat) : Int) ((2 ^ a.val : Nat) : Int) = ((k.val - (if k.val.testBit a.val then 2 ^ a.val else 0) : Nat) : Int) := by decide +kernel
set_option maxRecDepth 100000 in
set_option maxHeartbeats 4000000 in
theorem muddyView_any (n : Nat) (w : World) (hn1 : 1 ≤ n) (hn : n ≤ 4) :
    Calls Tryz.prog 90 #[.int .i64 n] w fun e w' => ∃ A c, e = .returned (.tuple #[.agg #[.int .i64 (2 ^ n : Nat), .slice A n c], .bool true]) ∧ OwnRows w' w.heap.size A n c (mud0 n) ∧ Keeps w w' := by
  have hmr := make_rowsT n (by omega)
  have CW := Lib.hid (fun w => within_any n 1 4 w)
  rw [show inB (n : Int) 1 4 = true from inB_mk (by omega) (by omega)] at CW
  have HWR : Hid (wrap64 ((2 : Int) ^ n) = ((2 ^ n : Nat) : Int)) := Lib.hid (wrapPow n (by omega))
  have hp : 2 ^ n ≤ 16 := Nat.le_trans (Nat.pow_le_pow_right (by omega) hn) (by omega)
  obtain ⟨W, hW⟩ : ∃ W, W = 2 ^ n := ⟨_, rfl⟩
  have HE : Hid (mudRR W n = mud0 n) := Lib.hid (by rw [hW]; rfl)
  rw [← hW] at HWR hp
  have HW := Lib.hid hW
  clear hW
  have hmi := make_intsT W (by omega)
  go_enter Tryz.func90, Tryz.ntmps90
  go_wp2_with fail
  refine (CW.out _).mono ?_
  rintro e w1 ⟨rfl, rfl⟩
  go_upto_region 3 with fail
  go_cut [4] (fun v wx => ∃ (V c' : Nat) (A' : Option Addr), v = .pointer (some ⟨V, 0, none⟩) ∧ w.heap.size + 1 ≤ V ∧ Blk wx w.heap.size 93 #[.int .i64 0, .slice none 0 0] ∧ Blk wx V 93 #[.int .i64 W, .slice A' 0 c'] ∧ OwnRows wx w.heap.size A' 0 c' [] ∧ Keeps w wx)
  case first =>
    go_region
    all_goals (go_wp2_with fail)
    all_goals go_meet
    all_goals rw [HWR.out]
    · exact ⟨w.heap.size + 1 + 1, n, some ⟨w.heap.size + 1, 0, none⟩, rfl, by omega, (((Blk.new w _ _).keeps (Keeps.alloc _ _)).keeps (Keeps.alloc _ _)).keeps (Keeps.drew1 _),
        (blk_at (by simp) (Blk.new _ _ _)).keeps (Keeps.drew1 _), ((OwnRows.cap _ _ n _ (by simp) (by simp) (by omega)).keeps (Keeps.alloc _ _)).keeps (Keeps.drew1 _), (((Keeps.alloc w _).step (Keeps.alloc _ _)).step (Keeps.alloc _ _)).step (Keeps.drew1 _)⟩
    · exact ⟨w.heap.size + 1, n, some ⟨w.heap.size + 1 + 1, 0, none⟩, rfl, by omega, (((Blk.new w _ _).keeps (Keeps.alloc _ _)).keeps (Keeps.alloc _ _)).keeps (Keeps.drew1 _),
        ((blk_at (by simp) (Blk.new _ _ _)).keeps (Keeps.alloc _ _)).keeps (Keeps.drew1 _), (OwnRows.cap _ _ n _ (by simp) (by simp; omega) (by omega)).keeps (Keeps.drew1 _), (((Keeps.alloc w _).step (Keeps.alloc _ _)).step (Keeps.alloc _ _)).step (Keeps.drew1 _)⟩
  case rest =>
    obtain ⟨V, c', A', rfl, hV, hB0, hBV, hO, hK⟩ := hcut
    clear hmr
    go_wp2_with fail
    go_loopw [18] (fun i wr => ∃ (k : Nat) (c' : Nat) (A' : Option Addr), k ≤ n ∧ i = .int .i64 k ∧ Blk wr w.heap.size 93 #[.int .i64 0, .slice none 0 0] ∧ Blk wr V 93 #[.int .i64 W, .slice A' k c'] ∧ OwnRows wr w.heap.size A' k c' (mudRR W k) ∧ Keeps w wr) (fun i _ => n - (intOf i).toNat)
    case atStart => exact ⟨0, c', A', by omega, rfl, hB0, hBV, hO, hK⟩
    case round =>
      clear hB0 hBV hO hK
      obtain ⟨k, c', A', hk, rfl, hB0, hBV, hO, hK⟩ := hrel
      have z0 := hB0.lt
      have z1 := hBV.lt
      by_cases hlt : k < n
      · have hlt' : (k : Int) < n := by omega
        have hk4 : k < 4 := by omega
        have d0 : wr.cell? ⟨V, 0, none⟩ = some (.int .i64 W) := hBV.cell 0
        have hO2 := OwnInts.cap wr wr.heap.size W _ rfl (Nat.le_refl _) (by omega)
        go_wp2_with fail
        obtain ⟨wo, rfl⟩ : ∃ wo : World, wo = wr := ⟨_, rfl⟩
        go_loopw [6, 26] (fun v i wr => ∃ (j d : Nat) (a : Option Addr), j ≤ W ∧ v = .slice a j d ∧ i = .int .i64 j ∧ OwnInts wr wo.heap.size a j d (mudR k j) ∧ Keeps wo wr) (fun _ i _ => W - (intOf i).toNat)
        case atStart => exact ⟨0, _, _, by omega, rfl, rfl, hO2, Keeps.alloc _ _⟩
        case round =>
          obtain ⟨j, d, a, hj, rfl, rfl, hOj, hKj⟩ := hrel
          by_cases hjt : j < W
          · have hjt' : (j : Int) < W := by omega
            have HM := Lib.hid (mudR_next k j)
            have HB : Hid (bits .andNot .i64 (j : Int) (wrap64 ((2 : Int) ^ k)) = ((j - (if j.testBit k then 2 ^ k else 0) : Nat) : Int)) := Lib.hid (by
              rw [wrapPow k (by omega)]
              exact mud_bit ⟨k, hk4⟩ ⟨j, by omega⟩)
            have hsz := hKj.size
            go_wp2_with (first | (at_builtin; refine wp_app_int rfl _ _ rfl wo.heap.size a j d (mudR k j) _ rfl hOj _ rfl (by omega) hsz ?_; intro g d' w6 hO6 hg6))
            go_roundw
            case rel => exact ⟨j + 1, d', _, by omega, rfl, by go_num, by rw [HM.out, ← HB.out]; exact hO6, hKj.grown hOj (Nat.le_refl _) hg6⟩
            case measure => simp [intOf]; omega
          · have : j = W := by omega
            subst this
            have hBVj := hBV.keeps hKj
            have hOOj := hO.keeps hKj
            have HN := Lib.hid (mudRR_next j k)
            have e1 : wr.cell? ⟨V, 1, none⟩ = some (.slice A' k c') := hBVj.cell 1
            have hw0 := hK.size
            have hw1 := hKj.size
            go_wp2_with (first | (at_builtin; go_must (refine wp_app_row rfl _ _ rfl w.heap.size A' k c' (mudRR j k) _ rfl hOOj wo.heap.size a j d (mudR k j) hOj hw0 rfl (by omega) (Nat.le_trans hw0 hw1) ?_); intro g c2 w3 hOwn3 hg3; have hBV3 := hOOj.blk hg3 hBVj (by decide); have d1 : w3.cell? ⟨V, 1, none⟩ = some (.slice A' k c') := hBV3.cell 1; have f1 := hBV3.frozen 1))
            have hB03 := hOOj.blk hg3 (hB0.keeps hKj) (by decide)
            have hK3 : Keeps w w3 := hOOj.keepsAll (hK.step hKj) (Nat.le_refl _) hg3
            go_roundw
            case rel =>
              refine ⟨k + 1, c2, _, by omega, by go_num, hB03.set_other _ _ (by simp; omega), hBV3.set 1 _, ?_, hK3.setCell (by simp; omega) _⟩
              rw [HN.out]
              exact hOwn3.grown (grown_set _ _ _ _) hBV3 (by decide) (by decide)
            case measure => simp [intOf]; omega
      · have : k = n := by omega
        subst this
        have c10 : wr.cell? ⟨V, 0, none⟩ = some (.int .i64 W) := hBV.cell 0
        have c11 : wr.cell? ⟨V, 1, none⟩ = some (.slice A' k c') := hBV.cell 1
        have c00 : wr.cell? ⟨w.heap.size, 0, none⟩ = some (.int .i64 0) := hB0.cell 0
        have c01 : wr.cell? ⟨w.heap.size, 1, none⟩ = some (.slice none 0 0) := hB0.cell 1
        have f00 := hB0.frozen 0
        have f01 := hB0.frozen 1
        have hB2 := (hB0.set 0 (.int .i64 W)).set 1 (.slice A' k c')
        go_wp2
        refine bodyPost_ret (v := .tuple #[.agg #[.int .i64 W, .slice A' k c'], .bool true]) (by simp [results, Tryz.results90, go_sem, c00, c01]) rfl ⟨A', c', by rw [HW.out], ?_, ?_⟩
        · rw [← HE.out]
          exact (hO.grown (grown_set _ _ _ _) hB0 (by decide) (by decide)).grown (grown_set _ _ _ _) (hB0.set 0 _) (by decide) (by decide)
        · exact (hK.setCell (Nat.le_refl _) _).setCell (Nat.le_refl _) _
end Go.Proofs.YtlniogfinofakaaGreatDoor
/-
  The contract of sure: where one of the people knows whether it has mud on it. Condition: at most 16 worlds.
-/
namespace Go.Proofs.YtlniogfinofakaaGreatDoor
set_option maxRecDepth 100000
open Go.RowKit
set_option linter.unusedVariables false

theorem sure1_any (b u a : Nat) (w : World) (hu : u < 131072) (ha : a ≤ 62) (h0 : w.cell? ⟨b, 0, none⟩ = some (.int .i64 a)) :
    Calls Tryz.prog 118 #[.int .i64 u, .pointer (some ⟨b, 0, none⟩)] w fun e w' => e = .returned (.bool (u.testBit a)) ∧ w' = w := by
  have HT := Lib.hid (testBit_one u a (by omega))
  go_enter Tryz.func118, Tryz.ntmps118
  go_wp2_with fail
  go_ret
  refine ⟨ret_bool ?_, rfl⟩
  rw [← HT.out]
theorem and_one {u a : Nat} (hu : u < 131072) : (bits .and .i64 ((u : Int) / 2 ^ a) 1 == 0) = !(bits .and .i64 ((u : Int) / 2 ^ a) 1 == 1) := by
  have h : bits .and .i64 ((u : Int) / 2 ^ a) 1 = ((u / 2 ^ a &&& 1 : Nat) : Int) := by
    rw [← shr_bit]
    exact bits_and _ 1 (Nat.lt_of_le_of_lt (Nat.div_le_self _ _) (by omega)) (by omega)
  rw [h, Nat.and_one_is_mod]
  rcases Nat.mod_two_eq_zero_or_one (u / 2 ^ a) with e | e <;> rw [e] <;> rfl
theorem sure2_any (b u a : Nat) (w : World) (hu : u < 131072) (ha : a ≤ 62) (h0 : w.cell? ⟨b, 0, none⟩ = some (.int .i64 a)) :
    Calls Tryz.prog 119 #[.int .i64 u, .pointer (some ⟨b, 0, none⟩)] w fun e w' => e = .returned (.bool (!u.testBit a)) ∧ w' = w := by
  have HT := Lib.hid (testBit_one u a (by omega))
  go_enter Tryz.func119, Tryz.ntmps119
  go_wp2_with fail
  go_ret
  refine ⟨ret_bool ?_, rfl⟩
  rw [← HT.out]
  exact and_one hu
set_option maxHeartbeats 2000000 in
theorem sure_any (A : Option Addr) (n c W : Nat) (r : Nat → Option Addr × Nat × Nat) (x : Nat → Nat → Int) (a : Nat) (w : World) (hW : W ≤ 16) (hr : Rows w A n r x) (ha : a < n) (hn : n ≤ 4) (hrow : (r a).2.1 = W) :
    Calls Tryz.prog 95 #[.agg #[.int .i64 W, .slice A n c], .int .i64 a] w fun e w' => e = .returned (.int .i64 (knowsB x W a (maskB (fun u => u.testBit a) W) ||| knowsB x W a (maskB (fun u => !u.testBit a) W) : Nat)) ∧ Keeps w w' := by
  have hmf : ∀ (fn : Fn) (first cap : Array Value) (w : World), (Instr.makeFunc fn first cap).run Tryz.prog w = .ok (.func fn first cap) w := fun _ _ _ _ => rfl
  have HRW := Lib.hid hrow
  have HR := Lib.hid hr
  clear hrow hr
  have HB1 : Hid (maskB (fun u => u.testBit a) W < 131072) := Lib.hid (maskB_lt16 _ _ (by omega))
  have HB2 : Hid (maskB (fun u => !u.testBit a) W < 131072) := Lib.hid (maskB_lt16 _ _ (by omega))
  have HK0 := Lib.hid ((Keeps.alloc w (.cells #[.int .i64 W, .slice A n c] 93)).step (Keeps.alloc _ (.cells #[.int .i64 a] 3)))
  have HBA := Lib.hid (Blk.new (w.alloc (.cells #[.int .i64 W, .slice A n c] 93)) #[.int .i64 a] 3)
  go_enter Tryz.func95, Tryz.ntmps95
  go_wp2_with fail
  refine (lookOf_any A n c W _).mono ?_
  rintro e w1 ⟨rfl, hk1⟩
  have HK1 := Lib.hid (HK0.out.step hk1)
  have HBA1 : Hid (Blk w1 (w.heap.size + 1) 3 #[.int .i64 a]) := Lib.hid (by
    have h := HBA.out.keeps hk1
    rwa [World.size_alloc] at h)
  clear hk1 HK0 HBA
  go_wp2_with fail
  have HBL := Lib.hid (Blk.new w1 #[.int .i64 W, .slice A n c] 129)
  have HK2 := Lib.hid (HK1.out.step (Keeps.alloc w1 (.cells #[.int .i64 W, .slice A n c] 129)))
  have HBA2 := Lib.hid (HBA1.out.keeps (Keeps.alloc w1 (.cells #[.int .i64 W, .slice A n c] 129)))
  obtain ⟨b5, hb5⟩ : ∃ b, b = w1.heap.size := ⟨_, rfl⟩
  rw [← hb5] at HBL ⊢
  obtain ⟨b3, hb3⟩ : ∃ b, b = w.heap.size + 1 := ⟨_, rfl⟩
  rw [← hb3] at HBA2 ⊢
  clear hb5 hb3
  generalize w1.alloc (.cells #[.int .i64 W, .slice A n c] 129) = w2 at *
  clear HBA1 HK1
  refine (filter_any 118 _ W (fun u => u.testBit a) (fun w' => w' = w2) hW (fun _ _ => rfl) ?_ _ rfl).mono ?_
  · rintro k w3 hk rfl
    exact sure1_any b3 k a w3 (by omega) (by omega) (HBA2.out.cell 0)
  rintro e w3 ⟨rfl, rfl⟩
  have d0 : w3.cell? ⟨b5, 0, none⟩ = some (.int .i64 W) := HBL.out.cell 0
  go_wp2_with fail
  refine (filter_any 119 _ W (fun u => !u.testBit a) (fun w' => w' = w3) hW (fun _ _ => rfl) ?_ _ rfl).mono ?_
  · rintro k w4 hk rfl
    exact sure2_any b3 k a w4 (by omega) (by omega) (HBA2.out.cell 0)
  rintro e w4 ⟨rfl, rfl⟩
  go_wp2_with fail
  have d1 : w4.cell? ⟨b5, 1, none⟩ = some (.slice A n c) := HBL.out.cell 1
  have e0 : w4.cell? ⟨b3, 0, none⟩ = some (.int .i64 a) := HBA2.out.cell 0
  have CK := Lib.hid (fun s hs w' (k : Keeps w w') => knows_any A n c W r x a s w' hW (HR.out.keeps k) ha HRW.out hs)
  have HOR := Lib.hid (bits_or (knowsB x W a (maskB (fun u => u.testBit a) W)) (knowsB x W a (maskB (fun u => !u.testBit a) W)) (Nat.lt_of_lt_of_le (knowsB_lt _ _ _ _ hW) (by omega)) (Nat.lt_of_lt_of_le (knowsB_lt _ _ _ _ hW) (by omega)))
  generalize hm1 : maskB (fun u => u.testBit a) W = m1 at *
  generalize hm2 : maskB (fun u => !u.testBit a) W = m2 at *
  have HM1 := Lib.hid hm1
  have HM2 := Lib.hid hm2
  clear hm1 hm2
  go_region_held3 (fun w' => w'.cell? ⟨b5, 0, none⟩ = some (.int .i64 W) ∧ w'.cell? ⟨b5, 1, none⟩ = some (.slice A n c) ∧ w'.cell? ⟨b3, 0, none⟩ = some (.int .i64 a) ∧ Keeps w w') (first | exact ⟨cell_keeps hk1 g0, cell_keeps hk1 g1, cell_keeps hk1 g2, gk.step hk1⟩ | exact ⟨d0, d1, e0, HK2.out.step (Keeps.drew1 _)⟩) (first | (go_at_call 120; obtain ⟨g0, g1, g2, gk⟩ : _ ∧ _ ∧ _ ∧ Keeps w _ := (by assumption); refine (CK.out _ (by first | exact HB1.out | exact HB2.out) _ gk).mono ?_; rintro e w1 ⟨rfl, hk1⟩))
  go_wp2
  go_ret
  exact ⟨ret_int (by rw [HM1.out, HM2.out]; exact HOR.out), gk.step hk1⟩
end Go.Proofs.YtlniogfinofakaaGreatDoor
/-
  The contract of MuddyOf of the program. No condition.
-/
namespace Go.Proofs.YtlniogfinofakaaGreatDoor
set_option maxRecDepth 100000
open Go.RowKit
set_option linter.unusedVariables false
set_option linter.unusedSimpArgs false

/-- What MuddyOf tells first: in which round one first knows, 0 for other numbers. -/
def mudX (n w : Int) : Bool := inB n 1 4 && inB w 1 ((2 ^ n.toNat : Nat) - 1)
def mudI (n w : Int) : Int := if mudX n w then (muT n.toNat w.toNat : Nat) else 0
theorem whoB_next (n w t a : Nat) : maskB (fun a => (muK n t a).testBit w) (a + 1) = if (muK n t a).testBit w then maskB (fun a => (muK n t a).testBit w) a ||| 2 ^ a else maskB (fun a => (muK n t a).testBit w) a := rfl
theorem mu_rows {n t a lo c : Nat} {w : World} {A : Option Addr} (hn : n ≤ 4) (ht : t < n) (ha : a ≤ n) (h : OwnRows w lo A n c (muU n t a)) :
    ∃ r : Nat → Option Addr × Nat × Nat, Rows w A n r (lsII (muU n t a)) ∧ ∀ i, i < n → (r i).2.1 = 2 ^ n := by
  obtain ⟨r, h1, h2, _⟩ := h.rows
  refine ⟨r, h1, fun i hi => ?_⟩
  rw [h2 i hi]
  exact (mu_len ⟨n, by omega⟩ ⟨t, ht⟩ ⟨a, by simp only; omega⟩).2 ⟨i, hi⟩
theorem mu_rows0 {n lo c : Nat} {w : World} {A : Option Addr} (hn : n ≤ 4) (h : OwnRows w lo A n c (mud0 n)) :
    ∃ r : Nat → Option Addr × Nat × Nat, Rows w A n r (lsII (mud0 n)) ∧ ∀ i, i < n → (r i).2.1 = 2 ^ n := by
  obtain ⟨r, h1, h2, _⟩ := h.rows
  refine ⟨r, h1, fun i hi => ?_⟩
  rw [h2 i hi]
  exact (mu_len0 ⟨n, by omega⟩).2 ⟨i, hi⟩
theorem pow16 {n : Nat} (hn : n ≤ 4) : 2 ^ n ≤ 16 := Nat.le_trans (Nat.pow_le_pow_right (by omega) hn) (by omega)
theorem mu_sure {n t a lo c : Nat} {w : World} {A : Option Addr} (hn : n ≤ 4) (ht : t < n) (ha : a < n) (h : OwnRows w lo A n c (muU n t 0)) :
    Calls Tryz.prog 95 #[.agg #[.int .i64 (2 ^ n : Nat), .slice A n c], .int .i64 a] w fun e w' => e = .returned (.int .i64 (muK n t a : Nat)) ∧ Keeps w w' := by
  obtain ⟨r, h1, h2⟩ := mu_rows hn ht (Nat.zero_le n) h
  have := sure_any A n c (2 ^ n) r _ a w (pow16 hn) h1 ha hn (h2 a ha)
  rw [show (knowsB (lsII (muU n t 0)) (2 ^ n) a (maskB (fun u => u.testBit a) (2 ^ n)) ||| knowsB (lsII (muU n t 0)) (2 ^ n) a (maskB (fun u => !u.testBit a) (2 ^ n))) = muK n t a from mu_know ⟨n, by omega⟩ ⟨t, ht⟩ ⟨a, ha⟩] at this
  exact this
theorem mu_teller {n t a lo c : Nat} {w : World} {A : Option Addr} (hn : n ≤ 4) (ht : t < n) (ha : a < n) (h : OwnRows w lo A n c (muU n t a)) :
    Calls Tryz.prog 91 #[.agg #[.int .i64 (2 ^ n : Nat), .slice A n c], .int .i64 (muK n t a : Nat)] w fun e w' => ∃ A' c', e = .returned (.agg #[.int .i64 (2 ^ n : Nat), .slice A' n c']) ∧ OwnRows w' w.heap.size A' n c' (muU n t (a + 1)) ∧ Keeps w w' := by
  obtain ⟨r, h1, h2⟩ := mu_rows hn ht (Nat.le_of_lt ha) h
  have hlt := (mu_lt ⟨n, by omega⟩ ⟨t, ht⟩ ⟨a, ha⟩).1
  have := tell_any A n c (2 ^ n) r _ (muK n t a) w (pow16 hn) hn h1 h2 (by simp only at hlt; omega)
  rw [show tellRR (lsII (muU n t a)) (muK n t a) (2 ^ n) n = muU n t (a + 1) from mu_tell ⟨n, by omega⟩ ⟨t, ht⟩ ⟨a, ha⟩] at this
  exact this
theorem mo1_nz (u : Nat) (w : World) : Calls Tryz.prog 94 #[.int .i64 u] w fun e w' => e = .returned (.bool (u != 0)) ∧ w' = w := by
  go_enter Tryz.func94, Tryz.ntmps94
  go_wp2_with fail
  go_ret
  refine ⟨ret_bool ?_, rfl⟩
  rw [Bool.eq_iff_iff]
  simp
theorem muddyView_no (n : Int) (w : World) (hn : inB n 1 4 = false) :
    Calls Tryz.prog 90 #[.int .i64 n] w fun e w' => e = .returned (.tuple #[.agg #[.int .i64 0, .slice none 0 0], .bool false]) ∧ Keeps w w' := by
  have CW := Lib.hid (fun w => within_any n 1 4 w)
  rw [hn] at CW
  clear hn
  have c0 := box0 w (.int .i64 0) (.slice none 0 0) 93
  have c1 := box1 w (.int .i64 0) (.slice none 0 0) 93
  go_enter Tryz.func90, Tryz.ntmps90
  go_wp2_with fail
  refine (CW.out _).mono ?_
  rintro e w1 ⟨rfl, rfl⟩
  go_wp2_with fail
  refine bodyPost_ret (v := .tuple #[.agg #[.int .i64 0, .slice none 0 0], .bool false]) (by simp [results, Tryz.results90, go_sem]) rfl ⟨rfl, ?_⟩
  go_grown
set_option maxHeartbeats 2000000 in
theorem iMuddyOf_no1 (n w0 : Int) (w : World) (hn : inB n 1 4 = false) :
    Calls Tryz.prog 65 #[.int .i64 n, .int .i64 w0] w fun e w' => e = .returned (.tuple #[.int .i64 0, .int .i64 0]) ∧ Keeps w w' := by
  have CM := Lib.hid (muddyView_no n w hn)
  clear hn
  go_enter Tryz.func65, Tryz.ntmps65
  go_wp2_with fail
  refine CM.out.mono ?_
  rintro e w1 ⟨rfl, hk1⟩
  go_wp2_with fail
  go_ret2
  exact ⟨rfl, hk1.step (Keeps.alloc _ _)⟩
set_option maxHeartbeats 2000000 in
theorem iMuddyOf_no2 (n : Nat) (w0 : Int) (w : World) (hn1 : 1 ≤ n) (hn : n ≤ 4) (h : inB w0 1 ((2 ^ n : Nat) - 1) = false) :
    Calls Tryz.prog 65 #[.int .i64 n, .int .i64 w0] w fun e w' => e = .returned (.tuple #[.int .i64 0, .int .i64 0]) ∧ Keeps w w' := by
  have CM := Lib.hid (muddyView_any n w hn1 hn)
  have hp := pow16 hn
  have hp1 : 1 ≤ 2 ^ n := Nat.one_le_two_pow
  generalize 2 ^ n = W at *
  have CW := Lib.hid (fun w => within_any w0 1 ((W : Int) - 1) w)
  rw [h] at CW
  have hwr : IntKind.i64.wrap ((W : Int) - 1) = (W : Int) - 1 := by rw [IntKind.wrap_i64]; omega
  clear h
  go_enter Tryz.func65, Tryz.ntmps65
  go_wp2_with fail
  refine CM.out.mono ?_
  rintro e w1 ⟨A, c, rfl, hO, hk1⟩
  clear hO
  go_wp2_with fail
  refine (CW.out _).mono ?_
  rintro e w2 ⟨rfl, rfl⟩
  go_wp2_with fail
  go_ret2
  exact ⟨rfl, hk1.step (Keeps.alloc _ _)⟩
set_option maxHeartbeats 4000000 in
theorem iMuddyOf_yes (n w0 : Nat) (w : World) (hn1 : 1 ≤ n) (hn : n ≤ 4) (hw1 : 1 ≤ w0) (hw2 : w0 < 2 ^ n) :
    Calls Tryz.prog 65 #[.int .i64 n, .int .i64 w0] w fun e w' => ∃ v : Int, e = .returned (.tuple #[.int .i64 (muT n w0 : Nat), .int .i64 v]) ∧ Keeps w w' := by
  have CM := Lib.hid (muddyView_any n w hn1 hn)
  have hp := pow16 hn
  have hpk := Lib.hid (pow16 hn)
  have HW1 := Lib.hid hw1
  have HW2 := Lib.hid hw2
  have HSTART : Hid (∀ (w : World) A c lo, OwnRows w lo A n c (mud0 n) → Calls Tryz.prog 91 #[.agg #[.int .i64 (2 ^ n : Nat), .slice A n c], .int .i64 (maskB (fun u => u != 0) (2 ^ n) : Nat)] w fun e w' => ∃ A' c', e = .returned (.agg #[.int .i64 (2 ^ n : Nat), .slice A' n c']) ∧ OwnRows w' w.heap.size A' n c' (muU n 0 0) ∧ Keeps w w') := Lib.hid (fun w A c lo h => by
    obtain ⟨r, h1, h2⟩ := mu_rows0 hn h
    have hlt : maskB (fun u => u != 0) (2 ^ n) < 131072 := maskB_lt16 _ _ (by have := pow16 hn; omega)
    have := tell_any A n c (2 ^ n) r _ _ w (pow16 hn) hn h1 h2 hlt
    rw [show tellRR (lsII (mud0 n)) (maskB (fun u => u != 0) (2 ^ n)) (2 ^ n) n = muU n 0 0 from mu_start ⟨n, by omega⟩ hn1] at this
    exact this)
  have HSURE : Hid (∀ (w : World) A c lo t a, t < n → a < n → OwnRows w lo A n c (muU n t 0) → Calls Tryz.prog 95 #[.agg #[.int .i64 (2 ^ n : Nat), .slice A n c], .int .i64 a] w fun e w' => e = .returned (.int .i64 (muK n t a : Nat)) ∧ Keeps w w') := Lib.hid (fun w A c lo t a ht ha h => mu_sure hn ht ha h)
  have HTELL : Hid (∀ (w : World) A c lo t a, t < n → a < n → OwnRows w lo A n c (muU n t a) → Calls Tryz.prog 91 #[.agg #[.int .i64 (2 ^ n : Nat), .slice A n c], .int .i64 (muK n t a : Nat)] w fun e w' => ∃ A' c', e = .returned (.agg #[.int .i64 (2 ^ n : Nat), .slice A' n c']) ∧ OwnRows w' w.heap.size A' n c' (muU n t (a + 1)) ∧ Keeps w w') := Lib.hid (fun w A c lo t a ht ha h => mu_teller hn ht ha h)
  have HMORE := Lib.hid (fun t ht h => mu_more (t := t) hn1 hn hw1 hw2 ht h)
  have HWL : Hid (∀ t, whoB n w0 t < 131072) := Lib.hid (fun t => maskB_lt16 _ _ (by omega))
  obtain ⟨W, hW⟩ : ∃ W, W = 2 ^ n := ⟨_, rfl⟩
  rw [← hW] at CM hp HSTART HSURE HTELL hw2
  clear hW
  have hm1 : maskB (fun u => u != 0) W < 131072 := maskB_lt16 _ _ (by omega)
  have CW := Lib.hid (fun w => within_any (w0 : Int) 1 ((W : Int) - 1) w)
  rw [show inB (w0 : Int) 1 ((W : Int) - 1) = true from inB_mk (by omega) (by omega)] at CW
  have hwr : IntKind.i64.wrap ((W : Int) - 1) = (W : Int) - 1 := by rw [IntKind.wrap_i64]; omega
  have CL := Lib.hid (fun A c w => lookOf_any A n c W w)
  have CF := Lib.hid (fun (w : World) => filter_any 94 #[] W (fun u => u != 0) (fun w' => w' = w) hp (fun _ _ => rfl) (by
    rintro k w3 hk rfl
    exact mo1_nz k w3) w rfl)
  have hfd : ∀ (a b : Value) (w : World), (Instr.field 129 (.agg #[a, b]) 0).run Tryz.prog w = .ok a w := fun _ _ _ => rfl
  clear hw1 hw2
  go_enter Tryz.func65, Tryz.ntmps65
  go_wp2_with fail
  refine CM.out.mono ?_
  rintro e w1 ⟨A, c, rfl, hO, hk1⟩
  have HO := Lib.hid hO
  have HK1 := Lib.hid hk1
  clear hO hk1 CM
  go_wp2_with fail
  refine (CW.out _).mono ?_
  rintro e w2 ⟨rfl, rfl⟩
  have HB1 := Lib.hid (Blk.new w1 #[.int .i64 W, .slice A n c] 93)
  have HO1 := Lib.hid (HO.out.keeps (Keeps.alloc w1 (.cells #[.int .i64 W, .slice A n c] 93)))
  have HK2 := Lib.hid (HK1.out.step (Keeps.alloc w1 (.cells #[.int .i64 W, .slice A n c] 93)))
  have hV := HK1.out.size
  clear HO HK1
  go_wp2_with fail
  obtain ⟨V, hVV⟩ : ∃ V, V = w1.heap.size := ⟨_, rfl⟩
  rw [← hVV] at hV HB1 ⊢
  clear hVV
  generalize w1.alloc (.cells #[.int .i64 W, .slice A n c] 93) = w2 at *
  have d0 : w2.cell? ⟨V, 0, none⟩ = some (.int .i64 W) := HB1.out.cell 0
  have d1 : w2.cell? ⟨V, 1, none⟩ = some (.slice A n c) := HB1.out.cell 1
  have f0 := HB1.out.frozen 0
  have f1 := HB1.out.frozen 1
  have HS1 := Lib.hid (fun w' (k : Keeps w2 w') => HSTART.out w' A c _ (HO1.out.keeps k))
  go_cut [6] (fun v wx => v = .pointer (some ⟨V, 0, none⟩) ∧ ∃ (A6 : Option Addr) (c6 : Nat), Hid (Blk wx V 93 #[.int .i64 W, .slice A6 n c6]) ∧ Hid (OwnRows wx w.heap.size A6 n c6 (muU n 0 0)) ∧ Hid (Keeps w wx))
  case first =>
    go_region_law (first | (refine step_go 92 #[.tmp 29] #[93] rfl rfl (fun _ _ => rfl) (by simp [Act.eval, Act.put]) (CL.out A c _) ?_; rintro e w4 ⟨rfl, hk4⟩; refine ⟨_, rfl, ?_⟩; have d04 := cell_keeps hk4 d0; have d14 := cell_keeps hk4 d1) | (refine step_go 93 #[.tmp 31, .func 94] #[127, 124] rfl rfl (fun _ _ => rfl) (by simp [Act.eval, Act.put]) (CF.out _) ?_; rintro e w5 ⟨rfl, rfl⟩; refine ⟨_, rfl, ?_⟩) | (refine step_go 91 #[.tmp 28, .tmp 32] #[93, 3] rfl rfl (fun _ _ => rfl) (by simp [Act.eval, Act.put]) (HS1.out _ ((Keeps.drew1 _).step hk4)) ?_; rintro e w6 ⟨A6, c6, rfl, hO6, hk6⟩; refine ⟨_, rfl, ?_⟩; have hkk := ((Keeps.drew1 _).step hk4).step hk6; have d06 := cell_keeps hkk d0; have d16 := cell_keeps hkk d1; have f06 := (HB1.out.keeps hkk).frozen 0; have f16 := (HB1.out.keeps hkk).frozen 1))

    all_goals (go_wp2_with fail)
    all_goals go_meet
    all_goals
      refine ⟨rfl, A6, c6, Lib.hid ?_, Lib.hid ?_, Lib.hid ?_⟩
      · exact (((HB1.out.keeps hkk).set 0 (.int .i64 W)).set 1 (.slice A6 n c6))
      · have hB := HB1.out.keeps hkk
        have hO := hO6.mono (Nat.le_trans HK2.out.size (Nat.le_trans ((Keeps.drew1 w2).step hk4).size (Nat.le_refl _)))
        exact (hO.grown (grown_set _ _ _ _) hB (by decide) (by decide)).grown (grown_set _ _ _ _) (hB.set 0 _) (by decide) (by decide)
      · exact ((HK2.out.step hkk).setCell hV _).setCell hV _
  case rest =>
    clear d0 d1 f0 f1
    obtain ⟨rfl, A6, c6, HBV, HO6, HK6⟩ := hcut
    clear HB1 HO1 HK2 HS1
    go_wp2_with fail
    go_loopw [8] (fun q wr => ∃ (t : Nat) (A : Option Addr) (c : Nat), t < n ∧ q = .int .i64 ((t : Int) + 1) ∧ Hid (Blk wr V 93 #[.int .i64 W, .slice A n c]) ∧ Hid (OwnRows wr w.heap.size A n c (muU n t 0)) ∧ Hid (∀ u, u < t → whoB n w0 u = 0) ∧ Hid (Keeps w wr)) (fun q _ => n + 2 - (intOf q).toNat)
    case atStart => exact ⟨0, A6, c6, by omega, rfl, HBV, HO6, Lib.hid (fun u hu => absurd hu (Nat.not_lt_zero _)), HK6⟩
    case round =>
      clear HBV HO6 HK6
      obtain ⟨t, A, c, ht, rfl, HBV, HO, HNO, HK⟩ := hrel
      have d0 : wr.cell? ⟨V, 0, none⟩ = some (.int .i64 W) := HBV.out.cell 0
      have d1 : wr.cell? ⟨V, 1, none⟩ = some (.slice A n c) := HBV.out.cell 1
      have hsz := HK.out.size
      have HBN := Lib.hid (Blk.new wr #[.int .i64 W, .slice A n c] 93)
      have HBV2 := Lib.hid (HBV.out.keeps (Keeps.alloc wr (.cells #[.int .i64 W, .slice A n c] 93)))
      have HO2 := Lib.hid (HO.out.keeps (Keeps.alloc wr (.cells #[.int .i64 W, .slice A n c] 93)))
      have HK2 := Lib.hid (HK.out.step (Keeps.alloc wr (.cells #[.int .i64 W, .slice A n c] 93)))
      have hVN : V < wr.heap.size := HBV.out.lt
      clear HBV HO HK
      go_wp2_with fail
      clear d0 d1
      obtain ⟨B, hB⟩ : ∃ B, B = wr.heap.size := ⟨_, rfl⟩
      rw [← hB] at hsz HBN hVN ⊢
      clear hB
      generalize wr.alloc (.cells #[.int .i64 W, .slice A n c] 93) = w3 at *
      go_loopw [9, 38] (fun s i wr => ∃ (a : Nat) (A2 : Option Addr) (c2 : Nat), a ≤ n ∧ i = .int .i64 a ∧ s = .int .i64 (maskB (fun a => (muK n t a).testBit w0) a : Nat) ∧ Hid (Blk wr B 93 #[.int .i64 W, .slice A2 n c2]) ∧ Hid (Blk wr V 93 #[.int .i64 W, .slice A n c]) ∧ Hid (OwnRows wr w.heap.size A2 n c2 (muU n t a)) ∧ Hid (OwnRows wr w.heap.size A n c (muU n t 0)) ∧ Hid (Keeps w wr)) (fun _ i _ => n - (intOf i).toNat)
      case atStart => exact ⟨0, A, c, by omega, rfl, rfl, HBN, HBV2, HO2, HO2, HK2⟩
      case round =>
        clear HBN HBV2 HO2 HK2
        obtain ⟨a, A2, c2, ha, rfl, rfl, HBN, HBV, HOA, HO, HK⟩ := hrel
        by_cases hlt : a < n
        · have hai : (a : Int) < n := by omega
          have d0 : wr.cell? ⟨V, 0, none⟩ = some (.int .i64 W) := HBV.out.cell 0
          have d1 : wr.cell? ⟨V, 1, none⟩ = some (.slice A n c) := HBV.out.cell 1
          have HN := Lib.hid (whoB_next n w0 t a)
          have hmB : maskB (fun a => (muK n t a).testBit w0) a < 131072 := maskB_lt16 _ _ (by omega)
          have hkl : muK n t a < 65536 := (mu_lt ⟨n, by omega⟩ ⟨t, ht⟩ ⟨a, hlt⟩).1
          have CS := Lib.hid (HSURE.out wr A c _ t a ht hlt HO.out)
          have CT := Lib.hid (fun w' A' c' lo h => HTELL.out w' A' c' lo t a ht hlt h)
          have hw62 : w0 ≤ 62 := by have := HW2.out; have := hpk.out; omega
          generalize muK n t a = K at *
          generalize maskB (fun a => (muK n t a).testBit w0) a = M at *
          have CH := Lib.hid (fun w => has_any K w0 w (by omega) hw62)
          have CWI := Lib.hid (fun w => with_any M a w (by omega) (by omega))
          go_wp2_with fail
          refine CS.out.mono ?_
          rintro e w4 ⟨rfl, hk4⟩
          have HBN4 := Lib.hid (HBN.out.keeps hk4)
          have HBV4 := Lib.hid (HBV.out.keeps hk4)
          have HOA4 := Lib.hid (HOA.out.keeps hk4)
          have HO4 := Lib.hid (HO.out.keeps hk4)
          have HK4 := Lib.hid (HK.out.step hk4)
          clear hk4 d0 d1 HBN HBV HOA HO HK CS
          have e0 : w4.cell? ⟨B, 0, none⟩ = some (.int .i64 W) := HBN4.out.cell 0
          have e1 : w4.cell? ⟨B, 1, none⟩ = some (.slice A2 n c2) := HBN4.out.cell 1
          have CT4 := Lib.hid (CT.out w4 A2 c2 _ HOA4.out)
          cases hb : K.testBit w0
          · rw [hb] at CH HN
            clear hb
            go_wp2_with fail
            refine (CH.out _).mono ?_
            rintro e w5 ⟨rfl, rfl⟩
            go_wp2_with fail
            refine CT4.out.mono ?_
            rintro e w5 ⟨A5, c5, rfl, hO5, hk5⟩
            have hBN5 := HBN4.out.keeps hk5
            have f0 := hBN5.frozen 0
            have f1 := hBN5.frozen 1
            have g0 : w5.cell? ⟨B, 0, none⟩ = some (.int .i64 W) := hBN5.cell 0
            have g1 : w5.cell? ⟨B, 1, none⟩ = some (.slice A2 n c2) := hBN5.cell 1
            have HB5 := Lib.hid hBN5
            have HO5 := Lib.hid (hO5.mono HK4.out.size)
            have HOV5 := Lib.hid (HO4.out.keeps hk5)
            have HBV5 := Lib.hid (HBV4.out.keeps hk5)
            have HK5 := Lib.hid (HK4.out.step hk5)
            clear hBN5 hO5 hk5
            go_wp2_with fail
            go_roundw
            case rel =>
              refine ⟨a + 1, A5, c5, by omega, by go_num, by rw [HN.out]; rfl, Lib.hid ((HB5.out.set 0 _).set 1 _), Lib.hid ((HBV5.out.set_other _ _ (by simp only; omega)).set_other _ _ (by simp only; omega)), Lib.hid ?_, Lib.hid ?_, Lib.hid ((HK5.out.setCell hsz _).setCell hsz _)⟩
              · exact (HO5.out.grown (grown_set _ _ _ _) HB5.out (by decide) (by decide)).grown (grown_set _ _ _ _) (HB5.out.set 0 _) (by decide) (by decide)
              · exact (HOV5.out.grown (grown_set _ _ _ _) HB5.out (by decide) (by decide)).grown (grown_set _ _ _ _) (HB5.out.set 0 _) (by decide) (by decide)
            case measure => simp [intOf]; omega
          · rw [hb] at CH HN
            clear hb
            go_wp2_with fail
            refine (CH.out _).mono ?_
            rintro e w5 ⟨rfl, rfl⟩
            go_wp2_with fail
            refine (CWI.out _).mono ?_
            rintro e w5 ⟨rfl, rfl⟩
            obtain ⟨M2, hM2⟩ : ∃ M2, M2 = M ||| 2 ^ a := ⟨_, rfl⟩
            rw [← hM2] at HN ⊢
            clear hM2
            go_wp2_with fail
            refine CT4.out.mono ?_
            rintro e w5 ⟨A5, c5, rfl, hO5, hk5⟩
            have hBN5 := HBN4.out.keeps hk5
            have f0 := hBN5.frozen 0
            have f1 := hBN5.frozen 1
            have g0 : w5.cell? ⟨B, 0, none⟩ = some (.int .i64 W) := hBN5.cell 0
            have g1 : w5.cell? ⟨B, 1, none⟩ = some (.slice A2 n c2) := hBN5.cell 1
            have HB5 := Lib.hid hBN5
            have HO5 := Lib.hid (hO5.mono HK4.out.size)
            have HOV5 := Lib.hid (HO4.out.keeps hk5)
            have HBV5 := Lib.hid (HBV4.out.keeps hk5)
            have HK5 := Lib.hid (HK4.out.step hk5)
            clear hBN5 hO5 hk5
            go_wp2_with fail
            go_roundw
            case rel =>
              refine ⟨a + 1, A5, c5, by omega, by go_num, by rw [HN.out]; rfl, Lib.hid ((HB5.out.set 0 _).set 1 _), Lib.hid ((HBV5.out.set_other _ _ (by simp only; omega)).set_other _ _ (by simp only; omega)), Lib.hid ?_, Lib.hid ?_, Lib.hid ((HK5.out.setCell hsz _).setCell hsz _)⟩
              · exact (HO5.out.grown (grown_set _ _ _ _) HB5.out (by decide) (by decide)).grown (grown_set _ _ _ _) (HB5.out.set 0 _) (by decide) (by decide)
              · exact (HOV5.out.grown (grown_set _ _ _ _) HB5.out (by decide) (by decide)).grown (grown_set _ _ _ _) (HB5.out.set 0 _) (by decide) (by decide)
            case measure => simp [intOf]; omega
        · obtain rfl : a = n := by omega
          have HWB : Hid (maskB (fun b => (muK a t b).testBit w0) a = whoB a w0 t) := Lib.hid rfl
          rw [HWB.out]
          have HF := Lib.hid (fun h => mu_first hn1 hn ht HNO.out h)
          have HM := Lib.hid (fun h => HMORE.out (t + 1) (by omega) h)
          have HX := Lib.hid (mu_next ⟨a, by omega⟩ ⟨t, ht⟩)
          have HZ := Lib.hid HNO.out
          by_cases hz : whoB a w0 t = 0
          · have HN2 : Hid (∀ u, u < t + 1 → whoB a w0 u = 0) := Lib.hid (fun u hu => by
              by_cases e : u = t
              · rw [e]; exact hz
              · exact HZ.out u (by omega))
            rw [hz]
            clear hz
            have e0 : wr.cell? ⟨B, 0, none⟩ = some (.int .i64 W) := HBN.out.cell 0
            have e1 : wr.cell? ⟨B, 1, none⟩ = some (.slice A2 a c2) := HBN.out.cell 1
            have d0 : wr.cell? ⟨V, 0, none⟩ = some (.int .i64 W) := HBV.out.cell 0
            have d1 : wr.cell? ⟨V, 1, none⟩ = some (.slice A a c) := HBV.out.cell 1
            have f0 := HBV.out.frozen 0
            have f1 := HBV.out.frozen 1
            go_wp2_with fail
            go_roundw
            case rel =>
              refine ⟨t + 1, A2, c2, HM.out HN2.out, by go_num, Lib.hid ((HBV.out.set 0 _).set 1 _), Lib.hid ?_, HN2, Lib.hid ((HK.out.setCell hV _).setCell hV _)⟩
              have hx : muU a t a = muU a (t + 1) 0 := HX.out
              rw [← hx]
              exact (HOA.out.grown (grown_set _ _ _ _) HBV.out (by decide) (by decide)).grown (grown_set _ _ _ _) (HBV.out.set 0 _) (by decide) (by decide)
            case measure => simp [intOf]; omega
          · have hzi : ((whoB a w0 t : Nat) : Int) ≠ 0 := by omega
            have HF2 := Lib.hid (HF.out hz)
            clear hz
            generalize whoB a w0 t = X at *
            go_wp2_with fail
            go_ret2
            exact ⟨⟨X, by rw [HF2.out]; rfl⟩, HK.out⟩
end Go.Proofs.YtlniogfinofakaaGreatDoor
