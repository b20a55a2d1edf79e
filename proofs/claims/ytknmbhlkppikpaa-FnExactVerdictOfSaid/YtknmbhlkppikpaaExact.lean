/-
  The contracts of the exact laws' words on []int: toIntS, szIntS, markIntS, heldIntS. Conditions: bounds on lengths and numbers.
-/
import Derived.Test.YtknmbhlkppikpaaOwnSet
import Derived.Test.YtknmbhlkppikpaaEq
namespace Go.Proofs.Ytknmbhlkppikpaa
open Go.RowKit

set_option maxHeartbeats 1000000 in
theorem toInts_any (A : Option Addr) (n c : Nat) (x : Nat → Int) (w : World) (hn : n ≤ 1099511627776) (hI : Ints w A n x) :
    Calls Try.prog 10 #[.slice A n c] w fun e w' => ∃ g, e = .returned (.slice (some ⟨g, 0, none⟩) n n) ∧ OwnInts w' w.heap.size (some ⟨g, 0, none⟩) n n (il n x) ∧ Keeps w w' := by
  have HI := Lib.hid hI
  clear hI
  have hmk := make_ints n hn
  go_enter Try.func10, Try.ntmps10
  go_wp2_with fail
  go_loopw [4] (fun i wr => ∃ k : Nat, k ≤ n ∧ i = .int .i64 k ∧ OwnInts wr w.heap.size (some ⟨w.heap.size, 0, none⟩) n n (il n (fun i => if i < k then x i else 0)) ∧ Keeps w wr) (fun i _ => n - (intOf i).toNat)
  case atStart =>
    refine ⟨0, by omega, rfl, ?_, Keeps.alloc _ _⟩
    rw [il_congr n _ (fun _ => 0) (fun i _ => by simp), ← il_zero]
    exact OwnInts.make _ _ _ (Nat.le_refl _) hn
  case round =>
    obtain ⟨k, hk, rfl, hO, hK⟩ := hrel
    by_cases hlt : k < n
    · have hki : (k : Int) < n := by omega
      obtain ⟨d, off, rfl, hcx⟩ := HI.out.keeps hK k hlt
      have hc := hO.cell k hlt
      have hf := hO.frozen k
      have HN := Lib.hid (hO.set k (x k))
      clear hO
      go_wp2
      go_roundw
      case rel =>
        refine ⟨k + 1, by omega, by go_num, ?_, Below.setCell hK (Nat.le_refl _) _⟩
        have h := HN.out
        rw [il_set] at h
        rw [il_congr n _ (fun i => if i = k then x k else if i < k then x i else 0) (fun i _ => by
          by_cases h1 : i = k
          · subst h1; simp
          · by_cases h2 : i < k
            · rw [if_pos (by omega), if_neg h1, if_pos h2]
            · rw [if_neg (by omega), if_neg h1, if_neg h2])]
        exact h
      case measure => simp [intOf]; omega
    · obtain rfl : k = n := by omega
      have HO := Lib.hid hO
      clear hO
      go_wp2
      go_ret
      refine ⟨_, rfl, ?_, hK⟩
      rw [il_congr k x (fun i => if i < k then x i else 0) (fun i hi => by rw [if_pos hi])]
      exact HO.out
/-- What is left of a bound. -/
def szLeft (n : Nat) (left : Int) : Int := if left - n < 0 then -1 else left - n
set_option maxHeartbeats 1000000 in
theorem szInts_any (A : Option Addr) (n c : Nat) (left : Int) (w : World) (hn : n ≤ 9223372036854775807) (h0 : 0 ≤ left) (h1 : left ≤ 1048576) :
    Calls Try.prog 25 #[.slice A n c, .int .i64 left] w fun e w' => e = .returned (.int .i64 (szLeft n left)) ∧ w = w' := by
  by_cases h : left - n < 0
  · have HV : Hid (szLeft n left = -1) := Lib.hid (by unfold szLeft; rw [if_pos h])
    go_enter Try.func25, Try.ntmps25
    go_wp2
    go_ret
    exact ⟨ret_int HV.out.symm, rfl⟩
  · have HV : Hid (szLeft n left = left - n) := Lib.hid (by unfold szLeft; rw [if_neg h])
    go_enter Try.func25, Try.ntmps25
    go_wp2
    go_ret
    exact ⟨ret_int HV.out.symm, rfl⟩
set_option maxHeartbeats 1000000 in
theorem markInts_any (lo : Nat) (A : Option Addr) (n c : Nat) (l : List Int) (k : Int) (w : World) (hn : n ≤ 1099511627776) (h0 : 0 ≤ k) (h1 : k ≤ 1099511627776) (hO : OwnInts w lo A n c l) :
    Calls Try.prog 16 #[.slice A n c, .int .i64 k] w fun e w' => e = .returned (.int .i64 (k + n)) ∧ OwnInts w' lo A n c (il n (fun i => k + i)) ∧ w.grownBy w' (A.map (·.block)) := by
  have HO := Lib.hid hO
  clear hO
  go_enter Try.func16, Try.ntmps16
  go_wp2_with fail
  go_loopw [5, 1] (fun i v wr => ∃ j : Nat, j ≤ n ∧ i = .int .i64 j ∧ v = .int .i64 (k + j) ∧ OwnInts wr lo A n c (il n (fun i => if i < j then k + i else l.getD i 0)) ∧ w.grownBy wr (A.map (·.block))) (fun i _ _ => n - (intOf i).toNat)
  case atStart =>
    refine ⟨0, by omega, rfl, by simp, ?_, grown_refl _ _⟩
    rw [il_congr n _ (fun i => l.getD i 0) (fun i _ => by simp), il_self l n HO.out.len]
    exact HO.out
  case round =>
    obtain ⟨j, hj, rfl, rfl, hO, hG⟩ := hrel
    by_cases hlt : j < n
    · obtain ⟨g, rfl⟩ := hO.at (by omega)
      have hji : (j : Int) < n := by omega
      have hc := hO.cell j hlt
      have hf := hO.frozen j
      have HN := Lib.hid (hO.set j (k + j))
      clear hO HO
      have H2 : Hid (k + (j : Int) + 1 = k + ((j + 1 : Nat) : Int)) := Lib.hid (by omega)
      go_wp2
      go_roundw
      case rel =>
        refine ⟨j + 1, by omega, by go_num, by rw [H2.out], ?_, grown_step hG (grown_set _ _ _ _)⟩
        have h := HN.out
        rw [il_set] at h
        rw [il_congr n _ (fun i => if i = j then k + (j : Int) else if i < j then k + (i : Int) else l.getD i 0) (fun i _ => by
          by_cases h1 : i = j
          · subst h1; simp
          · by_cases h2 : i < j
            · rw [if_pos (by omega), if_neg h1, if_pos h2]
            · rw [if_neg (by omega), if_neg h1, if_neg h2])]
        exact h
      case measure => simp [intOf]; omega
    · obtain rfl : j = n := by omega
      have HO2 := Lib.hid hO
      clear hO HO
      go_wp2
      go_ret
      refine ⟨rfl, ?_, hG⟩
      rw [il_congr j (fun i => k + (i : Int)) (fun i => if i < j then k + (i : Int) else l.getD i 0) (fun i hi => by rw [if_pos hi])]
      exact HO2.out
set_option maxHeartbeats 1000000 in
theorem heldInts_any (lo : Nat) (A : Option Addr) (n c : Nat) (k : Int) (w : World) (hn : n ≤ 1099511627776) (h0 : 0 ≤ k) (h1 : k ≤ 1099511627776) (hO : OwnInts w lo A n c (il n (fun i => k + i))) :
    Calls Try.prog 33 #[.slice A n c, .int .i64 k] w fun e w' => e = .returned (.int .i64 (k + n)) ∧ Keeps w w' := by
  have HO := Lib.hid hO
  clear hO
  go_enter Try.func33, Try.ntmps33
  go_wp2_with fail
  go_loopw [5, 1] (fun i v wr => ∃ j : Nat, j ≤ n ∧ i = .int .i64 j ∧ v = .int .i64 (k + j) ∧ Keeps w wr) (fun i _ _ => n - (intOf i).toNat)
  case atStart => exact ⟨0, by omega, rfl, by simp, Keeps.refl _⟩
  case round =>
    obtain ⟨j, hj, rfl, rfl, hK⟩ := hrel
    by_cases hlt : j < n
    · obtain ⟨g, rfl⟩ := HO.out.at (by omega)
      have hji : (j : Int) < n := by omega
      have hc := (HO.out.keeps hK).cell j hlt
      rw [il_getD _ _ _ hlt] at hc
      have H2 : Hid (k + (j : Int) + 1 = k + ((j + 1 : Nat) : Int)) := Lib.hid (by omega)
      have hne : (k + (j : Int) != k + (j : Int)) = false := by simp
      go_wp2
      go_roundw
      case rel => exact ⟨j + 1, by omega, by go_num, by rw [H2.out], hK⟩
      case measure => simp [intOf]; omega
    · obtain rfl : j = n := by omega
      go_wp2
      go_ret
      exact ⟨rfl, hK⟩
end Go.Proofs.Ytknmbhlkppikpaa
