/-
  The contracts of the exact laws' words on []int: toIntS, szIntS, markIntS, heldIntS. Conditions: bounds on lengths and numbers.
-/
import Derived.Test.YtpgipkcbdppplaaOwnSet
import Derived.Test.YtpgipkcbdppplaaEq
namespace Go.Proofs.Ytpgipkcbdppplaa
open Go.RowKit

set_option maxHeartbeats 1000000 in
theorem toInts_any (A : Option Addr) (n c : Nat) (x : Nat → Int) (w : World) (hn : n ≤ 1099511627776) (hI : Ints w A n x) :
    Calls Try.prog 10 #[.slice A n c] w fun e w' => ∃ g, e = .returned (.slice (some ⟨g, 0, none⟩) n n) ∧ OwnInts w' w.heap.size (some ⟨g, 0, none⟩) n n (il n x) ∧ Keeps w w' := by
  have HI := Lib.hid hI
  clear hI
  have hmk := make_ints n hn
  go_enter Try.func10, Try.ntmps10
  go_wp2_with fail
  go_loopw [4] (fun i wr => ∃ k : Nat, k ≤ n ∧ i = .int .i64 k ∧ OwnInts wr w.heap.size (some ⟨w.heap.size, 0, none⟩) n n (il n (fun i => if i < k then x i else 0)) ∧ Keeps w wr) (fun i _ => n - (intOf i).toNat)
  case atStart =>
    refine ⟨0, by omega, rfl, ?_, Keeps.alloc _ _⟩
    rw [il_congr n _ (fun _ => 0) (fun i _ => by simp), ← il_zero]
    exact OwnInts.make _ _ _ (Nat.le_refl _) hn
  case round =>
    obtain ⟨k, hk, rfl, hO, hK⟩ := hrel
    by_cases hlt : k < n
    · have hki : (k : Int) < n := by omega
      obtain ⟨d, off, rfl, hcx⟩ := HI.out.keeps hK k hlt
      have hc := hO.cell k hlt
      have hf := hO.frozen k
      have HN := Lib.hid (hO.set k (x k))
      clear hO
      go_wp2
      go_roundw
      case rel =>
        refine ⟨k + 1, by omega, by go_num, ?_, Below.setCell hK (Nat.le_refl _) _⟩
        have h := HN.out
        rw [il_set] at h
        rw [il_congr n _ (fun i => if i = k then x k else if i < k then x i else 0) (fun i _ => by
          by_cases h1 : i = k
          · subst h1; simp
          · by_cases h2 : i < k
            · rw [if_pos (by omega), if_neg h1, if_pos h2]
            · rw [if_neg (by omega), if_neg h1, if_neg h2])]
        exact h
      case measure => simp [intOf]; omega
    · obtain rfl : k = n := by omega
      have HO := Lib.hid hO
      clear hO
      go_wp2
      go_ret
      refine ⟨_, rfl, ?_, hK⟩
      rw [il_congr k x (fun i => if i < k then x i else 0) (fun i hi => by rw [if_pos hi])]
      exact HO.out
/-- What is left of a bound. -/
def szLeft (n : Nat) (left : Int) : Int := if left - n < 0 then -1 else left - n
end Go.Proofs.Ytpgipkcbdppplaa
