/-
  What each process knows after rounds: the plain function, and the contract of after (the program). Condition: a valid run, at most four rounds.
-/
import Derived.Test.YtepgogaoppdllaaRunValid
namespace Go.Proofs.Ytepgogaoppdllaa
open Go.RowKit

/-- Hears p the process q in round r? -/
def heard (st : Nat → Int × Int × Int) (m q p r : Nat) : Bool :=
  decide ((r : Int) < (stopF st m q).2.1) || ((stopF st m q).2.1 == r && (stopF st m q).2.2.toNat.testBit p)
/-- acc, and g of the first k that f wants. -/
def orN (f : Nat → Bool) (g : Nat → Nat) (acc : Nat) : Nat → Nat
  | 0 => acc
  | k + 1 => if f k then orN f g acc k ||| g k else orN f g acc k
/-- What p knows after k rounds of a run of n processes. -/
def aft (n : Nat) (st : Nat → Int × Int × Int) (m : Nat) : Nat → Nat → Nat
  | 0, p => 2 ^ p
  | k + 1, p => if (stopF st m p).2.1 < (k + 1 : Nat) then aft n st m k p else orN (fun q => heard st m q p (k + 1)) (aft n st m k) (aft n st m k p) n
theorem orN_lt {f : Nat → Bool} {g : Nat → Nat} {acc W : Nat} : ∀ k, acc < 2 ^ W → (∀ i, i < k → g i < 2 ^ W) → orN f g acc k < 2 ^ W
  | 0, h, _ => h
  | k + 1, h, hg => by
    have ih := orN_lt (f := f) k h (fun i hi => hg i (by omega))
    simp only [orN]
    split
    · exact Nat.or_lt_two_pow ih (hg k (by omega))
    · exact ih
theorem aft_lt (n : Nat) (st : Nat → Int × Int × Int) (m : Nat) : ∀ k p, p < n → aft n st m k p < 2 ^ n
  | 0, p, h => Nat.pow_lt_pow_right (by omega) h
  | k + 1, p, h => by
    simp only [aft]
    split
    · exact aft_lt n st m k p h
    · exact orN_lt n (aft_lt n st m k p h) (fun i hi => aft_lt n st m k i hi)
/-- Four ints as cells. -/
def arr (f : Nat → Nat) : Array Value := #[.int .i64 (f 0), .int .i64 (f 1), .int .i64 (f 2), .int .i64 (f 3)]
theorem arr_get (f : Nat → Nat) (p : Nat) (h : p < 4) : (arr f)[p]? = some (.int .i64 (f p)) := by
  obtain rfl | rfl | rfl | rfl : p = 0 ∨ p = 1 ∨ p = 2 ∨ p = 3 := by omega
  all_goals rfl
theorem arr_set (f : Nat → Nat) (p v : Nat) (h : p < 4) : (arr f).setIfInBounds p (.int .i64 v) = arr (fun i => if i = p then v else f i) := by
  obtain rfl | rfl | rfl | rfl : p = 0 ∨ p = 1 ∨ p = 2 ∨ p = 3 := by omega
  all_goals rfl
/-- The first k of n by f, the others by g. -/
def upTo (k : Nat) (f g : Nat → Nat) (i : Nat) : Nat := if i < k then f i else g i
theorem upTo_set (k : Nat) (f g : Nat → Nat) : (fun i => if i = k then f k else upTo k f g i) = upTo (k + 1) f g := by
  funext i
  unfold upTo
  by_cases h : i = k
  · subst h; simp
  · by_cases h2 : i < k
    · rw [if_neg h, if_pos h2, if_pos (by omega)]
    · rw [if_neg h, if_neg h2, if_neg (by omega)]
end Go.Proofs.Ytepgogaoppdllaa
