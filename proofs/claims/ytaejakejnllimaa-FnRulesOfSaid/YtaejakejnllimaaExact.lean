/-
  The contracts of the exact laws' words on []int: toIntS, szIntS, markIntS, heldIntS. Conditions: bounds on lengths and numbers.
-/
import Derived.Test.YtaejakejnllimaaOwnSet
import Derived.Test.YtaejakejnllimaaEq
namespace Go.Proofs.Ytaejakejnllimaa
open Go.RowKit

/-- What is left of a bound. -/
def szLeft (n : Nat) (left : Int) : Int := if left - n < 0 then -1 else left - n
end Go.Proofs.Ytaejakejnllimaa
