/-
  No cell of these rows narrows 'for every input' (looked for: loops, veiled, ifaces, maps, wideKeys, modest, calm, conditions, laid).
  DERIVED. THE GIVEN ROWS OF THIS SEAT. 6 by the template 'for every input the law returns true; each argument reads behind the call as it read before'; 0 by the template 'total and deterministic' (their statements: YtaejakejnllimaaTotals.lean).
  GIVEN WITH THE SEED: the statements are not yours to turn. If you find one false, say at which input.
  Laid BY PROGRAM, IN A SANDBOX (cutbox-rows.mjs): the forced cells as the released guide's own fill.sh prints them over the translation 292003c284e0683b… (all of the seat's roots in one cut). By AI agents, Wed Nov 11 2026. No macro, syntax, notation, axiom, sorry.
-/
import Derived.Test.YtaejakejnllimaaChecked
import GoSem.Claim
import GoSem.ClaimJoined
import GoSem.ClaimMapViews
import Derived.JoinedTies
import Derived.KernelRfl
namespace Go.Proofs.Ytaejakejnllimaa
/- THE CELL 'sum', in the pinned program and in every row, IS THE sha256 OF THE DUMP (.gsa) THAT YtaejakejnllimaaProg.lean LOADS. Nothing in Lean hashes anything: it is a label: what it is worth is what the hold of that sum in a sandbox is worth. -/
noncomputable def Try.pinned : Pinned := { name := "ytaejakejnllimaa", sum := "292003c284e0683ba9a591c796a7f48b15a4f4fdbbbff682cec348dc0f17365a", checked := Try.checked }
namespace Rows
def none {H : Type} : Left H := { results := [], args := [] }

/-- 'laws.FnVerdictOf': WHATEVER THE INPUT: true; the input reads as it did. -/
def fnVerdictOfSpec : ChangeSpec := { name := "fnVerdictOf", fn := fun _ => fun
  | [d] => { results := [.lit (.bool true)], args := [d] }
  | _ => none }
def fnVerdictOfRow : OpenClaim := { program := "ytaejakejnllimaa", sum := "292003c284e0683ba9a591c796a7f48b15a4f4fdbbbff682cec348dc0f17365a", func := "loop.example/ringsandrounds/laws.FnVerdictOf", spec := "fnVerdictOf", unfollowed := true, recurses := true, apart := false }
def FnVerdictOfSaid : Prop := fnVerdictOfRow.holds Try.pinned (OpenSpec.ofChange fnVerdictOfSpec)

/-- ITS FALSE NEIGHBOUR: 'it returns false'. Refute it at one input. -/
def fnVerdictOfWrong : ChangeSpec := { name := "fnVerdictOf", fn := fun _ => fun
  | [d] => { results := [.lit (.bool false)], args := [d] }
  | _ => none }
def FnVerdictOfWrongFalsely : Prop := fnVerdictOfRow.holds Try.pinned (OpenSpec.ofChange fnVerdictOfWrong)

/-- 'laws.FnValidRules': WHATEVER THE INPUT: true; the input reads as it did. -/
def fnValidRulesSpec : ChangeSpec := { name := "fnValidRules", fn := fun _ => fun
  | [d] => { results := [.lit (.bool true)], args := [d] }
  | _ => none }
def fnValidRulesRow : OpenClaim := { program := "ytaejakejnllimaa", sum := "292003c284e0683ba9a591c796a7f48b15a4f4fdbbbff682cec348dc0f17365a", func := "loop.example/ringsandrounds/laws.FnValidRules", spec := "fnValidRules", unfollowed := true, recurses := true, apart := false }
def FnValidRulesSaid : Prop := fnValidRulesRow.holds Try.pinned (OpenSpec.ofChange fnValidRulesSpec)

/-- ITS FALSE NEIGHBOUR: 'it returns false'. Refute it at one input. -/
def fnValidRulesWrong : ChangeSpec := { name := "fnValidRules", fn := fun _ => fun
  | [d] => { results := [.lit (.bool false)], args := [d] }
  | _ => none }
def FnValidRulesWrongFalsely : Prop := fnValidRulesRow.holds Try.pinned (OpenSpec.ofChange fnValidRulesWrong)

/-- 'laws.FnRulesOf': WHATEVER THE INPUT: true; the input reads as it did. -/
def fnRulesOfSpec : ChangeSpec := { name := "fnRulesOf", fn := fun _ => fun
  | [d] => { results := [.lit (.bool true)], args := [d] }
  | _ => none }
def fnRulesOfRow : OpenClaim := { program := "ytaejakejnllimaa", sum := "292003c284e0683ba9a591c796a7f48b15a4f4fdbbbff682cec348dc0f17365a", func := "loop.example/ringsandrounds/laws.FnRulesOf", spec := "fnRulesOf", unfollowed := true, recurses := true, apart := false }
def FnRulesOfSaid : Prop := fnRulesOfRow.holds Try.pinned (OpenSpec.ofChange fnRulesOfSpec)

/-- ITS FALSE NEIGHBOUR: 'it returns false'. Refute it at one input. -/
def fnRulesOfWrong : ChangeSpec := { name := "fnRulesOf", fn := fun _ => fun
  | [d] => { results := [.lit (.bool false)], args := [d] }
  | _ => none }
def FnRulesOfWrongFalsely : Prop := fnRulesOfRow.holds Try.pinned (OpenSpec.ofChange fnRulesOfWrong)

/-- 'laws.FnNextOf': WHATEVER THE INPUT: true; the input reads as it did. -/
def fnNextOfSpec : ChangeSpec := { name := "fnNextOf", fn := fun _ => fun
  | [d] => { results := [.lit (.bool true)], args := [d] }
  | _ => none }
def fnNextOfRow : OpenClaim := { program := "ytaejakejnllimaa", sum := "292003c284e0683ba9a591c796a7f48b15a4f4fdbbbff682cec348dc0f17365a", func := "loop.example/ringsandrounds/laws.FnNextOf", spec := "fnNextOf", unfollowed := true, recurses := true, apart := false }
def FnNextOfSaid : Prop := fnNextOfRow.holds Try.pinned (OpenSpec.ofChange fnNextOfSpec)

/-- ITS FALSE NEIGHBOUR: 'it returns false'. Refute it at one input. -/
def fnNextOfWrong : ChangeSpec := { name := "fnNextOf", fn := fun _ => fun
  | [d] => { results := [.lit (.bool false)], args := [d] }
  | _ => none }
def FnNextOfWrongFalsely : Prop := fnNextOfRow.holds Try.pinned (OpenSpec.ofChange fnNextOfWrong)

/-- 'laws.FnReachedOf': WHATEVER THE INPUT: true; the input reads as it did. -/
def fnReachedOfSpec : ChangeSpec := { name := "fnReachedOf", fn := fun _ => fun
  | [d] => { results := [.lit (.bool true)], args := [d] }
  | _ => none }
def fnReachedOfRow : OpenClaim := { program := "ytaejakejnllimaa", sum := "292003c284e0683ba9a591c796a7f48b15a4f4fdbbbff682cec348dc0f17365a", func := "loop.example/ringsandrounds/laws.FnReachedOf", spec := "fnReachedOf", unfollowed := true, recurses := true, apart := false }
def FnReachedOfSaid : Prop := fnReachedOfRow.holds Try.pinned (OpenSpec.ofChange fnReachedOfSpec)

/-- ITS FALSE NEIGHBOUR: 'it returns false'. Refute it at one input. -/
def fnReachedOfWrong : ChangeSpec := { name := "fnReachedOf", fn := fun _ => fun
  | [d] => { results := [.lit (.bool false)], args := [d] }
  | _ => none }
def FnReachedOfWrongFalsely : Prop := fnReachedOfRow.holds Try.pinned (OpenSpec.ofChange fnReachedOfWrong)

/-- 'laws.FnSteadyOf': WHATEVER THE INPUT: true; the input reads as it did. -/
def fnSteadyOfSpec : ChangeSpec := { name := "fnSteadyOf", fn := fun _ => fun
  | [d] => { results := [.lit (.bool true)], args := [d] }
  | _ => none }
def fnSteadyOfRow : OpenClaim := { program := "ytaejakejnllimaa", sum := "292003c284e0683ba9a591c796a7f48b15a4f4fdbbbff682cec348dc0f17365a", func := "loop.example/ringsandrounds/laws.FnSteadyOf", spec := "fnSteadyOf", unfollowed := true, recurses := true, apart := false }
def FnSteadyOfSaid : Prop := fnSteadyOfRow.holds Try.pinned (OpenSpec.ofChange fnSteadyOfSpec)

/-- ITS FALSE NEIGHBOUR: 'it returns false'. Refute it at one input. -/
def fnSteadyOfWrong : ChangeSpec := { name := "fnSteadyOf", fn := fun _ => fun
  | [d] => { results := [.lit (.bool false)], args := [d] }
  | _ => none }
def FnSteadyOfWrongFalsely : Prop := fnSteadyOfRow.holds Try.pinned (OpenSpec.ofChange fnSteadyOfWrong)

/- THE SECOND FORM. 'bulk': how many values and letters a reading holds, each counted each time it is reached (what is shared counts as often as it is met; a slice's spare places count too). A statement '..UptoSaid' is the law's where the arguments, and the package variables that the reading takes, are together of bulk at most 1048576: NARROWER than '..Said'. Prove '..Said' where nothing that the law and all that it calls make is longer than what came in: it says more and counts as full. Else prove '..UptoSaid'. A law counts once. -/
mutual
def uptoBulk {H : Type} : DataW H → Nat
  | .lit (.string bytes) => bytes.length + 1
  | .lit _ => 1
  | .nil => 1
  | .ptr d => uptoBulk d + 1
  | .slice elems spare => uptoBulkAll elems + uptoBulkAll spare + 1
  | .agg parts => uptoBulkAll parts + 1
  | .iface _ d => uptoBulk d + 1
  | .map entries => uptoBulkEntries entries + 1
  | .held _ => 1
def uptoBulkAll {H : Type} : List (DataW H) → Nat
  | [] => 0
  | d :: r => uptoBulk d + uptoBulkAll r
def uptoBulkEntries {H : Type} : List (Lit × DataW H) → Nat
  | [] => 0
  | x :: r => uptoBulkEntry x + uptoBulkEntries r
def uptoBulkEntry {H : Type} : Lit × DataW H → Nat
  | (.string bytes, d) => bytes.length + uptoBulk d + 1
  | (_, d) => uptoBulk d + 1
 end
def uptoSmall : (H : Type) → List (DataW H) → Bool := fun _ ds => decide (uptoBulkAll ds ≤ 1048576)
def OpenSpec.upto (s : _root_.Go.ChangeSpec) : _root_.Go.OpenSpec := { _root_.Go.OpenSpec.ofChange s with cond := some uptoSmall }

/-- 'laws.FnVerdictOf', WHERE WHAT IT READS IS OF BULK AT MOST 1048576: true; the input reads as it did. -/
def fnVerdictOfUptoRow : OpenClaim := { program := "ytaejakejnllimaa", sum := "292003c284e0683ba9a591c796a7f48b15a4f4fdbbbff682cec348dc0f17365a", func := "loop.example/ringsandrounds/laws.FnVerdictOf", spec := "fnVerdictOf", unfollowed := true, recurses := true, apart := false, narrowed := true }
def FnVerdictOfUptoSaid : Prop := fnVerdictOfUptoRow.holds Try.pinned (OpenSpec.upto fnVerdictOfSpec)

/-- 'laws.FnValidRules', WHERE WHAT IT READS IS OF BULK AT MOST 1048576: true; the input reads as it did. -/
def fnValidRulesUptoRow : OpenClaim := { program := "ytaejakejnllimaa", sum := "292003c284e0683ba9a591c796a7f48b15a4f4fdbbbff682cec348dc0f17365a", func := "loop.example/ringsandrounds/laws.FnValidRules", spec := "fnValidRules", unfollowed := true, recurses := true, apart := false, narrowed := true }
def FnValidRulesUptoSaid : Prop := fnValidRulesUptoRow.holds Try.pinned (OpenSpec.upto fnValidRulesSpec)

/-- 'laws.FnRulesOf', WHERE WHAT IT READS IS OF BULK AT MOST 1048576: true; the input reads as it did. -/
def fnRulesOfUptoRow : OpenClaim := { program := "ytaejakejnllimaa", sum := "292003c284e0683ba9a591c796a7f48b15a4f4fdbbbff682cec348dc0f17365a", func := "loop.example/ringsandrounds/laws.FnRulesOf", spec := "fnRulesOf", unfollowed := true, recurses := true, apart := false, narrowed := true }
def FnRulesOfUptoSaid : Prop := fnRulesOfUptoRow.holds Try.pinned (OpenSpec.upto fnRulesOfSpec)

/-- 'laws.FnNextOf', WHERE WHAT IT READS IS OF BULK AT MOST 1048576: true; the input reads as it did. -/
def fnNextOfUptoRow : OpenClaim := { program := "ytaejakejnllimaa", sum := "292003c284e0683ba9a591c796a7f48b15a4f4fdbbbff682cec348dc0f17365a", func := "loop.example/ringsandrounds/laws.FnNextOf", spec := "fnNextOf", unfollowed := true, recurses := true, apart := false, narrowed := true }
def FnNextOfUptoSaid : Prop := fnNextOfUptoRow.holds Try.pinned (OpenSpec.upto fnNextOfSpec)

/-- 'laws.FnReachedOf', WHERE WHAT IT READS IS OF BULK AT MOST 1048576: true; the input reads as it did. -/
def fnReachedOfUptoRow : OpenClaim := { program := "ytaejakejnllimaa", sum := "292003c284e0683ba9a591c796a7f48b15a4f4fdbbbff682cec348dc0f17365a", func := "loop.example/ringsandrounds/laws.FnReachedOf", spec := "fnReachedOf", unfollowed := true, recurses := true, apart := false, narrowed := true }
def FnReachedOfUptoSaid : Prop := fnReachedOfUptoRow.holds Try.pinned (OpenSpec.upto fnReachedOfSpec)

/-- 'laws.FnSteadyOf', WHERE WHAT IT READS IS OF BULK AT MOST 1048576: true; the input reads as it did. -/
def fnSteadyOfUptoRow : OpenClaim := { program := "ytaejakejnllimaa", sum := "292003c284e0683ba9a591c796a7f48b15a4f4fdbbbff682cec348dc0f17365a", func := "loop.example/ringsandrounds/laws.FnSteadyOf", spec := "fnSteadyOf", unfollowed := true, recurses := true, apart := false, narrowed := true }
def FnSteadyOfUptoSaid : Prop := fnSteadyOfUptoRow.holds Try.pinned (OpenSpec.upto fnSteadyOfSpec)

end Rows
end Go.Proofs.Ytaejakejnllimaa
