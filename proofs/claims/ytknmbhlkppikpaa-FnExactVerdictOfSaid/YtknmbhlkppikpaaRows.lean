/-
  No cell of these rows narrows 'for every input' (looked for: loops, veiled, ifaces, maps, wideKeys, modest, calm, conditions, laid).
  DERIVED. THE GIVEN ROWS OF THIS SEAT. 4 by the template 'for every input the law returns true; each argument reads behind the call as it read before'; 0 by the template 'total and deterministic' (their statements: YtknmbhlkppikpaaTotals.lean).
  GIVEN WITH THE SEED: the statements are not yours to turn. If you find one false, say at which input.
  Laid BY PROGRAM, IN A SANDBOX (cutbox-rows.mjs): the forced cells as the released guide's own fill.sh prints them over the translation e2750dc661349db6… (all of the seat's roots in one cut). By AI agents, Wed Nov 11 2026. No macro, syntax, notation, axiom, sorry.
-/
import Derived.Test.YtknmbhlkppikpaaChecked
import GoSem.Claim
import GoSem.ClaimJoined
import GoSem.ClaimMapViews
import Derived.JoinedTies
import Derived.KernelRfl
namespace Go.Proofs.Ytknmbhlkppikpaa
/- THE CELL 'sum', in the pinned program and in every row, IS THE sha256 OF THE DUMP (.gsa) THAT YtknmbhlkppikpaaProg.lean LOADS. Nothing in Lean hashes anything: it is a label: what it is worth is what the hold of that sum in a sandbox is worth. -/
noncomputable def Try.pinned : Pinned := { name := "ytknmbhlkppikpaa", sum := "e2750dc661349db6efa17507254ef75e2e3b97d827125b01c1da3e068637907f", checked := Try.checked }
namespace Rows
def none {H : Type} : Left H := { results := [], args := [] }

/-- 'laws.FnExactNextOf': WHATEVER THE INPUT: true; the input reads as it did. -/
def fnExactNextOfSpec : ChangeSpec := { name := "fnExactNextOf", fn := fun _ => fun
  | [d1, d2] => { results := [.lit (.bool true)], args := [d1, d2] }
  | _ => none }
def fnExactNextOfRow : OpenClaim := { program := "ytknmbhlkppikpaa", sum := "e2750dc661349db6efa17507254ef75e2e3b97d827125b01c1da3e068637907f", func := "loop.example/ringsandrounds/laws.FnExactNextOf", spec := "fnExactNextOf", unfollowed := true, recurses := true, apart := false }
def FnExactNextOfSaid : Prop := fnExactNextOfRow.holds Try.pinned (OpenSpec.ofChange fnExactNextOfSpec)

/-- ITS FALSE NEIGHBOUR: 'it returns false'. Refute it at one input. -/
def fnExactNextOfWrong : ChangeSpec := { name := "fnExactNextOf", fn := fun _ => fun
  | [d1, d2] => { results := [.lit (.bool false)], args := [d1, d2] }
  | _ => none }
def FnExactNextOfWrongFalsely : Prop := fnExactNextOfRow.holds Try.pinned (OpenSpec.ofChange fnExactNextOfWrong)

/-- 'laws.FnExactSteadyOf': WHATEVER THE INPUT: true; the input reads as it did. -/
def fnExactSteadyOfSpec : ChangeSpec := { name := "fnExactSteadyOf", fn := fun _ => fun
  | [d1, d2] => { results := [.lit (.bool true)], args := [d1, d2] }
  | _ => none }
def fnExactSteadyOfRow : OpenClaim := { program := "ytknmbhlkppikpaa", sum := "e2750dc661349db6efa17507254ef75e2e3b97d827125b01c1da3e068637907f", func := "loop.example/ringsandrounds/laws.FnExactSteadyOf", spec := "fnExactSteadyOf", unfollowed := true, recurses := true, apart := false }
def FnExactSteadyOfSaid : Prop := fnExactSteadyOfRow.holds Try.pinned (OpenSpec.ofChange fnExactSteadyOfSpec)

/-- ITS FALSE NEIGHBOUR: 'it returns false'. Refute it at one input. -/
def fnExactSteadyOfWrong : ChangeSpec := { name := "fnExactSteadyOf", fn := fun _ => fun
  | [d1, d2] => { results := [.lit (.bool false)], args := [d1, d2] }
  | _ => none }
def FnExactSteadyOfWrongFalsely : Prop := fnExactSteadyOfRow.holds Try.pinned (OpenSpec.ofChange fnExactSteadyOfWrong)

/-- 'laws.FnExactReachedOf': WHATEVER THE INPUT: true; the input reads as it did. -/
def fnExactReachedOfSpec : ChangeSpec := { name := "fnExactReachedOf", fn := fun _ => fun
  | [d1, d2] => { results := [.lit (.bool true)], args := [d1, d2] }
  | _ => none }
def fnExactReachedOfRow : OpenClaim := { program := "ytknmbhlkppikpaa", sum := "e2750dc661349db6efa17507254ef75e2e3b97d827125b01c1da3e068637907f", func := "loop.example/ringsandrounds/laws.FnExactReachedOf", spec := "fnExactReachedOf", unfollowed := true, recurses := true, apart := false }
def FnExactReachedOfSaid : Prop := fnExactReachedOfRow.holds Try.pinned (OpenSpec.ofChange fnExactReachedOfSpec)

/-- ITS FALSE NEIGHBOUR: 'it returns false'. Refute it at one input. -/
def fnExactReachedOfWrong : ChangeSpec := { name := "fnExactReachedOf", fn := fun _ => fun
  | [d1, d2] => { results := [.lit (.bool false)], args := [d1, d2] }
  | _ => none }
def FnExactReachedOfWrongFalsely : Prop := fnExactReachedOfRow.holds Try.pinned (OpenSpec.ofChange fnExactReachedOfWrong)

/-- 'laws.FnExactVerdictOf': WHATEVER THE INPUT: true; the input reads as it did. -/
def fnExactVerdictOfSpec : ChangeSpec := { name := "fnExactVerdictOf", fn := fun _ => fun
  | [d1, d2] => { results := [.lit (.bool true)], args := [d1, d2] }
  | _ => none }
def fnExactVerdictOfRow : OpenClaim := { program := "ytknmbhlkppikpaa", sum := "e2750dc661349db6efa17507254ef75e2e3b97d827125b01c1da3e068637907f", func := "loop.example/ringsandrounds/laws.FnExactVerdictOf", spec := "fnExactVerdictOf", unfollowed := true, recurses := true, apart := false }
def FnExactVerdictOfSaid : Prop := fnExactVerdictOfRow.holds Try.pinned (OpenSpec.ofChange fnExactVerdictOfSpec)

/-- ITS FALSE NEIGHBOUR: 'it returns false'. Refute it at one input. -/
def fnExactVerdictOfWrong : ChangeSpec := { name := "fnExactVerdictOf", fn := fun _ => fun
  | [d1, d2] => { results := [.lit (.bool false)], args := [d1, d2] }
  | _ => none }
def FnExactVerdictOfWrongFalsely : Prop := fnExactVerdictOfRow.holds Try.pinned (OpenSpec.ofChange fnExactVerdictOfWrong)

/- THE SECOND FORM. 'bulk': how many values and letters a reading holds, each counted each time it is reached (what is shared counts as often as it is met; a slice's spare places count too). A statement '..UptoSaid' is the law's where the arguments, and the package variables that the reading takes, are together of bulk at most 1048576: NARROWER than '..Said'. Prove '..Said' where nothing that the law and all that it calls make is longer than what came in: it says more and counts as full. Else prove '..UptoSaid'. A law counts once. -/
mutual
def uptoBulk {H : Type} : DataW H → Nat
  | .lit (.string bytes) => bytes.length + 1
  | .lit _ => 1
  | .nil => 1
  | .ptr d => uptoBulk d + 1
  | .slice elems spare => uptoBulkAll elems + uptoBulkAll spare + 1
  | .agg parts => uptoBulkAll parts + 1
  | .iface _ d => uptoBulk d + 1
  | .map entries => uptoBulkEntries entries + 1
  | .held _ => 1
def uptoBulkAll {H : Type} : List (DataW H) → Nat
  | [] => 0
  | d :: r => uptoBulk d + uptoBulkAll r
def uptoBulkEntries {H : Type} : List (Lit × DataW H) → Nat
  | [] => 0
  | x :: r => uptoBulkEntry x + uptoBulkEntries r
def uptoBulkEntry {H : Type} : Lit × DataW H → Nat
  | (.string bytes, d) => bytes.length + uptoBulk d + 1
  | (_, d) => uptoBulk d + 1
 end
def uptoSmall : (H : Type) → List (DataW H) → Bool := fun _ ds => decide (uptoBulkAll ds ≤ 1048576)
def OpenSpec.upto (s : _root_.Go.ChangeSpec) : _root_.Go.OpenSpec := { _root_.Go.OpenSpec.ofChange s with cond := some uptoSmall }

/-- 'laws.FnExactNextOf', WHERE WHAT IT READS IS OF BULK AT MOST 1048576: true; the input reads as it did. -/
def fnExactNextOfUptoRow : OpenClaim := { program := "ytknmbhlkppikpaa", sum := "e2750dc661349db6efa17507254ef75e2e3b97d827125b01c1da3e068637907f", func := "loop.example/ringsandrounds/laws.FnExactNextOf", spec := "fnExactNextOf", unfollowed := true, recurses := true, apart := false, narrowed := true }
def FnExactNextOfUptoSaid : Prop := fnExactNextOfUptoRow.holds Try.pinned (OpenSpec.upto fnExactNextOfSpec)

/-- 'laws.FnExactSteadyOf', WHERE WHAT IT READS IS OF BULK AT MOST 1048576: true; the input reads as it did. -/
def fnExactSteadyOfUptoRow : OpenClaim := { program := "ytknmbhlkppikpaa", sum := "e2750dc661349db6efa17507254ef75e2e3b97d827125b01c1da3e068637907f", func := "loop.example/ringsandrounds/laws.FnExactSteadyOf", spec := "fnExactSteadyOf", unfollowed := true, recurses := true, apart := false, narrowed := true }
def FnExactSteadyOfUptoSaid : Prop := fnExactSteadyOfUptoRow.holds Try.pinned (OpenSpec.upto fnExactSteadyOfSpec)

/-- 'laws.FnExactReachedOf', WHERE WHAT IT READS IS OF BULK AT MOST 1048576: true; the input reads as it did. -/
def fnExactReachedOfUptoRow : OpenClaim := { program := "ytknmbhlkppikpaa", sum := "e2750dc661349db6efa17507254ef75e2e3b97d827125b01c1da3e068637907f", func := "loop.example/ringsandrounds/laws.FnExactReachedOf", spec := "fnExactReachedOf", unfollowed := true, recurses := true, apart := false, narrowed := true }
def FnExactReachedOfUptoSaid : Prop := fnExactReachedOfUptoRow.holds Try.pinned (OpenSpec.upto fnExactReachedOfSpec)

/-- 'laws.FnExactVerdictOf', WHERE WHAT IT READS IS OF BULK AT MOST 1048576: true; the input reads as it did. -/
def fnExactVerdictOfUptoRow : OpenClaim := { program := "ytknmbhlkppikpaa", sum := "e2750dc661349db6efa17507254ef75e2e3b97d827125b01c1da3e068637907f", func := "loop.example/ringsandrounds/laws.FnExactVerdictOf", spec := "fnExactVerdictOf", unfollowed := true, recurses := true, apart := false, narrowed := true }
def FnExactVerdictOfUptoSaid : Prop := fnExactVerdictOfUptoRow.holds Try.pinned (OpenSpec.upto fnExactVerdictOfSpec)

end Rows
end Go.Proofs.Ytknmbhlkppikpaa
