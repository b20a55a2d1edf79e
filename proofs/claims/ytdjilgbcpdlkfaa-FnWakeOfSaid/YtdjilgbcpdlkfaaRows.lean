/-
  No cell of these rows narrows 'for every input' (looked for: loops, veiled, ifaces, maps, wideKeys, modest, calm, conditions, laid).
  DERIVED. THE GIVEN ROWS OF THIS SEAT. 9 by the template 'for every input the law returns true; each argument reads behind the call as it read before'; 0 by the template 'total and deterministic' (their statements: YtdjilgbcpdlkfaaTotals.lean).
  GIVEN WITH THE SEED: the statements are not yours to turn. If you find one false, say at which input.
  Laid BY PROGRAM, IN A SANDBOX (cutbox-rows.mjs): the forced cells as the released guide's own fill.sh prints them over the translation 94f53efcb392f06b… (all of the seat's roots in one cut). By AI agents, Wed Nov 11 2026. No macro, syntax, notation, axiom, sorry.
-/
import Derived.Test.YtdjilgbcpdlkfaaChecked
import GoSem.Claim
import GoSem.ClaimJoined
import GoSem.ClaimMapViews
import Derived.JoinedTies
import Derived.KernelRfl
namespace Go.Proofs.Ytdjilgbcpdlkfaa
/- THE CELL 'sum', in the pinned program and in every row, IS THE sha256 OF THE DUMP (.gsa) THAT YtdjilgbcpdlkfaaProg.lean LOADS. Nothing in Lean hashes anything: it is a label: what it is worth is what the hold of that sum in a sandbox is worth. -/
noncomputable def Try.pinned : Pinned := { name := "ytdjilgbcpdlkfaa", sum := "94f53efcb392f06b7ed55b6b853b5d034789e3b93d44929effdc4ce419598137", checked := Try.checked }
namespace Rows
def none {H : Type} : Left H := { results := [], args := [] }

/-- 'laws.FnRingOf': WHATEVER THE INPUT: true; the input reads as it did. -/
def fnRingOfSpec : ChangeSpec := { name := "fnRingOf", fn := fun _ => fun
  | [d] => { results := [.lit (.bool true)], args := [d] }
  | _ => none }
def fnRingOfRow : OpenClaim := { program := "ytdjilgbcpdlkfaa", sum := "94f53efcb392f06b7ed55b6b853b5d034789e3b93d44929effdc4ce419598137", func := "loop.example/ringsandrounds/laws.FnRingOf", spec := "fnRingOf", unfollowed := true, recurses := true, apart := false }
def FnRingOfSaid : Prop := fnRingOfRow.holds Try.pinned (OpenSpec.ofChange fnRingOfSpec)

/-- ITS FALSE NEIGHBOUR: 'it returns false'. Refute it at one input. -/
def fnRingOfWrong : ChangeSpec := { name := "fnRingOf", fn := fun _ => fun
  | [d] => { results := [.lit (.bool false)], args := [d] }
  | _ => none }
def FnRingOfWrongFalsely : Prop := fnRingOfRow.holds Try.pinned (OpenSpec.ofChange fnRingOfWrong)

/-- 'laws.FnFarsOf': WHATEVER THE INPUT: true; the input reads as it did. -/
def fnFarsOfSpec : ChangeSpec := { name := "fnFarsOf", fn := fun _ => fun
  | [d] => { results := [.lit (.bool true)], args := [d] }
  | _ => none }
def fnFarsOfRow : OpenClaim := { program := "ytdjilgbcpdlkfaa", sum := "94f53efcb392f06b7ed55b6b853b5d034789e3b93d44929effdc4ce419598137", func := "loop.example/ringsandrounds/laws.FnFarsOf", spec := "fnFarsOf", unfollowed := true, recurses := true, apart := false }
def FnFarsOfSaid : Prop := fnFarsOfRow.holds Try.pinned (OpenSpec.ofChange fnFarsOfSpec)

/-- ITS FALSE NEIGHBOUR: 'it returns false'. Refute it at one input. -/
def fnFarsOfWrong : ChangeSpec := { name := "fnFarsOf", fn := fun _ => fun
  | [d] => { results := [.lit (.bool false)], args := [d] }
  | _ => none }
def FnFarsOfWrongFalsely : Prop := fnFarsOfRow.holds Try.pinned (OpenSpec.ofChange fnFarsOfWrong)

/-- 'laws.FnValidNet': WHATEVER THE INPUT: true; the input reads as it did. -/
def fnValidNetSpec : ChangeSpec := { name := "fnValidNet", fn := fun _ => fun
  | [d] => { results := [.lit (.bool true)], args := [d] }
  | _ => none }
def fnValidNetRow : OpenClaim := { program := "ytdjilgbcpdlkfaa", sum := "94f53efcb392f06b7ed55b6b853b5d034789e3b93d44929effdc4ce419598137", func := "loop.example/ringsandrounds/laws.FnValidNet", spec := "fnValidNet", unfollowed := true, recurses := true, apart := false }
def FnValidNetSaid : Prop := fnValidNetRow.holds Try.pinned (OpenSpec.ofChange fnValidNetSpec)

/-- ITS FALSE NEIGHBOUR: 'it returns false'. Refute it at one input. -/
def fnValidNetWrong : ChangeSpec := { name := "fnValidNet", fn := fun _ => fun
  | [d] => { results := [.lit (.bool false)], args := [d] }
  | _ => none }
def FnValidNetWrongFalsely : Prop := fnValidNetRow.holds Try.pinned (OpenSpec.ofChange fnValidNetWrong)

/-- 'laws.FnWidthOf': WHATEVER THE INPUT: true; the input reads as it did. -/
def fnWidthOfSpec : ChangeSpec := { name := "fnWidthOf", fn := fun _ => fun
  | [d] => { results := [.lit (.bool true)], args := [d] }
  | _ => none }
def fnWidthOfRow : OpenClaim := { program := "ytdjilgbcpdlkfaa", sum := "94f53efcb392f06b7ed55b6b853b5d034789e3b93d44929effdc4ce419598137", func := "loop.example/ringsandrounds/laws.FnWidthOf", spec := "fnWidthOf", unfollowed := true, recurses := true, apart := false }
def FnWidthOfSaid : Prop := fnWidthOfRow.holds Try.pinned (OpenSpec.ofChange fnWidthOfSpec)

/-- ITS FALSE NEIGHBOUR: 'it returns false'. Refute it at one input. -/
def fnWidthOfWrong : ChangeSpec := { name := "fnWidthOf", fn := fun _ => fun
  | [d] => { results := [.lit (.bool false)], args := [d] }
  | _ => none }
def FnWidthOfWrongFalsely : Prop := fnWidthOfRow.holds Try.pinned (OpenSpec.ofChange fnWidthOfWrong)

/-- 'laws.FnFloodOf': WHATEVER THE INPUT: true; the input reads as it did. -/
def fnFloodOfSpec : ChangeSpec := { name := "fnFloodOf", fn := fun _ => fun
  | [d] => { results := [.lit (.bool true)], args := [d] }
  | _ => none }
def fnFloodOfRow : OpenClaim := { program := "ytdjilgbcpdlkfaa", sum := "94f53efcb392f06b7ed55b6b853b5d034789e3b93d44929effdc4ce419598137", func := "loop.example/ringsandrounds/laws.FnFloodOf", spec := "fnFloodOf", unfollowed := true, recurses := true, apart := false }
def FnFloodOfSaid : Prop := fnFloodOfRow.holds Try.pinned (OpenSpec.ofChange fnFloodOfSpec)

/-- ITS FALSE NEIGHBOUR: 'it returns false'. Refute it at one input. -/
def fnFloodOfWrong : ChangeSpec := { name := "fnFloodOf", fn := fun _ => fun
  | [d] => { results := [.lit (.bool false)], args := [d] }
  | _ => none }
def FnFloodOfWrongFalsely : Prop := fnFloodOfRow.holds Try.pinned (OpenSpec.ofChange fnFloodOfWrong)

/-- 'laws.FnClassesAt': WHATEVER THE INPUT: true; the input reads as it did. -/
def fnClassesAtSpec : ChangeSpec := { name := "fnClassesAt", fn := fun _ => fun
  | [d] => { results := [.lit (.bool true)], args := [d] }
  | _ => none }
def fnClassesAtRow : OpenClaim := { program := "ytdjilgbcpdlkfaa", sum := "94f53efcb392f06b7ed55b6b853b5d034789e3b93d44929effdc4ce419598137", func := "loop.example/ringsandrounds/laws.FnClassesAt", spec := "fnClassesAt", unfollowed := true, recurses := true, apart := false }
def FnClassesAtSaid : Prop := fnClassesAtRow.holds Try.pinned (OpenSpec.ofChange fnClassesAtSpec)

/-- ITS FALSE NEIGHBOUR: 'it returns false'. Refute it at one input. -/
def fnClassesAtWrong : ChangeSpec := { name := "fnClassesAt", fn := fun _ => fun
  | [d] => { results := [.lit (.bool false)], args := [d] }
  | _ => none }
def FnClassesAtWrongFalsely : Prop := fnClassesAtRow.holds Try.pinned (OpenSpec.ofChange fnClassesAtWrong)

/-- 'laws.FnWakeOf': WHATEVER THE INPUT: true; the input reads as it did. -/
def fnWakeOfSpec : ChangeSpec := { name := "fnWakeOf", fn := fun _ => fun
  | [d] => { results := [.lit (.bool true)], args := [d] }
  | _ => none }
def fnWakeOfRow : OpenClaim := { program := "ytdjilgbcpdlkfaa", sum := "94f53efcb392f06b7ed55b6b853b5d034789e3b93d44929effdc4ce419598137", func := "loop.example/ringsandrounds/laws.FnWakeOf", spec := "fnWakeOf", unfollowed := true, recurses := true, apart := false }
def FnWakeOfSaid : Prop := fnWakeOfRow.holds Try.pinned (OpenSpec.ofChange fnWakeOfSpec)

/-- ITS FALSE NEIGHBOUR: 'it returns false'. Refute it at one input. -/
def fnWakeOfWrong : ChangeSpec := { name := "fnWakeOf", fn := fun _ => fun
  | [d] => { results := [.lit (.bool false)], args := [d] }
  | _ => none }
def FnWakeOfWrongFalsely : Prop := fnWakeOfRow.holds Try.pinned (OpenSpec.ofChange fnWakeOfWrong)

/-- 'laws.FnIsElectable': WHATEVER THE INPUT: true; the input reads as it did. -/
def fnIsElectableSpec : ChangeSpec := { name := "fnIsElectable", fn := fun _ => fun
  | [d] => { results := [.lit (.bool true)], args := [d] }
  | _ => none }
def fnIsElectableRow : OpenClaim := { program := "ytdjilgbcpdlkfaa", sum := "94f53efcb392f06b7ed55b6b853b5d034789e3b93d44929effdc4ce419598137", func := "loop.example/ringsandrounds/laws.FnIsElectable", spec := "fnIsElectable", unfollowed := true, recurses := true, apart := false }
def FnIsElectableSaid : Prop := fnIsElectableRow.holds Try.pinned (OpenSpec.ofChange fnIsElectableSpec)

/-- ITS FALSE NEIGHBOUR: 'it returns false'. Refute it at one input. -/
def fnIsElectableWrong : ChangeSpec := { name := "fnIsElectable", fn := fun _ => fun
  | [d] => { results := [.lit (.bool false)], args := [d] }
  | _ => none }
def FnIsElectableWrongFalsely : Prop := fnIsElectableRow.holds Try.pinned (OpenSpec.ofChange fnIsElectableWrong)

/-- 'laws.FnSettledAt': WHATEVER THE INPUT: true; the input reads as it did. -/
def fnSettledAtSpec : ChangeSpec := { name := "fnSettledAt", fn := fun _ => fun
  | [d] => { results := [.lit (.bool true)], args := [d] }
  | _ => none }
def fnSettledAtRow : OpenClaim := { program := "ytdjilgbcpdlkfaa", sum := "94f53efcb392f06b7ed55b6b853b5d034789e3b93d44929effdc4ce419598137", func := "loop.example/ringsandrounds/laws.FnSettledAt", spec := "fnSettledAt", unfollowed := true, recurses := true, apart := false }
def FnSettledAtSaid : Prop := fnSettledAtRow.holds Try.pinned (OpenSpec.ofChange fnSettledAtSpec)

/-- ITS FALSE NEIGHBOUR: 'it returns false'. Refute it at one input. -/
def fnSettledAtWrong : ChangeSpec := { name := "fnSettledAt", fn := fun _ => fun
  | [d] => { results := [.lit (.bool false)], args := [d] }
  | _ => none }
def FnSettledAtWrongFalsely : Prop := fnSettledAtRow.holds Try.pinned (OpenSpec.ofChange fnSettledAtWrong)

/- THE SECOND FORM. 'bulk': how many values and letters a reading holds, each counted each time it is reached (what is shared counts as often as it is met; a slice's spare places count too). A statement '..UptoSaid' is the law's where the arguments, and the package variables that the reading takes, are together of bulk at most 1048576: NARROWER than '..Said'. Prove '..Said' where nothing that the law and all that it calls make is longer than what came in: it says more and counts as full. Else prove '..UptoSaid'. A law counts once. -/
mutual
def uptoBulk {H : Type} : DataW H → Nat
  | .lit (.string bytes) => bytes.length + 1
  | .lit _ => 1
  | .nil => 1
  | .ptr d => uptoBulk d + 1
  | .slice elems spare => uptoBulkAll elems + uptoBulkAll spare + 1
  | .agg parts => uptoBulkAll parts + 1
  | .iface _ d => uptoBulk d + 1
  | .map entries => uptoBulkEntries entries + 1
  | .held _ => 1
def uptoBulkAll {H : Type} : List (DataW H) → Nat
  | [] => 0
  | d :: r => uptoBulk d + uptoBulkAll r
def uptoBulkEntries {H : Type} : List (Lit × DataW H) → Nat
  | [] => 0
  | x :: r => uptoBulkEntry x + uptoBulkEntries r
def uptoBulkEntry {H : Type} : Lit × DataW H → Nat
  | (.string bytes, d) => bytes.length + uptoBulk d + 1
  | (_, d) => uptoBulk d + 1
 end
def uptoSmall : (H : Type) → List (DataW H) → Bool := fun _ ds => decide (uptoBulkAll ds ≤ 1048576)
def OpenSpec.upto (s : _root_.Go.ChangeSpec) : _root_.Go.OpenSpec := { _root_.Go.OpenSpec.ofChange s with cond := some uptoSmall }

/-- 'laws.FnRingOf', WHERE WHAT IT READS IS OF BULK AT MOST 1048576: true; the input reads as it did. -/
def fnRingOfUptoRow : OpenClaim := { program := "ytdjilgbcpdlkfaa", sum := "94f53efcb392f06b7ed55b6b853b5d034789e3b93d44929effdc4ce419598137", func := "loop.example/ringsandrounds/laws.FnRingOf", spec := "fnRingOf", unfollowed := true, recurses := true, apart := false, narrowed := true }
def FnRingOfUptoSaid : Prop := fnRingOfUptoRow.holds Try.pinned (OpenSpec.upto fnRingOfSpec)

/-- 'laws.FnFarsOf', WHERE WHAT IT READS IS OF BULK AT MOST 1048576: true; the input reads as it did. -/
def fnFarsOfUptoRow : OpenClaim := { program := "ytdjilgbcpdlkfaa", sum := "94f53efcb392f06b7ed55b6b853b5d034789e3b93d44929effdc4ce419598137", func := "loop.example/ringsandrounds/laws.FnFarsOf", spec := "fnFarsOf", unfollowed := true, recurses := true, apart := false, narrowed := true }
def FnFarsOfUptoSaid : Prop := fnFarsOfUptoRow.holds Try.pinned (OpenSpec.upto fnFarsOfSpec)

/-- 'laws.FnValidNet', WHERE WHAT IT READS IS OF BULK AT MOST 1048576: true; the input reads as it did. -/
def fnValidNetUptoRow : OpenClaim := { program := "ytdjilgbcpdlkfaa", sum := "94f53efcb392f06b7ed55b6b853b5d034789e3b93d44929effdc4ce419598137", func := "loop.example/ringsandrounds/laws.FnValidNet", spec := "fnValidNet", unfollowed := true, recurses := true, apart := false, narrowed := true }
def FnValidNetUptoSaid : Prop := fnValidNetUptoRow.holds Try.pinned (OpenSpec.upto fnValidNetSpec)

/-- 'laws.FnWidthOf', WHERE WHAT IT READS IS OF BULK AT MOST 1048576: true; the input reads as it did. -/
def fnWidthOfUptoRow : OpenClaim := { program := "ytdjilgbcpdlkfaa", sum := "94f53efcb392f06b7ed55b6b853b5d034789e3b93d44929effdc4ce419598137", func := "loop.example/ringsandrounds/laws.FnWidthOf", spec := "fnWidthOf", unfollowed := true, recurses := true, apart := false, narrowed := true }
def FnWidthOfUptoSaid : Prop := fnWidthOfUptoRow.holds Try.pinned (OpenSpec.upto fnWidthOfSpec)

/-- 'laws.FnFloodOf', WHERE WHAT IT READS IS OF BULK AT MOST 1048576: true; the input reads as it did. -/
def fnFloodOfUptoRow : OpenClaim := { program := "ytdjilgbcpdlkfaa", sum := "94f53efcb392f06b7ed55b6b853b5d034789e3b93d44929effdc4ce419598137", func := "loop.example/ringsandrounds/laws.FnFloodOf", spec := "fnFloodOf", unfollowed := true, recurses := true, apart := false, narrowed := true }
def FnFloodOfUptoSaid : Prop := fnFloodOfUptoRow.holds Try.pinned (OpenSpec.upto fnFloodOfSpec)

/-- 'laws.FnClassesAt', WHERE WHAT IT READS IS OF BULK AT MOST 1048576: true; the input reads as it did. -/
def fnClassesAtUptoRow : OpenClaim := { program := "ytdjilgbcpdlkfaa", sum := "94f53efcb392f06b7ed55b6b853b5d034789e3b93d44929effdc4ce419598137", func := "loop.example/ringsandrounds/laws.FnClassesAt", spec := "fnClassesAt", unfollowed := true, recurses := true, apart := false, narrowed := true }
def FnClassesAtUptoSaid : Prop := fnClassesAtUptoRow.holds Try.pinned (OpenSpec.upto fnClassesAtSpec)

/-- 'laws.FnWakeOf', WHERE WHAT IT READS IS OF BULK AT MOST 1048576: true; the input reads as it did. -/
def fnWakeOfUptoRow : OpenClaim := { program := "ytdjilgbcpdlkfaa", sum := "94f53efcb392f06b7ed55b6b853b5d034789e3b93d44929effdc4ce419598137", func := "loop.example/ringsandrounds/laws.FnWakeOf", spec := "fnWakeOf", unfollowed := true, recurses := true, apart := false, narrowed := true }
def FnWakeOfUptoSaid : Prop := fnWakeOfUptoRow.holds Try.pinned (OpenSpec.upto fnWakeOfSpec)

/-- 'laws.FnIsElectable', WHERE WHAT IT READS IS OF BULK AT MOST 1048576: true; the input reads as it did. -/
def fnIsElectableUptoRow : OpenClaim := { program := "ytdjilgbcpdlkfaa", sum := "94f53efcb392f06b7ed55b6b853b5d034789e3b93d44929effdc4ce419598137", func := "loop.example/ringsandrounds/laws.FnIsElectable", spec := "fnIsElectable", unfollowed := true, recurses := true, apart := false, narrowed := true }
def FnIsElectableUptoSaid : Prop := fnIsElectableUptoRow.holds Try.pinned (OpenSpec.upto fnIsElectableSpec)

/-- 'laws.FnSettledAt', WHERE WHAT IT READS IS OF BULK AT MOST 1048576: true; the input reads as it did. -/
def fnSettledAtUptoRow : OpenClaim := { program := "ytdjilgbcpdlkfaa", sum := "94f53efcb392f06b7ed55b6b853b5d034789e3b93d44929effdc4ce419598137", func := "loop.example/ringsandrounds/laws.FnSettledAt", spec := "fnSettledAt", unfollowed := true, recurses := true, apart := false, narrowed := true }
def FnSettledAtUptoSaid : Prop := fnSettledAtUptoRow.holds Try.pinned (OpenSpec.upto fnSettledAtSpec)

end Rows
end Go.Proofs.Ytdjilgbcpdlkfaa
