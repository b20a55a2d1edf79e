/-
  No cell of these rows narrows 'for every input' (looked for: loops, veiled, ifaces, maps, wideKeys, modest, calm, conditions, laid).
  DERIVED. THE GIVEN ROWS OF THIS SEAT. 8 by the template 'for every input the law returns true; each argument reads behind the call as it read before'; 0 by the template 'total and deterministic' (their statements: YtfjpnjekmjnocaaTotals.lean).
  GIVEN WITH THE SEED: the statements are not yours to turn. If you find one false, say at which input.
  Laid BY PROGRAM, IN A SANDBOX (cutbox-rows.mjs): the forced cells as the released guide's own fill.sh prints them over the translation a78202254c6967bf… (all of the seat's roots in one cut). By AI agents, Wed Nov 11 2026. No macro, syntax, notation, axiom, sorry.
-/
import Derived.Test.YtfjpnjekmjnocaaChecked
import GoSem.Claim
import GoSem.ClaimJoined
import GoSem.ClaimMapViews
import Derived.JoinedTies
import Derived.KernelRfl
namespace Go.Proofs.Ytfjpnjekmjnocaa
/- THE CELL 'sum', in the pinned program and in every row, IS THE sha256 OF THE DUMP (.gsa) THAT YtfjpnjekmjnocaaProg.lean LOADS. Nothing in Lean hashes anything: it is a label: what it is worth is what the hold of that sum in a sandbox is worth. -/
noncomputable def Try.pinned : Pinned := { name := "ytfjpnjekmjnocaa", sum := "a78202254c6967bfcd75ddc4db7037aff6dd55c710b2bf7190bce420fda86d0b", checked := Try.checked }
namespace Rows
def none {H : Type} : Left H := { results := [], args := [] }

/-- 'laws.FnExactValidNet': WHATEVER THE INPUT: true; the input reads as it did. -/
def fnExactValidNetSpec : ChangeSpec := { name := "fnExactValidNet", fn := fun _ => fun
  | [d] => { results := [.lit (.bool true)], args := [d] }
  | _ => none }
def fnExactValidNetRow : OpenClaim := { program := "ytfjpnjekmjnocaa", sum := "a78202254c6967bfcd75ddc4db7037aff6dd55c710b2bf7190bce420fda86d0b", func := "loop.example/ringsandrounds/laws.FnExactValidNet", spec := "fnExactValidNet", unfollowed := true, recurses := true, apart := false }
def FnExactValidNetSaid : Prop := fnExactValidNetRow.holds Try.pinned (OpenSpec.ofChange fnExactValidNetSpec)

/-- ITS FALSE NEIGHBOUR: 'it returns false'. Refute it at one input. -/
def fnExactValidNetWrong : ChangeSpec := { name := "fnExactValidNet", fn := fun _ => fun
  | [d] => { results := [.lit (.bool false)], args := [d] }
  | _ => none }
def FnExactValidNetWrongFalsely : Prop := fnExactValidNetRow.holds Try.pinned (OpenSpec.ofChange fnExactValidNetWrong)

/-- 'laws.FnExactWidthOf': WHATEVER THE INPUT: true; the input reads as it did. -/
def fnExactWidthOfSpec : ChangeSpec := { name := "fnExactWidthOf", fn := fun _ => fun
  | [d] => { results := [.lit (.bool true)], args := [d] }
  | _ => none }
def fnExactWidthOfRow : OpenClaim := { program := "ytfjpnjekmjnocaa", sum := "a78202254c6967bfcd75ddc4db7037aff6dd55c710b2bf7190bce420fda86d0b", func := "loop.example/ringsandrounds/laws.FnExactWidthOf", spec := "fnExactWidthOf", unfollowed := true, recurses := true, apart := false }
def FnExactWidthOfSaid : Prop := fnExactWidthOfRow.holds Try.pinned (OpenSpec.ofChange fnExactWidthOfSpec)

/-- ITS FALSE NEIGHBOUR: 'it returns false'. Refute it at one input. -/
def fnExactWidthOfWrong : ChangeSpec := { name := "fnExactWidthOf", fn := fun _ => fun
  | [d] => { results := [.lit (.bool false)], args := [d] }
  | _ => none }
def FnExactWidthOfWrongFalsely : Prop := fnExactWidthOfRow.holds Try.pinned (OpenSpec.ofChange fnExactWidthOfWrong)

/-- 'laws.FnExactFarsOf': WHATEVER THE INPUT: true; the input reads as it did. -/
def fnExactFarsOfSpec : ChangeSpec := { name := "fnExactFarsOf", fn := fun _ => fun
  | [d1, d2] => { results := [.lit (.bool true)], args := [d1, d2] }
  | _ => none }
def fnExactFarsOfRow : OpenClaim := { program := "ytfjpnjekmjnocaa", sum := "a78202254c6967bfcd75ddc4db7037aff6dd55c710b2bf7190bce420fda86d0b", func := "loop.example/ringsandrounds/laws.FnExactFarsOf", spec := "fnExactFarsOf", unfollowed := true, recurses := true, apart := false }
def FnExactFarsOfSaid : Prop := fnExactFarsOfRow.holds Try.pinned (OpenSpec.ofChange fnExactFarsOfSpec)

/-- ITS FALSE NEIGHBOUR: 'it returns false'. Refute it at one input. -/
def fnExactFarsOfWrong : ChangeSpec := { name := "fnExactFarsOf", fn := fun _ => fun
  | [d1, d2] => { results := [.lit (.bool false)], args := [d1, d2] }
  | _ => none }
def FnExactFarsOfWrongFalsely : Prop := fnExactFarsOfRow.holds Try.pinned (OpenSpec.ofChange fnExactFarsOfWrong)

/-- 'laws.FnExactFloodOf': WHATEVER THE INPUT: true; the input reads as it did. -/
def fnExactFloodOfSpec : ChangeSpec := { name := "fnExactFloodOf", fn := fun _ => fun
  | [d1, d2] => { results := [.lit (.bool true)], args := [d1, d2] }
  | _ => none }
def fnExactFloodOfRow : OpenClaim := { program := "ytfjpnjekmjnocaa", sum := "a78202254c6967bfcd75ddc4db7037aff6dd55c710b2bf7190bce420fda86d0b", func := "loop.example/ringsandrounds/laws.FnExactFloodOf", spec := "fnExactFloodOf", unfollowed := true, recurses := true, apart := false }
def FnExactFloodOfSaid : Prop := fnExactFloodOfRow.holds Try.pinned (OpenSpec.ofChange fnExactFloodOfSpec)

/-- ITS FALSE NEIGHBOUR: 'it returns false'. Refute it at one input. -/
def fnExactFloodOfWrong : ChangeSpec := { name := "fnExactFloodOf", fn := fun _ => fun
  | [d1, d2] => { results := [.lit (.bool false)], args := [d1, d2] }
  | _ => none }
def FnExactFloodOfWrongFalsely : Prop := fnExactFloodOfRow.holds Try.pinned (OpenSpec.ofChange fnExactFloodOfWrong)

/-- 'laws.FnExactWakeOf': WHATEVER THE INPUT: true; the input reads as it did. -/
def fnExactWakeOfSpec : ChangeSpec := { name := "fnExactWakeOf", fn := fun _ => fun
  | [d1, d2] => { results := [.lit (.bool true)], args := [d1, d2] }
  | _ => none }
def fnExactWakeOfRow : OpenClaim := { program := "ytfjpnjekmjnocaa", sum := "a78202254c6967bfcd75ddc4db7037aff6dd55c710b2bf7190bce420fda86d0b", func := "loop.example/ringsandrounds/laws.FnExactWakeOf", spec := "fnExactWakeOf", unfollowed := true, recurses := true, apart := false }
def FnExactWakeOfSaid : Prop := fnExactWakeOfRow.holds Try.pinned (OpenSpec.ofChange fnExactWakeOfSpec)

/-- ITS FALSE NEIGHBOUR: 'it returns false'. Refute it at one input. -/
def fnExactWakeOfWrong : ChangeSpec := { name := "fnExactWakeOf", fn := fun _ => fun
  | [d1, d2] => { results := [.lit (.bool false)], args := [d1, d2] }
  | _ => none }
def FnExactWakeOfWrongFalsely : Prop := fnExactWakeOfRow.holds Try.pinned (OpenSpec.ofChange fnExactWakeOfWrong)

/-- 'laws.FnExactIsElectable': WHATEVER THE INPUT: true; the input reads as it did. -/
def fnExactIsElectableSpec : ChangeSpec := { name := "fnExactIsElectable", fn := fun _ => fun
  | [d] => { results := [.lit (.bool true)], args := [d] }
  | _ => none }
def fnExactIsElectableRow : OpenClaim := { program := "ytfjpnjekmjnocaa", sum := "a78202254c6967bfcd75ddc4db7037aff6dd55c710b2bf7190bce420fda86d0b", func := "loop.example/ringsandrounds/laws.FnExactIsElectable", spec := "fnExactIsElectable", unfollowed := true, recurses := true, apart := false }
def FnExactIsElectableSaid : Prop := fnExactIsElectableRow.holds Try.pinned (OpenSpec.ofChange fnExactIsElectableSpec)

/-- ITS FALSE NEIGHBOUR: 'it returns false'. Refute it at one input. -/
def fnExactIsElectableWrong : ChangeSpec := { name := "fnExactIsElectable", fn := fun _ => fun
  | [d] => { results := [.lit (.bool false)], args := [d] }
  | _ => none }
def FnExactIsElectableWrongFalsely : Prop := fnExactIsElectableRow.holds Try.pinned (OpenSpec.ofChange fnExactIsElectableWrong)

/-- 'laws.FnExactClassesAt': WHATEVER THE INPUT: true; the input reads as it did. -/
def fnExactClassesAtSpec : ChangeSpec := { name := "fnExactClassesAt", fn := fun _ => fun
  | [d1, d2] => { results := [.lit (.bool true)], args := [d1, d2] }
  | _ => none }
def fnExactClassesAtRow : OpenClaim := { program := "ytfjpnjekmjnocaa", sum := "a78202254c6967bfcd75ddc4db7037aff6dd55c710b2bf7190bce420fda86d0b", func := "loop.example/ringsandrounds/laws.FnExactClassesAt", spec := "fnExactClassesAt", unfollowed := true, recurses := true, apart := false }
def FnExactClassesAtSaid : Prop := fnExactClassesAtRow.holds Try.pinned (OpenSpec.ofChange fnExactClassesAtSpec)

/-- ITS FALSE NEIGHBOUR: 'it returns false'. Refute it at one input. -/
def fnExactClassesAtWrong : ChangeSpec := { name := "fnExactClassesAt", fn := fun _ => fun
  | [d1, d2] => { results := [.lit (.bool false)], args := [d1, d2] }
  | _ => none }
def FnExactClassesAtWrongFalsely : Prop := fnExactClassesAtRow.holds Try.pinned (OpenSpec.ofChange fnExactClassesAtWrong)

/-- 'laws.FnExactSettledAt': WHATEVER THE INPUT: true; the input reads as it did. -/
def fnExactSettledAtSpec : ChangeSpec := { name := "fnExactSettledAt", fn := fun _ => fun
  | [d] => { results := [.lit (.bool true)], args := [d] }
  | _ => none }
def fnExactSettledAtRow : OpenClaim := { program := "ytfjpnjekmjnocaa", sum := "a78202254c6967bfcd75ddc4db7037aff6dd55c710b2bf7190bce420fda86d0b", func := "loop.example/ringsandrounds/laws.FnExactSettledAt", spec := "fnExactSettledAt", unfollowed := true, recurses := true, apart := false }
def FnExactSettledAtSaid : Prop := fnExactSettledAtRow.holds Try.pinned (OpenSpec.ofChange fnExactSettledAtSpec)

/-- ITS FALSE NEIGHBOUR: 'it returns false'. Refute it at one input. -/
def fnExactSettledAtWrong : ChangeSpec := { name := "fnExactSettledAt", fn := fun _ => fun
  | [d] => { results := [.lit (.bool false)], args := [d] }
  | _ => none }
def FnExactSettledAtWrongFalsely : Prop := fnExactSettledAtRow.holds Try.pinned (OpenSpec.ofChange fnExactSettledAtWrong)

/- THE SECOND FORM. 'bulk': how many values and letters a reading holds, each counted each time it is reached (what is shared counts as often as it is met; a slice's spare places count too). A statement '..UptoSaid' is the law's where the arguments, and the package variables that the reading takes, are together of bulk at most 1048576: NARROWER than '..Said'. Prove '..Said' where nothing that the law and all that it calls make is longer than what came in: it says more and counts as full. Else prove '..UptoSaid'. A law counts once. -/
mutual
def uptoBulk {H : Type} : DataW H → Nat
  | .lit (.string bytes) => bytes.length + 1
  | .lit _ => 1
  | .nil => 1
  | .ptr d => uptoBulk d + 1
  | .slice elems spare => uptoBulkAll elems + uptoBulkAll spare + 1
  | .agg parts => uptoBulkAll parts + 1
  | .iface _ d => uptoBulk d + 1
  | .map entries => uptoBulkEntries entries + 1
  | .held _ => 1
def uptoBulkAll {H : Type} : List (DataW H) → Nat
  | [] => 0
  | d :: r => uptoBulk d + uptoBulkAll r
def uptoBulkEntries {H : Type} : List (Lit × DataW H) → Nat
  | [] => 0
  | x :: r => uptoBulkEntry x + uptoBulkEntries r
def uptoBulkEntry {H : Type} : Lit × DataW H → Nat
  | (.string bytes, d) => bytes.length + uptoBulk d + 1
  | (_, d) => uptoBulk d + 1
 end
def uptoSmall : (H : Type) → List (DataW H) → Bool := fun _ ds => decide (uptoBulkAll ds ≤ 1048576)
def OpenSpec.upto (s : _root_.Go.ChangeSpec) : _root_.Go.OpenSpec := { _root_.Go.OpenSpec.ofChange s with cond := some uptoSmall }

/-- 'laws.FnExactValidNet', WHERE WHAT IT READS IS OF BULK AT MOST 1048576: true; the input reads as it did. -/
def fnExactValidNetUptoRow : OpenClaim := { program := "ytfjpnjekmjnocaa", sum := "a78202254c6967bfcd75ddc4db7037aff6dd55c710b2bf7190bce420fda86d0b", func := "loop.example/ringsandrounds/laws.FnExactValidNet", spec := "fnExactValidNet", unfollowed := true, recurses := true, apart := false, narrowed := true }
def FnExactValidNetUptoSaid : Prop := fnExactValidNetUptoRow.holds Try.pinned (OpenSpec.upto fnExactValidNetSpec)

/-- 'laws.FnExactWidthOf', WHERE WHAT IT READS IS OF BULK AT MOST 1048576: true; the input reads as it did. -/
def fnExactWidthOfUptoRow : OpenClaim := { program := "ytfjpnjekmjnocaa", sum := "a78202254c6967bfcd75ddc4db7037aff6dd55c710b2bf7190bce420fda86d0b", func := "loop.example/ringsandrounds/laws.FnExactWidthOf", spec := "fnExactWidthOf", unfollowed := true, recurses := true, apart := false, narrowed := true }
def FnExactWidthOfUptoSaid : Prop := fnExactWidthOfUptoRow.holds Try.pinned (OpenSpec.upto fnExactWidthOfSpec)

/-- 'laws.FnExactFarsOf', WHERE WHAT IT READS IS OF BULK AT MOST 1048576: true; the input reads as it did. -/
def fnExactFarsOfUptoRow : OpenClaim := { program := "ytfjpnjekmjnocaa", sum := "a78202254c6967bfcd75ddc4db7037aff6dd55c710b2bf7190bce420fda86d0b", func := "loop.example/ringsandrounds/laws.FnExactFarsOf", spec := "fnExactFarsOf", unfollowed := true, recurses := true, apart := false, narrowed := true }
def FnExactFarsOfUptoSaid : Prop := fnExactFarsOfUptoRow.holds Try.pinned (OpenSpec.upto fnExactFarsOfSpec)

/-- 'laws.FnExactFloodOf', WHERE WHAT IT READS IS OF BULK AT MOST 1048576: true; the input reads as it did. -/
def fnExactFloodOfUptoRow : OpenClaim := { program := "ytfjpnjekmjnocaa", sum := "a78202254c6967bfcd75ddc4db7037aff6dd55c710b2bf7190bce420fda86d0b", func := "loop.example/ringsandrounds/laws.FnExactFloodOf", spec := "fnExactFloodOf", unfollowed := true, recurses := true, apart := false, narrowed := true }
def FnExactFloodOfUptoSaid : Prop := fnExactFloodOfUptoRow.holds Try.pinned (OpenSpec.upto fnExactFloodOfSpec)

/-- 'laws.FnExactWakeOf', WHERE WHAT IT READS IS OF BULK AT MOST 1048576: true; the input reads as it did. -/
def fnExactWakeOfUptoRow : OpenClaim := { program := "ytfjpnjekmjnocaa", sum := "a78202254c6967bfcd75ddc4db7037aff6dd55c710b2bf7190bce420fda86d0b", func := "loop.example/ringsandrounds/laws.FnExactWakeOf", spec := "fnExactWakeOf", unfollowed := true, recurses := true, apart := false, narrowed := true }
def FnExactWakeOfUptoSaid : Prop := fnExactWakeOfUptoRow.holds Try.pinned (OpenSpec.upto fnExactWakeOfSpec)

/-- 'laws.FnExactIsElectable', WHERE WHAT IT READS IS OF BULK AT MOST 1048576: true; the input reads as it did. -/
def fnExactIsElectableUptoRow : OpenClaim := { program := "ytfjpnjekmjnocaa", sum := "a78202254c6967bfcd75ddc4db7037aff6dd55c710b2bf7190bce420fda86d0b", func := "loop.example/ringsandrounds/laws.FnExactIsElectable", spec := "fnExactIsElectable", unfollowed := true, recurses := true, apart := false, narrowed := true }
def FnExactIsElectableUptoSaid : Prop := fnExactIsElectableUptoRow.holds Try.pinned (OpenSpec.upto fnExactIsElectableSpec)

/-- 'laws.FnExactClassesAt', WHERE WHAT IT READS IS OF BULK AT MOST 1048576: true; the input reads as it did. -/
def fnExactClassesAtUptoRow : OpenClaim := { program := "ytfjpnjekmjnocaa", sum := "a78202254c6967bfcd75ddc4db7037aff6dd55c710b2bf7190bce420fda86d0b", func := "loop.example/ringsandrounds/laws.FnExactClassesAt", spec := "fnExactClassesAt", unfollowed := true, recurses := true, apart := false, narrowed := true }
def FnExactClassesAtUptoSaid : Prop := fnExactClassesAtUptoRow.holds Try.pinned (OpenSpec.upto fnExactClassesAtSpec)

/-- 'laws.FnExactSettledAt', WHERE WHAT IT READS IS OF BULK AT MOST 1048576: true; the input reads as it did. -/
def fnExactSettledAtUptoRow : OpenClaim := { program := "ytfjpnjekmjnocaa", sum := "a78202254c6967bfcd75ddc4db7037aff6dd55c710b2bf7190bce420fda86d0b", func := "loop.example/ringsandrounds/laws.FnExactSettledAt", spec := "fnExactSettledAt", unfollowed := true, recurses := true, apart := false, narrowed := true }
def FnExactSettledAtUptoSaid : Prop := fnExactSettledAtUptoRow.holds Try.pinned (OpenSpec.upto fnExactSettledAtSpec)

end Rows
end Go.Proofs.Ytfjpnjekmjnocaa
