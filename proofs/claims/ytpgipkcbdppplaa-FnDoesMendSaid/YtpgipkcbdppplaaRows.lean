/-
  No cell of these rows narrows 'for every input' (looked for: loops, veiled, ifaces, maps, wideKeys, modest, calm, conditions, laid).
  DERIVED. THE GIVEN ROWS OF THIS SEAT. 4 by the template 'for every input the law returns true; each argument reads behind the call as it read before'; 0 by the template 'total and deterministic' (their statements: YtpgipkcbdppplaaTotals.lean).
  GIVEN WITH THE SEED: the statements are not yours to turn. If you find one false, say at which input.
  Laid BY PROGRAM, IN A SANDBOX (cutbox-rows.mjs): the forced cells as the released guide's own fill.sh prints them over the translation c6023e570315fb21… (all of the seat's roots in one cut). By AI agents, Wed Nov 11 2026. No macro, syntax, notation, axiom, sorry.
-/
import Derived.Test.YtpgipkcbdppplaaChecked
import GoSem.Claim
import GoSem.ClaimJoined
import GoSem.ClaimMapViews
import Derived.JoinedTies
import Derived.KernelRfl
namespace Go.Proofs.Ytpgipkcbdppplaa
/- THE CELL 'sum', in the pinned program and in every row, IS THE sha256 OF THE DUMP (.gsa) THAT YtpgipkcbdppplaaProg.lean LOADS. Nothing in Lean hashes anything: it is a label: what it is worth is what the hold of that sum in a sandbox is worth. -/
noncomputable def Try.pinned : Pinned := { name := "ytpgipkcbdppplaa", sum := "c6023e570315fb218507b5ca9403bc549fddc075d83b03fddd3c06e92e4bf27f", checked := Try.checked }
namespace Rows
def none {H : Type} : Left H := { results := [], args := [] }

/-- 'laws.FnExactDoesMend': WHATEVER THE INPUT: true; the input reads as it did. -/
def fnExactDoesMendSpec : ChangeSpec := { name := "fnExactDoesMend", fn := fun _ => fun
  | [d1, d2] => { results := [.lit (.bool true)], args := [d1, d2] }
  | _ => none }
def fnExactDoesMendRow : OpenClaim := { program := "ytpgipkcbdppplaa", sum := "c6023e570315fb218507b5ca9403bc549fddc075d83b03fddd3c06e92e4bf27f", func := "loop.example/ringsandrounds/laws.FnExactDoesMend", spec := "fnExactDoesMend", unfollowed := true, recurses := true, apart := false }
def FnExactDoesMendSaid : Prop := fnExactDoesMendRow.holds Try.pinned (OpenSpec.ofChange fnExactDoesMendSpec)

/-- ITS FALSE NEIGHBOUR: 'it returns false'. Refute it at one input. -/
def fnExactDoesMendWrong : ChangeSpec := { name := "fnExactDoesMend", fn := fun _ => fun
  | [d1, d2] => { results := [.lit (.bool false)], args := [d1, d2] }
  | _ => none }
def FnExactDoesMendWrongFalsely : Prop := fnExactDoesMendRow.holds Try.pinned (OpenSpec.ofChange fnExactDoesMendWrong)

/-- 'laws.FnExactWorstMoves': WHATEVER THE INPUT: true; the input reads as it did. -/
def fnExactWorstMovesSpec : ChangeSpec := { name := "fnExactWorstMoves", fn := fun _ => fun
  | [d1, d2] => { results := [.lit (.bool true)], args := [d1, d2] }
  | _ => none }
def fnExactWorstMovesRow : OpenClaim := { program := "ytpgipkcbdppplaa", sum := "c6023e570315fb218507b5ca9403bc549fddc075d83b03fddd3c06e92e4bf27f", func := "loop.example/ringsandrounds/laws.FnExactWorstMoves", spec := "fnExactWorstMoves", unfollowed := true, recurses := true, apart := false }
def FnExactWorstMovesSaid : Prop := fnExactWorstMovesRow.holds Try.pinned (OpenSpec.ofChange fnExactWorstMovesSpec)

/-- ITS FALSE NEIGHBOUR: 'it returns false'. Refute it at one input. -/
def fnExactWorstMovesWrong : ChangeSpec := { name := "fnExactWorstMoves", fn := fun _ => fun
  | [d1, d2] => { results := [.lit (.bool false)], args := [d1, d2] }
  | _ => none }
def FnExactWorstMovesWrongFalsely : Prop := fnExactWorstMovesRow.holds Try.pinned (OpenSpec.ofChange fnExactWorstMovesWrong)

/-- 'laws.FnWorstMoves': WHATEVER THE INPUT: true; the input reads as it did. -/
def fnWorstMovesSpec : ChangeSpec := { name := "fnWorstMoves", fn := fun _ => fun
  | [d] => { results := [.lit (.bool true)], args := [d] }
  | _ => none }
def fnWorstMovesRow : OpenClaim := { program := "ytpgipkcbdppplaa", sum := "c6023e570315fb218507b5ca9403bc549fddc075d83b03fddd3c06e92e4bf27f", func := "loop.example/ringsandrounds/laws.FnWorstMoves", spec := "fnWorstMoves", unfollowed := true, recurses := true, apart := false }
def FnWorstMovesSaid : Prop := fnWorstMovesRow.holds Try.pinned (OpenSpec.ofChange fnWorstMovesSpec)

/-- ITS FALSE NEIGHBOUR: 'it returns false'. Refute it at one input. -/
def fnWorstMovesWrong : ChangeSpec := { name := "fnWorstMoves", fn := fun _ => fun
  | [d] => { results := [.lit (.bool false)], args := [d] }
  | _ => none }
def FnWorstMovesWrongFalsely : Prop := fnWorstMovesRow.holds Try.pinned (OpenSpec.ofChange fnWorstMovesWrong)

/-- 'laws.FnDoesMend': WHATEVER THE INPUT: true; the input reads as it did. -/
def fnDoesMendSpec : ChangeSpec := { name := "fnDoesMend", fn := fun _ => fun
  | [d] => { results := [.lit (.bool true)], args := [d] }
  | _ => none }
def fnDoesMendRow : OpenClaim := { program := "ytpgipkcbdppplaa", sum := "c6023e570315fb218507b5ca9403bc549fddc075d83b03fddd3c06e92e4bf27f", func := "loop.example/ringsandrounds/laws.FnDoesMend", spec := "fnDoesMend", unfollowed := true, recurses := true, apart := false }
def FnDoesMendSaid : Prop := fnDoesMendRow.holds Try.pinned (OpenSpec.ofChange fnDoesMendSpec)

/-- ITS FALSE NEIGHBOUR: 'it returns false'. Refute it at one input. -/
def fnDoesMendWrong : ChangeSpec := { name := "fnDoesMend", fn := fun _ => fun
  | [d] => { results := [.lit (.bool false)], args := [d] }
  | _ => none }
def FnDoesMendWrongFalsely : Prop := fnDoesMendRow.holds Try.pinned (OpenSpec.ofChange fnDoesMendWrong)

/- THE SECOND FORM. 'bulk': how many values and letters a reading holds, each counted each time it is reached (what is shared counts as often as it is met; a slice's spare places count too). A statement '..UptoSaid' is the law's where the arguments, and the package variables that the reading takes, are together of bulk at most 1048576: NARROWER than '..Said'. Prove '..Said' where nothing that the law and all that it calls make is longer than what came in: it says more and counts as full. Else prove '..UptoSaid'. A law counts once. -/
mutual
def uptoBulk {H : Type} : DataW H → Nat
  | .lit (.string bytes) => bytes.length + 1
  | .lit _ => 1
  | .nil => 1
  | .ptr d => uptoBulk d + 1
  | .slice elems spare => uptoBulkAll elems + uptoBulkAll spare + 1
  | .agg parts => uptoBulkAll parts + 1
  | .iface _ d => uptoBulk d + 1
  | .map entries => uptoBulkEntries entries + 1
  | .held _ => 1
def uptoBulkAll {H : Type} : List (DataW H) → Nat
  | [] => 0
  | d :: r => uptoBulk d + uptoBulkAll r
def uptoBulkEntries {H : Type} : List (Lit × DataW H) → Nat
  | [] => 0
  | x :: r => uptoBulkEntry x + uptoBulkEntries r
def uptoBulkEntry {H : Type} : Lit × DataW H → Nat
  | (.string bytes, d) => bytes.length + uptoBulk d + 1
  | (_, d) => uptoBulk d + 1
 end
def uptoSmall : (H : Type) → List (DataW H) → Bool := fun _ ds => decide (uptoBulkAll ds ≤ 1048576)
def OpenSpec.upto (s : _root_.Go.ChangeSpec) : _root_.Go.OpenSpec := { _root_.Go.OpenSpec.ofChange s with cond := some uptoSmall }

/-- 'laws.FnExactDoesMend', WHERE WHAT IT READS IS OF BULK AT MOST 1048576: true; the input reads as it did. -/
def fnExactDoesMendUptoRow : OpenClaim := { program := "ytpgipkcbdppplaa", sum := "c6023e570315fb218507b5ca9403bc549fddc075d83b03fddd3c06e92e4bf27f", func := "loop.example/ringsandrounds/laws.FnExactDoesMend", spec := "fnExactDoesMend", unfollowed := true, recurses := true, apart := false, narrowed := true }
def FnExactDoesMendUptoSaid : Prop := fnExactDoesMendUptoRow.holds Try.pinned (OpenSpec.upto fnExactDoesMendSpec)

/-- 'laws.FnExactWorstMoves', WHERE WHAT IT READS IS OF BULK AT MOST 1048576: true; the input reads as it did. -/
def fnExactWorstMovesUptoRow : OpenClaim := { program := "ytpgipkcbdppplaa", sum := "c6023e570315fb218507b5ca9403bc549fddc075d83b03fddd3c06e92e4bf27f", func := "loop.example/ringsandrounds/laws.FnExactWorstMoves", spec := "fnExactWorstMoves", unfollowed := true, recurses := true, apart := false, narrowed := true }
def FnExactWorstMovesUptoSaid : Prop := fnExactWorstMovesUptoRow.holds Try.pinned (OpenSpec.upto fnExactWorstMovesSpec)

/-- 'laws.FnWorstMoves', WHERE WHAT IT READS IS OF BULK AT MOST 1048576: true; the input reads as it did. -/
def fnWorstMovesUptoRow : OpenClaim := { program := "ytpgipkcbdppplaa", sum := "c6023e570315fb218507b5ca9403bc549fddc075d83b03fddd3c06e92e4bf27f", func := "loop.example/ringsandrounds/laws.FnWorstMoves", spec := "fnWorstMoves", unfollowed := true, recurses := true, apart := false, narrowed := true }
def FnWorstMovesUptoSaid : Prop := fnWorstMovesUptoRow.holds Try.pinned (OpenSpec.upto fnWorstMovesSpec)

/-- 'laws.FnDoesMend', WHERE WHAT IT READS IS OF BULK AT MOST 1048576: true; the input reads as it did. -/
def fnDoesMendUptoRow : OpenClaim := { program := "ytpgipkcbdppplaa", sum := "c6023e570315fb218507b5ca9403bc549fddc075d83b03fddd3c06e92e4bf27f", func := "loop.example/ringsandrounds/laws.FnDoesMend", spec := "fnDoesMend", unfollowed := true, recurses := true, apart := false, narrowed := true }
def FnDoesMendUptoSaid : Prop := fnDoesMendUptoRow.holds Try.pinned (OpenSpec.upto fnDoesMendSpec)

end Rows
end Go.Proofs.Ytpgipkcbdppplaa
