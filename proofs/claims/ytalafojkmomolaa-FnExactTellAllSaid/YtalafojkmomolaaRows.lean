/-
  No cell of these rows narrows 'for every input' (looked for: loops, veiled, ifaces, maps, wideKeys, modest, calm, conditions, laid).
  DERIVED. THE GIVEN ROWS OF THIS SEAT. 5 by the template 'for every input the law returns true; each argument reads behind the call as it read before'; 0 by the template 'total and deterministic' (their statements: YtalafojkmomolaaTotals.lean).
  GIVEN WITH THE SEED: the statements are not yours to turn. If you find one false, say at which input.
  Laid BY PROGRAM, IN A SANDBOX (cutbox-rows.mjs): the forced cells as the released guide's own fill.sh prints them over the translation 2983c3c0be0aa91a… (all of the seat's roots in one cut). By AI agents, Wed Nov 11 2026. No macro, syntax, notation, axiom, sorry.
-/
import Derived.Test.YtalafojkmomolaaChecked
import GoSem.Claim
import GoSem.ClaimJoined
import GoSem.ClaimMapViews
import Derived.JoinedTies
import Derived.KernelRfl
namespace Go.Proofs.Ytalafojkmomolaa
/- THE CELL 'sum', in the pinned program and in every row, IS THE sha256 OF THE DUMP (.gsa) THAT YtalafojkmomolaaProg.lean LOADS. Nothing in Lean hashes anything: it is a label: what it is worth is what the hold of that sum in a sandbox is worth. -/
noncomputable def Try.pinned : Pinned := { name := "ytalafojkmomolaa", sum := "2983c3c0be0aa91aa5be041c9bcd226fffca3fee74850c2909071fdf6d137f52", checked := Try.checked }
namespace Rows
def none {H : Type} : Left H := { results := [], args := [] }

/-- 'laws.FnAllKnow': WHATEVER THE INPUT: true; the input reads as it did. -/
def fnAllKnowSpec : ChangeSpec := { name := "fnAllKnow", fn := fun _ => fun
  | [d] => { results := [.lit (.bool true)], args := [d] }
  | _ => none }
def fnAllKnowRow : OpenClaim := { program := "ytalafojkmomolaa", sum := "2983c3c0be0aa91aa5be041c9bcd226fffca3fee74850c2909071fdf6d137f52", func := "loop.example/ringsandrounds/laws.FnAllKnow", spec := "fnAllKnow", unfollowed := true, recurses := true, apart := false }
def FnAllKnowSaid : Prop := fnAllKnowRow.holds Try.pinned (OpenSpec.ofChange fnAllKnowSpec)

/-- ITS FALSE NEIGHBOUR: 'it returns false'. Refute it at one input. -/
def fnAllKnowWrong : ChangeSpec := { name := "fnAllKnow", fn := fun _ => fun
  | [d] => { results := [.lit (.bool false)], args := [d] }
  | _ => none }
def FnAllKnowWrongFalsely : Prop := fnAllKnowRow.holds Try.pinned (OpenSpec.ofChange fnAllKnowWrong)

/-- 'laws.FnCommonOf': WHATEVER THE INPUT: true; the input reads as it did. -/
def fnCommonOfSpec : ChangeSpec := { name := "fnCommonOf", fn := fun _ => fun
  | [d] => { results := [.lit (.bool true)], args := [d] }
  | _ => none }
def fnCommonOfRow : OpenClaim := { program := "ytalafojkmomolaa", sum := "2983c3c0be0aa91aa5be041c9bcd226fffca3fee74850c2909071fdf6d137f52", func := "loop.example/ringsandrounds/laws.FnCommonOf", spec := "fnCommonOf", unfollowed := true, recurses := true, apart := false }
def FnCommonOfSaid : Prop := fnCommonOfRow.holds Try.pinned (OpenSpec.ofChange fnCommonOfSpec)

/-- ITS FALSE NEIGHBOUR: 'it returns false'. Refute it at one input. -/
def fnCommonOfWrong : ChangeSpec := { name := "fnCommonOf", fn := fun _ => fun
  | [d] => { results := [.lit (.bool false)], args := [d] }
  | _ => none }
def FnCommonOfWrongFalsely : Prop := fnCommonOfRow.holds Try.pinned (OpenSpec.ofChange fnCommonOfWrong)

/-- 'laws.FnExactTellAll': WHATEVER THE INPUT: true; the input reads as it did. -/
def fnExactTellAllSpec : ChangeSpec := { name := "fnExactTellAll", fn := fun _ => fun
  | [d1, d2] => { results := [.lit (.bool true)], args := [d1, d2] }
  | _ => none }
def fnExactTellAllRow : OpenClaim := { program := "ytalafojkmomolaa", sum := "2983c3c0be0aa91aa5be041c9bcd226fffca3fee74850c2909071fdf6d137f52", func := "loop.example/ringsandrounds/laws.FnExactTellAll", spec := "fnExactTellAll", unfollowed := true, recurses := true, apart := false }
def FnExactTellAllSaid : Prop := fnExactTellAllRow.holds Try.pinned (OpenSpec.ofChange fnExactTellAllSpec)

/-- ITS FALSE NEIGHBOUR: 'it returns false'. Refute it at one input. -/
def fnExactTellAllWrong : ChangeSpec := { name := "fnExactTellAll", fn := fun _ => fun
  | [d1, d2] => { results := [.lit (.bool false)], args := [d1, d2] }
  | _ => none }
def FnExactTellAllWrongFalsely : Prop := fnExactTellAllRow.holds Try.pinned (OpenSpec.ofChange fnExactTellAllWrong)

/-- 'laws.FnDepthOf': WHATEVER THE INPUT: true; the input reads as it did. -/
def fnDepthOfSpec : ChangeSpec := { name := "fnDepthOf", fn := fun _ => fun
  | [d] => { results := [.lit (.bool true)], args := [d] }
  | _ => none }
def fnDepthOfRow : OpenClaim := { program := "ytalafojkmomolaa", sum := "2983c3c0be0aa91aa5be041c9bcd226fffca3fee74850c2909071fdf6d137f52", func := "loop.example/ringsandrounds/laws.FnDepthOf", spec := "fnDepthOf", unfollowed := true, recurses := true, apart := false }
def FnDepthOfSaid : Prop := fnDepthOfRow.holds Try.pinned (OpenSpec.ofChange fnDepthOfSpec)

/-- ITS FALSE NEIGHBOUR: 'it returns false'. Refute it at one input. -/
def fnDepthOfWrong : ChangeSpec := { name := "fnDepthOf", fn := fun _ => fun
  | [d] => { results := [.lit (.bool false)], args := [d] }
  | _ => none }
def FnDepthOfWrongFalsely : Prop := fnDepthOfRow.holds Try.pinned (OpenSpec.ofChange fnDepthOfWrong)

/-- 'laws.FnTellAll': WHATEVER THE INPUT: true; the input reads as it did. -/
def fnTellAllSpec : ChangeSpec := { name := "fnTellAll", fn := fun _ => fun
  | [d] => { results := [.lit (.bool true)], args := [d] }
  | _ => none }
def fnTellAllRow : OpenClaim := { program := "ytalafojkmomolaa", sum := "2983c3c0be0aa91aa5be041c9bcd226fffca3fee74850c2909071fdf6d137f52", func := "loop.example/ringsandrounds/laws.FnTellAll", spec := "fnTellAll", unfollowed := true, recurses := true, apart := false }
def FnTellAllSaid : Prop := fnTellAllRow.holds Try.pinned (OpenSpec.ofChange fnTellAllSpec)

/-- ITS FALSE NEIGHBOUR: 'it returns false'. Refute it at one input. -/
def fnTellAllWrong : ChangeSpec := { name := "fnTellAll", fn := fun _ => fun
  | [d] => { results := [.lit (.bool false)], args := [d] }
  | _ => none }
def FnTellAllWrongFalsely : Prop := fnTellAllRow.holds Try.pinned (OpenSpec.ofChange fnTellAllWrong)

/- THE SECOND FORM. 'bulk': how many values and letters a reading holds, each counted each time it is reached (what is shared counts as often as it is met; a slice's spare places count too). A statement '..UptoSaid' is the law's where the arguments, and the package variables that the reading takes, are together of bulk at most 1048576: NARROWER than '..Said'. Prove '..Said' where nothing that the law and all that it calls make is longer than what came in: it says more and counts as full. Else prove '..UptoSaid'. A law counts once. -/
mutual
def uptoBulk {H : Type} : DataW H → Nat
  | .lit (.string bytes) => bytes.length + 1
  | .lit _ => 1
  | .nil => 1
  | .ptr d => uptoBulk d + 1
  | .slice elems spare => uptoBulkAll elems + uptoBulkAll spare + 1
  | .agg parts => uptoBulkAll parts + 1
  | .iface _ d => uptoBulk d + 1
  | .map entries => uptoBulkEntries entries + 1
  | .held _ => 1
def uptoBulkAll {H : Type} : List (DataW H) → Nat
  | [] => 0
  | d :: r => uptoBulk d + uptoBulkAll r
def uptoBulkEntries {H : Type} : List (Lit × DataW H) → Nat
  | [] => 0
  | x :: r => uptoBulkEntry x + uptoBulkEntries r
def uptoBulkEntry {H : Type} : Lit × DataW H → Nat
  | (.string bytes, d) => bytes.length + uptoBulk d + 1
  | (_, d) => uptoBulk d + 1
 end
def uptoSmall : (H : Type) → List (DataW H) → Bool := fun _ ds => decide (uptoBulkAll ds ≤ 1048576)
def OpenSpec.upto (s : _root_.Go.ChangeSpec) : _root_.Go.OpenSpec := { _root_.Go.OpenSpec.ofChange s with cond := some uptoSmall }

/-- 'laws.FnAllKnow', WHERE WHAT IT READS IS OF BULK AT MOST 1048576: true; the input reads as it did. -/
def fnAllKnowUptoRow : OpenClaim := { program := "ytalafojkmomolaa", sum := "2983c3c0be0aa91aa5be041c9bcd226fffca3fee74850c2909071fdf6d137f52", func := "loop.example/ringsandrounds/laws.FnAllKnow", spec := "fnAllKnow", unfollowed := true, recurses := true, apart := false, narrowed := true }
def FnAllKnowUptoSaid : Prop := fnAllKnowUptoRow.holds Try.pinned (OpenSpec.upto fnAllKnowSpec)

/-- 'laws.FnCommonOf', WHERE WHAT IT READS IS OF BULK AT MOST 1048576: true; the input reads as it did. -/
def fnCommonOfUptoRow : OpenClaim := { program := "ytalafojkmomolaa", sum := "2983c3c0be0aa91aa5be041c9bcd226fffca3fee74850c2909071fdf6d137f52", func := "loop.example/ringsandrounds/laws.FnCommonOf", spec := "fnCommonOf", unfollowed := true, recurses := true, apart := false, narrowed := true }
def FnCommonOfUptoSaid : Prop := fnCommonOfUptoRow.holds Try.pinned (OpenSpec.upto fnCommonOfSpec)

/-- 'laws.FnExactTellAll', WHERE WHAT IT READS IS OF BULK AT MOST 1048576: true; the input reads as it did. -/
def fnExactTellAllUptoRow : OpenClaim := { program := "ytalafojkmomolaa", sum := "2983c3c0be0aa91aa5be041c9bcd226fffca3fee74850c2909071fdf6d137f52", func := "loop.example/ringsandrounds/laws.FnExactTellAll", spec := "fnExactTellAll", unfollowed := true, recurses := true, apart := false, narrowed := true }
def FnExactTellAllUptoSaid : Prop := fnExactTellAllUptoRow.holds Try.pinned (OpenSpec.upto fnExactTellAllSpec)

/-- 'laws.FnDepthOf', WHERE WHAT IT READS IS OF BULK AT MOST 1048576: true; the input reads as it did. -/
def fnDepthOfUptoRow : OpenClaim := { program := "ytalafojkmomolaa", sum := "2983c3c0be0aa91aa5be041c9bcd226fffca3fee74850c2909071fdf6d137f52", func := "loop.example/ringsandrounds/laws.FnDepthOf", spec := "fnDepthOf", unfollowed := true, recurses := true, apart := false, narrowed := true }
def FnDepthOfUptoSaid : Prop := fnDepthOfUptoRow.holds Try.pinned (OpenSpec.upto fnDepthOfSpec)

/-- 'laws.FnTellAll', WHERE WHAT IT READS IS OF BULK AT MOST 1048576: true; the input reads as it did. -/
def fnTellAllUptoRow : OpenClaim := { program := "ytalafojkmomolaa", sum := "2983c3c0be0aa91aa5be041c9bcd226fffca3fee74850c2909071fdf6d137f52", func := "loop.example/ringsandrounds/laws.FnTellAll", spec := "fnTellAll", unfollowed := true, recurses := true, apart := false, narrowed := true }
def FnTellAllUptoSaid : Prop := fnTellAllUptoRow.holds Try.pinned (OpenSpec.upto fnTellAllSpec)

end Rows
end Go.Proofs.Ytalafojkmomolaa
