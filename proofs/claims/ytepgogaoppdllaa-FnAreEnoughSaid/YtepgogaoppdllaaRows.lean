/-
  No cell of these rows narrows 'for every input' (looked for: loops, veiled, ifaces, maps, wideKeys, modest, calm, conditions, laid).
  DERIVED. THE GIVEN ROWS OF THIS SEAT. 10 by the template 'for every input the law returns true; each argument reads behind the call as it read before'; 0 by the template 'total and deterministic' (their statements: YtepgogaoppdllaaTotals.lean).
  GIVEN WITH THE SEED: the statements are not yours to turn. If you find one false, say at which input.
  Laid BY PROGRAM, IN A SANDBOX (cutbox-rows.mjs): the forced cells as the released guide's own fill.sh prints them over the translation 53b9404dfd0abdf4… (all of the seat's roots in one cut). By AI agents, Wed Nov 11 2026. No macro, syntax, notation, axiom, sorry.
-/
import Derived.Test.YtepgogaoppdllaaChecked
import GoSem.Claim
import GoSem.ClaimJoined
import GoSem.ClaimMapViews
import Derived.JoinedTies
import Derived.KernelRfl
namespace Go.Proofs.Ytepgogaoppdllaa
/- THE CELL 'sum', in the pinned program and in every row, IS THE sha256 OF THE DUMP (.gsa) THAT YtepgogaoppdllaaProg.lean LOADS. Nothing in Lean hashes anything: it is a label: what it is worth is what the hold of that sum in a sandbox is worth. -/
noncomputable def Try.pinned : Pinned := { name := "ytepgogaoppdllaa", sum := "53b9404dfd0abdf49a1ea4d1bb0afea6b4b95fcd7302778c458ba58164251e4a", checked := Try.checked }
namespace Rows
def none {H : Type} : Left H := { results := [], args := [] }

/-- 'laws.FnSeenAfter': WHATEVER THE INPUT: true; the input reads as it did. -/
def fnSeenAfterSpec : ChangeSpec := { name := "fnSeenAfter", fn := fun _ => fun
  | [d] => { results := [.lit (.bool true)], args := [d] }
  | _ => none }
def fnSeenAfterRow : OpenClaim := { program := "ytepgogaoppdllaa", sum := "53b9404dfd0abdf49a1ea4d1bb0afea6b4b95fcd7302778c458ba58164251e4a", func := "loop.example/ringsandrounds/laws.FnSeenAfter", spec := "fnSeenAfter", unfollowed := true, recurses := true, apart := false }
def FnSeenAfterSaid : Prop := fnSeenAfterRow.holds Try.pinned (OpenSpec.ofChange fnSeenAfterSpec)

/-- ITS FALSE NEIGHBOUR: 'it returns false'. Refute it at one input. -/
def fnSeenAfterWrong : ChangeSpec := { name := "fnSeenAfter", fn := fun _ => fun
  | [d] => { results := [.lit (.bool false)], args := [d] }
  | _ => none }
def FnSeenAfterWrongFalsely : Prop := fnSeenAfterRow.holds Try.pinned (OpenSpec.ofChange fnSeenAfterWrong)

/-- 'laws.FnExactBrokenBy': WHATEVER THE INPUT: true; the input reads as it did. -/
def fnExactBrokenBySpec : ChangeSpec := { name := "fnExactBrokenBy", fn := fun _ => fun
  | [d1, d2, d3] => { results := [.lit (.bool true)], args := [d1, d2, d3] }
  | _ => none }
def fnExactBrokenByRow : OpenClaim := { program := "ytepgogaoppdllaa", sum := "53b9404dfd0abdf49a1ea4d1bb0afea6b4b95fcd7302778c458ba58164251e4a", func := "loop.example/ringsandrounds/laws.FnExactBrokenBy", spec := "fnExactBrokenBy", unfollowed := true, recurses := true, apart := false }
def FnExactBrokenBySaid : Prop := fnExactBrokenByRow.holds Try.pinned (OpenSpec.ofChange fnExactBrokenBySpec)

/-- ITS FALSE NEIGHBOUR: 'it returns false'. Refute it at one input. -/
def fnExactBrokenByWrong : ChangeSpec := { name := "fnExactBrokenBy", fn := fun _ => fun
  | [d1, d2, d3] => { results := [.lit (.bool false)], args := [d1, d2, d3] }
  | _ => none }
def FnExactBrokenByWrongFalsely : Prop := fnExactBrokenByRow.holds Try.pinned (OpenSpec.ofChange fnExactBrokenByWrong)

/-- 'laws.FnExactAreEnough': WHATEVER THE INPUT: true; the input reads as it did. -/
def fnExactAreEnoughSpec : ChangeSpec := { name := "fnExactAreEnough", fn := fun _ => fun
  | [d1, d2, d3] => { results := [.lit (.bool true)], args := [d1, d2, d3] }
  | _ => none }
def fnExactAreEnoughRow : OpenClaim := { program := "ytepgogaoppdllaa", sum := "53b9404dfd0abdf49a1ea4d1bb0afea6b4b95fcd7302778c458ba58164251e4a", func := "loop.example/ringsandrounds/laws.FnExactAreEnough", spec := "fnExactAreEnough", unfollowed := true, recurses := true, apart := false }
def FnExactAreEnoughSaid : Prop := fnExactAreEnoughRow.holds Try.pinned (OpenSpec.ofChange fnExactAreEnoughSpec)

/-- ITS FALSE NEIGHBOUR: 'it returns false'. Refute it at one input. -/
def fnExactAreEnoughWrong : ChangeSpec := { name := "fnExactAreEnough", fn := fun _ => fun
  | [d1, d2, d3] => { results := [.lit (.bool false)], args := [d1, d2, d3] }
  | _ => none }
def FnExactAreEnoughWrongFalsely : Prop := fnExactAreEnoughRow.holds Try.pinned (OpenSpec.ofChange fnExactAreEnoughWrong)

/-- 'laws.FnBrokenBy': WHATEVER THE INPUT: true; the input reads as it did. -/
def fnBrokenBySpec : ChangeSpec := { name := "fnBrokenBy", fn := fun _ => fun
  | [d] => { results := [.lit (.bool true)], args := [d] }
  | _ => none }
def fnBrokenByRow : OpenClaim := { program := "ytepgogaoppdllaa", sum := "53b9404dfd0abdf49a1ea4d1bb0afea6b4b95fcd7302778c458ba58164251e4a", func := "loop.example/ringsandrounds/laws.FnBrokenBy", spec := "fnBrokenBy", unfollowed := true, recurses := true, apart := false }
def FnBrokenBySaid : Prop := fnBrokenByRow.holds Try.pinned (OpenSpec.ofChange fnBrokenBySpec)

/-- ITS FALSE NEIGHBOUR: 'it returns false'. Refute it at one input. -/
def fnBrokenByWrong : ChangeSpec := { name := "fnBrokenBy", fn := fun _ => fun
  | [d] => { results := [.lit (.bool false)], args := [d] }
  | _ => none }
def FnBrokenByWrongFalsely : Prop := fnBrokenByRow.holds Try.pinned (OpenSpec.ofChange fnBrokenByWrong)

/-- 'laws.FnDecisionsAfter': WHATEVER THE INPUT: true; the input reads as it did. -/
def fnDecisionsAfterSpec : ChangeSpec := { name := "fnDecisionsAfter", fn := fun _ => fun
  | [d] => { results := [.lit (.bool true)], args := [d] }
  | _ => none }
def fnDecisionsAfterRow : OpenClaim := { program := "ytepgogaoppdllaa", sum := "53b9404dfd0abdf49a1ea4d1bb0afea6b4b95fcd7302778c458ba58164251e4a", func := "loop.example/ringsandrounds/laws.FnDecisionsAfter", spec := "fnDecisionsAfter", unfollowed := true, recurses := true, apart := false }
def FnDecisionsAfterSaid : Prop := fnDecisionsAfterRow.holds Try.pinned (OpenSpec.ofChange fnDecisionsAfterSpec)

/-- ITS FALSE NEIGHBOUR: 'it returns false'. Refute it at one input. -/
def fnDecisionsAfterWrong : ChangeSpec := { name := "fnDecisionsAfter", fn := fun _ => fun
  | [d] => { results := [.lit (.bool false)], args := [d] }
  | _ => none }
def FnDecisionsAfterWrongFalsely : Prop := fnDecisionsAfterRow.holds Try.pinned (OpenSpec.ofChange fnDecisionsAfterWrong)

/-- 'laws.FnAreEnough': WHATEVER THE INPUT: true; the input reads as it did. -/
def fnAreEnoughSpec : ChangeSpec := { name := "fnAreEnough", fn := fun _ => fun
  | [d] => { results := [.lit (.bool true)], args := [d] }
  | _ => none }
def fnAreEnoughRow : OpenClaim := { program := "ytepgogaoppdllaa", sum := "53b9404dfd0abdf49a1ea4d1bb0afea6b4b95fcd7302778c458ba58164251e4a", func := "loop.example/ringsandrounds/laws.FnAreEnough", spec := "fnAreEnough", unfollowed := true, recurses := true, apart := false }
def FnAreEnoughSaid : Prop := fnAreEnoughRow.holds Try.pinned (OpenSpec.ofChange fnAreEnoughSpec)

/-- ITS FALSE NEIGHBOUR: 'it returns false'. Refute it at one input. -/
def fnAreEnoughWrong : ChangeSpec := { name := "fnAreEnough", fn := fun _ => fun
  | [d] => { results := [.lit (.bool false)], args := [d] }
  | _ => none }
def FnAreEnoughWrongFalsely : Prop := fnAreEnoughRow.holds Try.pinned (OpenSpec.ofChange fnAreEnoughWrong)

/-- 'laws.FnExactSeenAfter': WHATEVER THE INPUT: true; the input reads as it did. -/
def fnExactSeenAfterSpec : ChangeSpec := { name := "fnExactSeenAfter", fn := fun _ => fun
  | [d1, d2] => { results := [.lit (.bool true)], args := [d1, d2] }
  | _ => none }
def fnExactSeenAfterRow : OpenClaim := { program := "ytepgogaoppdllaa", sum := "53b9404dfd0abdf49a1ea4d1bb0afea6b4b95fcd7302778c458ba58164251e4a", func := "loop.example/ringsandrounds/laws.FnExactSeenAfter", spec := "fnExactSeenAfter", unfollowed := true, recurses := true, apart := false }
def FnExactSeenAfterSaid : Prop := fnExactSeenAfterRow.holds Try.pinned (OpenSpec.ofChange fnExactSeenAfterSpec)

/-- ITS FALSE NEIGHBOUR: 'it returns false'. Refute it at one input. -/
def fnExactSeenAfterWrong : ChangeSpec := { name := "fnExactSeenAfter", fn := fun _ => fun
  | [d1, d2] => { results := [.lit (.bool false)], args := [d1, d2] }
  | _ => none }
def FnExactSeenAfterWrongFalsely : Prop := fnExactSeenAfterRow.holds Try.pinned (OpenSpec.ofChange fnExactSeenAfterWrong)

/-- 'laws.FnIsAgreed': WHATEVER THE INPUT: true; the input reads as it did. -/
def fnIsAgreedSpec : ChangeSpec := { name := "fnIsAgreed", fn := fun _ => fun
  | [d] => { results := [.lit (.bool true)], args := [d] }
  | _ => none }
def fnIsAgreedRow : OpenClaim := { program := "ytepgogaoppdllaa", sum := "53b9404dfd0abdf49a1ea4d1bb0afea6b4b95fcd7302778c458ba58164251e4a", func := "loop.example/ringsandrounds/laws.FnIsAgreed", spec := "fnIsAgreed", unfollowed := true, recurses := true, apart := false }
def FnIsAgreedSaid : Prop := fnIsAgreedRow.holds Try.pinned (OpenSpec.ofChange fnIsAgreedSpec)

/-- ITS FALSE NEIGHBOUR: 'it returns false'. Refute it at one input. -/
def fnIsAgreedWrong : ChangeSpec := { name := "fnIsAgreed", fn := fun _ => fun
  | [d] => { results := [.lit (.bool false)], args := [d] }
  | _ => none }
def FnIsAgreedWrongFalsely : Prop := fnIsAgreedRow.holds Try.pinned (OpenSpec.ofChange fnIsAgreedWrong)

/-- 'laws.FnExactDecisionsAfter': WHATEVER THE INPUT: true; the input reads as it did. -/
def fnExactDecisionsAfterSpec : ChangeSpec := { name := "fnExactDecisionsAfter", fn := fun _ => fun
  | [d1, d2] => { results := [.lit (.bool true)], args := [d1, d2] }
  | _ => none }
def fnExactDecisionsAfterRow : OpenClaim := { program := "ytepgogaoppdllaa", sum := "53b9404dfd0abdf49a1ea4d1bb0afea6b4b95fcd7302778c458ba58164251e4a", func := "loop.example/ringsandrounds/laws.FnExactDecisionsAfter", spec := "fnExactDecisionsAfter", unfollowed := true, recurses := true, apart := false }
def FnExactDecisionsAfterSaid : Prop := fnExactDecisionsAfterRow.holds Try.pinned (OpenSpec.ofChange fnExactDecisionsAfterSpec)

/-- ITS FALSE NEIGHBOUR: 'it returns false'. Refute it at one input. -/
def fnExactDecisionsAfterWrong : ChangeSpec := { name := "fnExactDecisionsAfter", fn := fun _ => fun
  | [d1, d2] => { results := [.lit (.bool false)], args := [d1, d2] }
  | _ => none }
def FnExactDecisionsAfterWrongFalsely : Prop := fnExactDecisionsAfterRow.holds Try.pinned (OpenSpec.ofChange fnExactDecisionsAfterWrong)

/-- 'laws.FnExactIsAgreed': WHATEVER THE INPUT: true; the input reads as it did. -/
def fnExactIsAgreedSpec : ChangeSpec := { name := "fnExactIsAgreed", fn := fun _ => fun
  | [d1, d2] => { results := [.lit (.bool true)], args := [d1, d2] }
  | _ => none }
def fnExactIsAgreedRow : OpenClaim := { program := "ytepgogaoppdllaa", sum := "53b9404dfd0abdf49a1ea4d1bb0afea6b4b95fcd7302778c458ba58164251e4a", func := "loop.example/ringsandrounds/laws.FnExactIsAgreed", spec := "fnExactIsAgreed", unfollowed := true, recurses := true, apart := false }
def FnExactIsAgreedSaid : Prop := fnExactIsAgreedRow.holds Try.pinned (OpenSpec.ofChange fnExactIsAgreedSpec)

/-- ITS FALSE NEIGHBOUR: 'it returns false'. Refute it at one input. -/
def fnExactIsAgreedWrong : ChangeSpec := { name := "fnExactIsAgreed", fn := fun _ => fun
  | [d1, d2] => { results := [.lit (.bool false)], args := [d1, d2] }
  | _ => none }
def FnExactIsAgreedWrongFalsely : Prop := fnExactIsAgreedRow.holds Try.pinned (OpenSpec.ofChange fnExactIsAgreedWrong)

/- THE SECOND FORM. 'bulk': how many values and letters a reading holds, each counted each time it is reached (what is shared counts as often as it is met; a slice's spare places count too). A statement '..UptoSaid' is the law's where the arguments, and the package variables that the reading takes, are together of bulk at most 1048576: NARROWER than '..Said'. Prove '..Said' where nothing that the law and all that it calls make is longer than what came in: it says more and counts as full. Else prove '..UptoSaid'. A law counts once. -/
mutual
def uptoBulk {H : Type} : DataW H → Nat
  | .lit (.string bytes) => bytes.length + 1
  | .lit _ => 1
  | .nil => 1
  | .ptr d => uptoBulk d + 1
  | .slice elems spare => uptoBulkAll elems + uptoBulkAll spare + 1
  | .agg parts => uptoBulkAll parts + 1
  | .iface _ d => uptoBulk d + 1
  | .map entries => uptoBulkEntries entries + 1
  | .held _ => 1
def uptoBulkAll {H : Type} : List (DataW H) → Nat
  | [] => 0
  | d :: r => uptoBulk d + uptoBulkAll r
def uptoBulkEntries {H : Type} : List (Lit × DataW H) → Nat
  | [] => 0
  | x :: r => uptoBulkEntry x + uptoBulkEntries r
def uptoBulkEntry {H : Type} : Lit × DataW H → Nat
  | (.string bytes, d) => bytes.length + uptoBulk d + 1
  | (_, d) => uptoBulk d + 1
 end
def uptoSmall : (H : Type) → List (DataW H) → Bool := fun _ ds => decide (uptoBulkAll ds ≤ 1048576)
def OpenSpec.upto (s : _root_.Go.ChangeSpec) : _root_.Go.OpenSpec := { _root_.Go.OpenSpec.ofChange s with cond := some uptoSmall }

/-- 'laws.FnSeenAfter', WHERE WHAT IT READS IS OF BULK AT MOST 1048576: true; the input reads as it did. -/
def fnSeenAfterUptoRow : OpenClaim := { program := "ytepgogaoppdllaa", sum := "53b9404dfd0abdf49a1ea4d1bb0afea6b4b95fcd7302778c458ba58164251e4a", func := "loop.example/ringsandrounds/laws.FnSeenAfter", spec := "fnSeenAfter", unfollowed := true, recurses := true, apart := false, narrowed := true }
def FnSeenAfterUptoSaid : Prop := fnSeenAfterUptoRow.holds Try.pinned (OpenSpec.upto fnSeenAfterSpec)

/-- 'laws.FnExactBrokenBy', WHERE WHAT IT READS IS OF BULK AT MOST 1048576: true; the input reads as it did. -/
def fnExactBrokenByUptoRow : OpenClaim := { program := "ytepgogaoppdllaa", sum := "53b9404dfd0abdf49a1ea4d1bb0afea6b4b95fcd7302778c458ba58164251e4a", func := "loop.example/ringsandrounds/laws.FnExactBrokenBy", spec := "fnExactBrokenBy", unfollowed := true, recurses := true, apart := false, narrowed := true }
def FnExactBrokenByUptoSaid : Prop := fnExactBrokenByUptoRow.holds Try.pinned (OpenSpec.upto fnExactBrokenBySpec)

/-- 'laws.FnExactAreEnough', WHERE WHAT IT READS IS OF BULK AT MOST 1048576: true; the input reads as it did. -/
def fnExactAreEnoughUptoRow : OpenClaim := { program := "ytepgogaoppdllaa", sum := "53b9404dfd0abdf49a1ea4d1bb0afea6b4b95fcd7302778c458ba58164251e4a", func := "loop.example/ringsandrounds/laws.FnExactAreEnough", spec := "fnExactAreEnough", unfollowed := true, recurses := true, apart := false, narrowed := true }
def FnExactAreEnoughUptoSaid : Prop := fnExactAreEnoughUptoRow.holds Try.pinned (OpenSpec.upto fnExactAreEnoughSpec)

/-- 'laws.FnBrokenBy', WHERE WHAT IT READS IS OF BULK AT MOST 1048576: true; the input reads as it did. -/
def fnBrokenByUptoRow : OpenClaim := { program := "ytepgogaoppdllaa", sum := "53b9404dfd0abdf49a1ea4d1bb0afea6b4b95fcd7302778c458ba58164251e4a", func := "loop.example/ringsandrounds/laws.FnBrokenBy", spec := "fnBrokenBy", unfollowed := true, recurses := true, apart := false, narrowed := true }
def FnBrokenByUptoSaid : Prop := fnBrokenByUptoRow.holds Try.pinned (OpenSpec.upto fnBrokenBySpec)

/-- 'laws.FnDecisionsAfter', WHERE WHAT IT READS IS OF BULK AT MOST 1048576: true; the input reads as it did. -/
def fnDecisionsAfterUptoRow : OpenClaim := { program := "ytepgogaoppdllaa", sum := "53b9404dfd0abdf49a1ea4d1bb0afea6b4b95fcd7302778c458ba58164251e4a", func := "loop.example/ringsandrounds/laws.FnDecisionsAfter", spec := "fnDecisionsAfter", unfollowed := true, recurses := true, apart := false, narrowed := true }
def FnDecisionsAfterUptoSaid : Prop := fnDecisionsAfterUptoRow.holds Try.pinned (OpenSpec.upto fnDecisionsAfterSpec)

/-- 'laws.FnAreEnough', WHERE WHAT IT READS IS OF BULK AT MOST 1048576: true; the input reads as it did. -/
def fnAreEnoughUptoRow : OpenClaim := { program := "ytepgogaoppdllaa", sum := "53b9404dfd0abdf49a1ea4d1bb0afea6b4b95fcd7302778c458ba58164251e4a", func := "loop.example/ringsandrounds/laws.FnAreEnough", spec := "fnAreEnough", unfollowed := true, recurses := true, apart := false, narrowed := true }
def FnAreEnoughUptoSaid : Prop := fnAreEnoughUptoRow.holds Try.pinned (OpenSpec.upto fnAreEnoughSpec)

/-- 'laws.FnExactSeenAfter', WHERE WHAT IT READS IS OF BULK AT MOST 1048576: true; the input reads as it did. -/
def fnExactSeenAfterUptoRow : OpenClaim := { program := "ytepgogaoppdllaa", sum := "53b9404dfd0abdf49a1ea4d1bb0afea6b4b95fcd7302778c458ba58164251e4a", func := "loop.example/ringsandrounds/laws.FnExactSeenAfter", spec := "fnExactSeenAfter", unfollowed := true, recurses := true, apart := false, narrowed := true }
def FnExactSeenAfterUptoSaid : Prop := fnExactSeenAfterUptoRow.holds Try.pinned (OpenSpec.upto fnExactSeenAfterSpec)

/-- 'laws.FnIsAgreed', WHERE WHAT IT READS IS OF BULK AT MOST 1048576: true; the input reads as it did. -/
def fnIsAgreedUptoRow : OpenClaim := { program := "ytepgogaoppdllaa", sum := "53b9404dfd0abdf49a1ea4d1bb0afea6b4b95fcd7302778c458ba58164251e4a", func := "loop.example/ringsandrounds/laws.FnIsAgreed", spec := "fnIsAgreed", unfollowed := true, recurses := true, apart := false, narrowed := true }
def FnIsAgreedUptoSaid : Prop := fnIsAgreedUptoRow.holds Try.pinned (OpenSpec.upto fnIsAgreedSpec)

/-- 'laws.FnExactDecisionsAfter', WHERE WHAT IT READS IS OF BULK AT MOST 1048576: true; the input reads as it did. -/
def fnExactDecisionsAfterUptoRow : OpenClaim := { program := "ytepgogaoppdllaa", sum := "53b9404dfd0abdf49a1ea4d1bb0afea6b4b95fcd7302778c458ba58164251e4a", func := "loop.example/ringsandrounds/laws.FnExactDecisionsAfter", spec := "fnExactDecisionsAfter", unfollowed := true, recurses := true, apart := false, narrowed := true }
def FnExactDecisionsAfterUptoSaid : Prop := fnExactDecisionsAfterUptoRow.holds Try.pinned (OpenSpec.upto fnExactDecisionsAfterSpec)

/-- 'laws.FnExactIsAgreed', WHERE WHAT IT READS IS OF BULK AT MOST 1048576: true; the input reads as it did. -/
def fnExactIsAgreedUptoRow : OpenClaim := { program := "ytepgogaoppdllaa", sum := "53b9404dfd0abdf49a1ea4d1bb0afea6b4b95fcd7302778c458ba58164251e4a", func := "loop.example/ringsandrounds/laws.FnExactIsAgreed", spec := "fnExactIsAgreed", unfollowed := true, recurses := true, apart := false, narrowed := true }
def FnExactIsAgreedUptoSaid : Prop := fnExactIsAgreedUptoRow.holds Try.pinned (OpenSpec.upto fnExactIsAgreedSpec)

end Rows
end Go.Proofs.Ytepgogaoppdllaa
