/-
  NARROWER THAN 'FOR EVERY INPUT', by the rows' own cells (each row's printed sentence says how): FnExactCalledIn: loops · FnExactFunctionsOf: loops · FnExactCalledBy: loops · FnExactUnusedIn: loops · FnExactRepeatedIn: loops · FnExactAncestorsOf: loops · FnExactIsRecursive: loops.
  DERIVED. THE GIVEN ROWS OF THIS SEAT. 8 by the template 'for every input the law returns true; each argument reads behind the call as it read before'; 0 by the template 'total and deterministic' (their statements: YtphneohnocljcaaTotals.lean).
  GIVEN WITH THE SEED: the statements are not yours to turn. If you find one false, say at which input.
  Laid BY PROGRAM, IN A SANDBOX (cutbox-rows.mjs): the forced cells as the released guide's own fill.sh prints them over the translation 9827ba45dd281ceb… (all of the seat's roots in one cut). By AI agents, Wed Nov 11 2026. No macro, syntax, notation, axiom, sorry.
-/
import Derived.Test.YtphneohnocljcaaChecked
import GoSem.Claim
import GoSem.ClaimJoined
import GoSem.ClaimMapViews
import Derived.JoinedTies
import Derived.KernelRfl
namespace Go.Proofs.Ytphneohnocljcaa
/- THE CELL 'sum', in the pinned program and in every row, IS THE sha256 OF THE DUMP (.gsa) THAT YtphneohnocljcaaProg.lean LOADS. Nothing in Lean hashes anything: it is a label: what it is worth is what the hold of that sum in a sandbox is worth. -/
noncomputable def Try.pinned : Pinned := { name := "ytphneohnocljcaa", sum := "9827ba45dd281ceb30bd4ddaa95640e4748e711067caecaf7b1c34910006d7a2", checked := Try.checked }
namespace Rows
def none {H : Type} : Left H := { results := [], args := [] }

/-- 'laws.FnExactCalledIn': WHATEVER THE INPUT: true; the input reads as it did. -/
def fnExactCalledInSpec : ChangeSpec := { name := "fnExactCalledIn", fn := fun _ => fun
  | [d] => { results := [.lit (.bool true)], args := [d] }
  | _ => none }
def fnExactCalledInRow : OpenClaim := { program := "ytphneohnocljcaa", sum := "9827ba45dd281ceb30bd4ddaa95640e4748e711067caecaf7b1c34910006d7a2", func := "loop.example/g00584/laws.FnExactCalledIn", spec := "fnExactCalledIn", unfollowed := true, recurses := true, loops := true, apart := false }
def FnExactCalledInSaid : Prop := fnExactCalledInRow.holds Try.pinned (OpenSpec.ofChange fnExactCalledInSpec)

/-- ITS FALSE NEIGHBOUR: 'it returns false'. Refute it at one input. -/
def fnExactCalledInWrong : ChangeSpec := { name := "fnExactCalledIn", fn := fun _ => fun
  | [d] => { results := [.lit (.bool false)], args := [d] }
  | _ => none }
def FnExactCalledInWrongFalsely : Prop := fnExactCalledInRow.holds Try.pinned (OpenSpec.ofChange fnExactCalledInWrong)

/-- 'laws.FnExactFunctionsOf': WHATEVER THE INPUT: true; the input reads as it did. -/
def fnExactFunctionsOfSpec : ChangeSpec := { name := "fnExactFunctionsOf", fn := fun _ => fun
  | [d] => { results := [.lit (.bool true)], args := [d] }
  | _ => none }
def fnExactFunctionsOfRow : OpenClaim := { program := "ytphneohnocljcaa", sum := "9827ba45dd281ceb30bd4ddaa95640e4748e711067caecaf7b1c34910006d7a2", func := "loop.example/g00584/laws.FnExactFunctionsOf", spec := "fnExactFunctionsOf", recurses := true, loops := true, apart := false }
def FnExactFunctionsOfSaid : Prop := fnExactFunctionsOfRow.holds Try.pinned (OpenSpec.ofChange fnExactFunctionsOfSpec)

/-- ITS FALSE NEIGHBOUR: 'it returns false'. Refute it at one input. -/
def fnExactFunctionsOfWrong : ChangeSpec := { name := "fnExactFunctionsOf", fn := fun _ => fun
  | [d] => { results := [.lit (.bool false)], args := [d] }
  | _ => none }
def FnExactFunctionsOfWrongFalsely : Prop := fnExactFunctionsOfRow.holds Try.pinned (OpenSpec.ofChange fnExactFunctionsOfWrong)

/-- 'laws.FnExactCalledBy': WHATEVER THE INPUT: true; the input reads as it did. -/
def fnExactCalledBySpec : ChangeSpec := { name := "fnExactCalledBy", fn := fun _ => fun
  | [d1, d2] => { results := [.lit (.bool true)], args := [d1, d2] }
  | _ => none }
def fnExactCalledByRow : OpenClaim := { program := "ytphneohnocljcaa", sum := "9827ba45dd281ceb30bd4ddaa95640e4748e711067caecaf7b1c34910006d7a2", func := "loop.example/g00584/laws.FnExactCalledBy", spec := "fnExactCalledBy", unfollowed := true, recurses := true, loops := true, apart := false }
def FnExactCalledBySaid : Prop := fnExactCalledByRow.holds Try.pinned (OpenSpec.ofChange fnExactCalledBySpec)

/-- ITS FALSE NEIGHBOUR: 'it returns false'. Refute it at one input. -/
def fnExactCalledByWrong : ChangeSpec := { name := "fnExactCalledBy", fn := fun _ => fun
  | [d1, d2] => { results := [.lit (.bool false)], args := [d1, d2] }
  | _ => none }
def FnExactCalledByWrongFalsely : Prop := fnExactCalledByRow.holds Try.pinned (OpenSpec.ofChange fnExactCalledByWrong)

/-- 'laws.FnExactUnusedIn': WHATEVER THE INPUT: true; the input reads as it did. -/
def fnExactUnusedInSpec : ChangeSpec := { name := "fnExactUnusedIn", fn := fun _ => fun
  | [d] => { results := [.lit (.bool true)], args := [d] }
  | _ => none }
def fnExactUnusedInRow : OpenClaim := { program := "ytphneohnocljcaa", sum := "9827ba45dd281ceb30bd4ddaa95640e4748e711067caecaf7b1c34910006d7a2", func := "loop.example/g00584/laws.FnExactUnusedIn", spec := "fnExactUnusedIn", unfollowed := true, recurses := true, loops := true, apart := false }
def FnExactUnusedInSaid : Prop := fnExactUnusedInRow.holds Try.pinned (OpenSpec.ofChange fnExactUnusedInSpec)

/-- ITS FALSE NEIGHBOUR: 'it returns false'. Refute it at one input. -/
def fnExactUnusedInWrong : ChangeSpec := { name := "fnExactUnusedIn", fn := fun _ => fun
  | [d] => { results := [.lit (.bool false)], args := [d] }
  | _ => none }
def FnExactUnusedInWrongFalsely : Prop := fnExactUnusedInRow.holds Try.pinned (OpenSpec.ofChange fnExactUnusedInWrong)

/-- 'laws.FnExactConsOfSort': WHATEVER THE INPUT: true; the input reads as it did. -/
def fnExactConsOfSortSpec : ChangeSpec := { name := "fnExactConsOfSort", fn := fun _ => fun
  | [d1, d2] => { results := [.lit (.bool true)], args := [d1, d2] }
  | _ => none }
def fnExactConsOfSortRow : OpenClaim := { program := "ytphneohnocljcaa", sum := "9827ba45dd281ceb30bd4ddaa95640e4748e711067caecaf7b1c34910006d7a2", func := "loop.example/g00584/laws.FnExactConsOfSort", spec := "fnExactConsOfSort", apart := false }
def FnExactConsOfSortSaid : Prop := fnExactConsOfSortRow.holds Try.pinned (OpenSpec.ofChange fnExactConsOfSortSpec)

/-- ITS FALSE NEIGHBOUR: 'it returns false'. Refute it at one input. -/
def fnExactConsOfSortWrong : ChangeSpec := { name := "fnExactConsOfSort", fn := fun _ => fun
  | [d1, d2] => { results := [.lit (.bool false)], args := [d1, d2] }
  | _ => none }
def FnExactConsOfSortWrongFalsely : Prop := fnExactConsOfSortRow.holds Try.pinned (OpenSpec.ofChange fnExactConsOfSortWrong)

/-- 'laws.FnExactRepeatedIn': WHATEVER THE INPUT: true; the input reads as it did. -/
def fnExactRepeatedInSpec : ChangeSpec := { name := "fnExactRepeatedIn", fn := fun _ => fun
  | [d] => { results := [.lit (.bool true)], args := [d] }
  | _ => none }
def fnExactRepeatedInRow : OpenClaim := { program := "ytphneohnocljcaa", sum := "9827ba45dd281ceb30bd4ddaa95640e4748e711067caecaf7b1c34910006d7a2", func := "loop.example/g00584/laws.FnExactRepeatedIn", spec := "fnExactRepeatedIn", unfollowed := true, recurses := true, loops := true, apart := false }
def FnExactRepeatedInSaid : Prop := fnExactRepeatedInRow.holds Try.pinned (OpenSpec.ofChange fnExactRepeatedInSpec)

/-- ITS FALSE NEIGHBOUR: 'it returns false'. Refute it at one input. -/
def fnExactRepeatedInWrong : ChangeSpec := { name := "fnExactRepeatedIn", fn := fun _ => fun
  | [d] => { results := [.lit (.bool false)], args := [d] }
  | _ => none }
def FnExactRepeatedInWrongFalsely : Prop := fnExactRepeatedInRow.holds Try.pinned (OpenSpec.ofChange fnExactRepeatedInWrong)

/-- 'laws.FnExactAncestorsOf': WHATEVER THE INPUT: true; the input reads as it did. -/
def fnExactAncestorsOfSpec : ChangeSpec := { name := "fnExactAncestorsOf", fn := fun _ => fun
  | [d1, d2] => { results := [.lit (.bool true)], args := [d1, d2] }
  | _ => none }
def fnExactAncestorsOfRow : OpenClaim := { program := "ytphneohnocljcaa", sum := "9827ba45dd281ceb30bd4ddaa95640e4748e711067caecaf7b1c34910006d7a2", func := "loop.example/g00584/laws.FnExactAncestorsOf", spec := "fnExactAncestorsOf", recurses := true, loops := true, apart := false }
def FnExactAncestorsOfSaid : Prop := fnExactAncestorsOfRow.holds Try.pinned (OpenSpec.ofChange fnExactAncestorsOfSpec)

/-- ITS FALSE NEIGHBOUR: 'it returns false'. Refute it at one input. -/
def fnExactAncestorsOfWrong : ChangeSpec := { name := "fnExactAncestorsOf", fn := fun _ => fun
  | [d1, d2] => { results := [.lit (.bool false)], args := [d1, d2] }
  | _ => none }
def FnExactAncestorsOfWrongFalsely : Prop := fnExactAncestorsOfRow.holds Try.pinned (OpenSpec.ofChange fnExactAncestorsOfWrong)

/-- 'laws.FnExactIsRecursive': WHATEVER THE INPUT: true; the input reads as it did. -/
def fnExactIsRecursiveSpec : ChangeSpec := { name := "fnExactIsRecursive", fn := fun _ => fun
  | [d1, d2] => { results := [.lit (.bool true)], args := [d1, d2] }
  | _ => none }
def fnExactIsRecursiveRow : OpenClaim := { program := "ytphneohnocljcaa", sum := "9827ba45dd281ceb30bd4ddaa95640e4748e711067caecaf7b1c34910006d7a2", func := "loop.example/g00584/laws.FnExactIsRecursive", spec := "fnExactIsRecursive", unfollowed := true, recurses := true, loops := true, apart := false }
def FnExactIsRecursiveSaid : Prop := fnExactIsRecursiveRow.holds Try.pinned (OpenSpec.ofChange fnExactIsRecursiveSpec)

/-- ITS FALSE NEIGHBOUR: 'it returns false'. Refute it at one input. -/
def fnExactIsRecursiveWrong : ChangeSpec := { name := "fnExactIsRecursive", fn := fun _ => fun
  | [d1, d2] => { results := [.lit (.bool false)], args := [d1, d2] }
  | _ => none }
def FnExactIsRecursiveWrongFalsely : Prop := fnExactIsRecursiveRow.holds Try.pinned (OpenSpec.ofChange fnExactIsRecursiveWrong)

/- THE SECOND FORM. 'bulk': how many values and letters a reading holds, each counted each time it is reached (what is shared counts as often as it is met; a slice's spare places count too). A statement '..UptoSaid' is the law's where the arguments, and the package variables that the reading takes, are together of bulk at most 1048576: NARROWER than '..Said'. Prove '..Said' where nothing that the law and all that it calls make is longer than what came in: it says more and counts as full. Else prove '..UptoSaid'. A law counts once. -/
mutual
def uptoBulk {H : Type} : DataW H → Nat
  | .lit (.string bytes) => bytes.length + 1
  | .lit _ => 1
  | .nil => 1
  | .ptr d => uptoBulk d + 1
  | .slice elems spare => uptoBulkAll elems + uptoBulkAll spare + 1
  | .agg parts => uptoBulkAll parts + 1
  | .iface _ d => uptoBulk d + 1
  | .map entries => uptoBulkEntries entries + 1
  | .held _ => 1
def uptoBulkAll {H : Type} : List (DataW H) → Nat
  | [] => 0
  | d :: r => uptoBulk d + uptoBulkAll r
def uptoBulkEntries {H : Type} : List (Lit × DataW H) → Nat
  | [] => 0
  | x :: r => uptoBulkEntry x + uptoBulkEntries r
def uptoBulkEntry {H : Type} : Lit × DataW H → Nat
  | (.string bytes, d) => bytes.length + uptoBulk d + 1
  | (_, d) => uptoBulk d + 1
 end
def uptoSmall : (H : Type) → List (DataW H) → Bool := fun _ ds => decide (uptoBulkAll ds ≤ 1048576)
def OpenSpec.upto (s : _root_.Go.ChangeSpec) : _root_.Go.OpenSpec := { _root_.Go.OpenSpec.ofChange s with cond := some uptoSmall }

/-- 'laws.FnExactCalledIn', WHERE WHAT IT READS IS OF BULK AT MOST 1048576: true; the input reads as it did. -/
def fnExactCalledInUptoRow : OpenClaim := { program := "ytphneohnocljcaa", sum := "9827ba45dd281ceb30bd4ddaa95640e4748e711067caecaf7b1c34910006d7a2", func := "loop.example/g00584/laws.FnExactCalledIn", spec := "fnExactCalledIn", unfollowed := true, recurses := true, loops := true, apart := false, narrowed := true }
def FnExactCalledInUptoSaid : Prop := fnExactCalledInUptoRow.holds Try.pinned (OpenSpec.upto fnExactCalledInSpec)

/-- 'laws.FnExactFunctionsOf', WHERE WHAT IT READS IS OF BULK AT MOST 1048576: true; the input reads as it did. -/
def fnExactFunctionsOfUptoRow : OpenClaim := { program := "ytphneohnocljcaa", sum := "9827ba45dd281ceb30bd4ddaa95640e4748e711067caecaf7b1c34910006d7a2", func := "loop.example/g00584/laws.FnExactFunctionsOf", spec := "fnExactFunctionsOf", recurses := true, loops := true, apart := false, narrowed := true }
def FnExactFunctionsOfUptoSaid : Prop := fnExactFunctionsOfUptoRow.holds Try.pinned (OpenSpec.upto fnExactFunctionsOfSpec)

/-- 'laws.FnExactCalledBy', WHERE WHAT IT READS IS OF BULK AT MOST 1048576: true; the input reads as it did. -/
def fnExactCalledByUptoRow : OpenClaim := { program := "ytphneohnocljcaa", sum := "9827ba45dd281ceb30bd4ddaa95640e4748e711067caecaf7b1c34910006d7a2", func := "loop.example/g00584/laws.FnExactCalledBy", spec := "fnExactCalledBy", unfollowed := true, recurses := true, loops := true, apart := false, narrowed := true }
def FnExactCalledByUptoSaid : Prop := fnExactCalledByUptoRow.holds Try.pinned (OpenSpec.upto fnExactCalledBySpec)

/-- 'laws.FnExactUnusedIn', WHERE WHAT IT READS IS OF BULK AT MOST 1048576: true; the input reads as it did. -/
def fnExactUnusedInUptoRow : OpenClaim := { program := "ytphneohnocljcaa", sum := "9827ba45dd281ceb30bd4ddaa95640e4748e711067caecaf7b1c34910006d7a2", func := "loop.example/g00584/laws.FnExactUnusedIn", spec := "fnExactUnusedIn", unfollowed := true, recurses := true, loops := true, apart := false, narrowed := true }
def FnExactUnusedInUptoSaid : Prop := fnExactUnusedInUptoRow.holds Try.pinned (OpenSpec.upto fnExactUnusedInSpec)

/-- 'laws.FnExactConsOfSort', WHERE WHAT IT READS IS OF BULK AT MOST 1048576: true; the input reads as it did. -/
def fnExactConsOfSortUptoRow : OpenClaim := { program := "ytphneohnocljcaa", sum := "9827ba45dd281ceb30bd4ddaa95640e4748e711067caecaf7b1c34910006d7a2", func := "loop.example/g00584/laws.FnExactConsOfSort", spec := "fnExactConsOfSort", apart := false, narrowed := true }
def FnExactConsOfSortUptoSaid : Prop := fnExactConsOfSortUptoRow.holds Try.pinned (OpenSpec.upto fnExactConsOfSortSpec)

/-- 'laws.FnExactRepeatedIn', WHERE WHAT IT READS IS OF BULK AT MOST 1048576: true; the input reads as it did. -/
def fnExactRepeatedInUptoRow : OpenClaim := { program := "ytphneohnocljcaa", sum := "9827ba45dd281ceb30bd4ddaa95640e4748e711067caecaf7b1c34910006d7a2", func := "loop.example/g00584/laws.FnExactRepeatedIn", spec := "fnExactRepeatedIn", unfollowed := true, recurses := true, loops := true, apart := false, narrowed := true }
def FnExactRepeatedInUptoSaid : Prop := fnExactRepeatedInUptoRow.holds Try.pinned (OpenSpec.upto fnExactRepeatedInSpec)

/-- 'laws.FnExactAncestorsOf', WHERE WHAT IT READS IS OF BULK AT MOST 1048576: true; the input reads as it did. -/
def fnExactAncestorsOfUptoRow : OpenClaim := { program := "ytphneohnocljcaa", sum := "9827ba45dd281ceb30bd4ddaa95640e4748e711067caecaf7b1c34910006d7a2", func := "loop.example/g00584/laws.FnExactAncestorsOf", spec := "fnExactAncestorsOf", recurses := true, loops := true, apart := false, narrowed := true }
def FnExactAncestorsOfUptoSaid : Prop := fnExactAncestorsOfUptoRow.holds Try.pinned (OpenSpec.upto fnExactAncestorsOfSpec)

/-- 'laws.FnExactIsRecursive', WHERE WHAT IT READS IS OF BULK AT MOST 1048576: true; the input reads as it did. -/
def fnExactIsRecursiveUptoRow : OpenClaim := { program := "ytphneohnocljcaa", sum := "9827ba45dd281ceb30bd4ddaa95640e4748e711067caecaf7b1c34910006d7a2", func := "loop.example/g00584/laws.FnExactIsRecursive", spec := "fnExactIsRecursive", unfollowed := true, recurses := true, loops := true, apart := false, narrowed := true }
def FnExactIsRecursiveUptoSaid : Prop := fnExactIsRecursiveUptoRow.holds Try.pinned (OpenSpec.upto fnExactIsRecursiveSpec)

end Rows
end Go.Proofs.Ytphneohnocljcaa
