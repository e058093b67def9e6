/-
  NARROWER THAN 'FOR EVERY INPUT', by the rows' own cells (each row's printed sentence says how): FnExactRepeatedIn: loops · FnExactUnusedIn: loops · FnExactCalledBy: loops · FnExactIsRecursive: loops · FnExactReachableFrom: loops · FnExactComponentsOf: loops.
  DERIVED. THE GIVEN ROWS OF THIS SEAT. 9 by the template 'for every input the law returns true; each argument reads behind the call as it read before'; 0 by the template 'total and deterministic' (their statements: YtamicpfjieandaaTotals.lean).
  GIVEN WITH THE SEED: the statements are not yours to turn. If you find one false, say at which input.
  Laid BY PROGRAM, IN A SANDBOX (cutbox-rows.mjs): the forced cells as the released guide's own fill.sh prints them over the translation 56fb0c40f65ac046… (all of the seat's roots in one cut). By AI agents, Wed Nov 11 2026. No macro, syntax, notation, axiom, sorry.
-/
import Derived.Test.YtamicpfjieandaaChecked
import GoSem.Claim
import GoSem.ClaimJoined
import GoSem.ClaimMapViews
import Derived.JoinedTies
import Derived.KernelRfl
namespace Go.Proofs.Ytamicpfjieandaa
/- THE CELL 'sum', in the pinned program and in every row, IS THE sha256 OF THE DUMP (.gsa) THAT YtamicpfjieandaaProg.lean LOADS. Nothing in Lean hashes anything: it is a label: what it is worth is what the hold of that sum in a sandbox is worth. -/
noncomputable def Try.pinned : Pinned := { name := "ytamicpfjieandaa", sum := "56fb0c40f65ac046da5b0a73f42172f97c663bda6197b881563579c25dbf2e23", checked := Try.checked }
namespace Rows
def none {H : Type} : Left H := { results := [], args := [] }

/-- 'laws.FnExactRepeatedIn': WHATEVER THE INPUT: true; the input reads as it did. -/
def fnExactRepeatedInSpec : ChangeSpec := { name := "fnExactRepeatedIn", fn := fun _ => fun
  | [d] => { results := [.lit (.bool true)], args := [d] }
  | _ => none }
def fnExactRepeatedInRow : OpenClaim := { program := "ytamicpfjieandaa", sum := "56fb0c40f65ac046da5b0a73f42172f97c663bda6197b881563579c25dbf2e23", func := "loop.example/g00584/laws.FnExactRepeatedIn", spec := "fnExactRepeatedIn", unfollowed := true, recurses := true, loops := true, apart := false }
def FnExactRepeatedInSaid : Prop := fnExactRepeatedInRow.holds Try.pinned (OpenSpec.ofChange fnExactRepeatedInSpec)

/-- ITS FALSE NEIGHBOUR: 'it returns false'. Refute it at one input. -/
def fnExactRepeatedInWrong : ChangeSpec := { name := "fnExactRepeatedIn", fn := fun _ => fun
  | [d] => { results := [.lit (.bool false)], args := [d] }
  | _ => none }
def FnExactRepeatedInWrongFalsely : Prop := fnExactRepeatedInRow.holds Try.pinned (OpenSpec.ofChange fnExactRepeatedInWrong)

/-- 'laws.FnExactUnusedIn': WHATEVER THE INPUT: true; the input reads as it did. -/
def fnExactUnusedInSpec : ChangeSpec := { name := "fnExactUnusedIn", fn := fun _ => fun
  | [d] => { results := [.lit (.bool true)], args := [d] }
  | _ => none }
def fnExactUnusedInRow : OpenClaim := { program := "ytamicpfjieandaa", sum := "56fb0c40f65ac046da5b0a73f42172f97c663bda6197b881563579c25dbf2e23", func := "loop.example/g00584/laws.FnExactUnusedIn", spec := "fnExactUnusedIn", unfollowed := true, recurses := true, loops := true, apart := false }
def FnExactUnusedInSaid : Prop := fnExactUnusedInRow.holds Try.pinned (OpenSpec.ofChange fnExactUnusedInSpec)

/-- ITS FALSE NEIGHBOUR: 'it returns false'. Refute it at one input. -/
def fnExactUnusedInWrong : ChangeSpec := { name := "fnExactUnusedIn", fn := fun _ => fun
  | [d] => { results := [.lit (.bool false)], args := [d] }
  | _ => none }
def FnExactUnusedInWrongFalsely : Prop := fnExactUnusedInRow.holds Try.pinned (OpenSpec.ofChange fnExactUnusedInWrong)

/-- 'laws.FnExactCalledBy': WHATEVER THE INPUT: true; the input reads as it did. -/
def fnExactCalledBySpec : ChangeSpec := { name := "fnExactCalledBy", fn := fun _ => fun
  | [d1, d2] => { results := [.lit (.bool true)], args := [d1, d2] }
  | _ => none }
def fnExactCalledByRow : OpenClaim := { program := "ytamicpfjieandaa", sum := "56fb0c40f65ac046da5b0a73f42172f97c663bda6197b881563579c25dbf2e23", func := "loop.example/g00584/laws.FnExactCalledBy", spec := "fnExactCalledBy", unfollowed := true, recurses := true, loops := true, apart := false }
def FnExactCalledBySaid : Prop := fnExactCalledByRow.holds Try.pinned (OpenSpec.ofChange fnExactCalledBySpec)

/-- ITS FALSE NEIGHBOUR: 'it returns false'. Refute it at one input. -/
def fnExactCalledByWrong : ChangeSpec := { name := "fnExactCalledBy", fn := fun _ => fun
  | [d1, d2] => { results := [.lit (.bool false)], args := [d1, d2] }
  | _ => none }
def FnExactCalledByWrongFalsely : Prop := fnExactCalledByRow.holds Try.pinned (OpenSpec.ofChange fnExactCalledByWrong)

/-- 'laws.FnExactConsOfSort': WHATEVER THE INPUT: true; the input reads as it did. -/
def fnExactConsOfSortSpec : ChangeSpec := { name := "fnExactConsOfSort", fn := fun _ => fun
  | [d1, d2] => { results := [.lit (.bool true)], args := [d1, d2] }
  | _ => none }
def fnExactConsOfSortRow : OpenClaim := { program := "ytamicpfjieandaa", sum := "56fb0c40f65ac046da5b0a73f42172f97c663bda6197b881563579c25dbf2e23", func := "loop.example/g00584/laws.FnExactConsOfSort", spec := "fnExactConsOfSort", apart := false }
def FnExactConsOfSortSaid : Prop := fnExactConsOfSortRow.holds Try.pinned (OpenSpec.ofChange fnExactConsOfSortSpec)

/-- ITS FALSE NEIGHBOUR: 'it returns false'. Refute it at one input. -/
def fnExactConsOfSortWrong : ChangeSpec := { name := "fnExactConsOfSort", fn := fun _ => fun
  | [d1, d2] => { results := [.lit (.bool false)], args := [d1, d2] }
  | _ => none }
def FnExactConsOfSortWrongFalsely : Prop := fnExactConsOfSortRow.holds Try.pinned (OpenSpec.ofChange fnExactConsOfSortWrong)

/-- 'laws.FnExactIsRecursive': WHATEVER THE INPUT: true; the input reads as it did. -/
def fnExactIsRecursiveSpec : ChangeSpec := { name := "fnExactIsRecursive", fn := fun _ => fun
  | [d1, d2] => { results := [.lit (.bool true)], args := [d1, d2] }
  | _ => none }
def fnExactIsRecursiveRow : OpenClaim := { program := "ytamicpfjieandaa", sum := "56fb0c40f65ac046da5b0a73f42172f97c663bda6197b881563579c25dbf2e23", func := "loop.example/g00584/laws.FnExactIsRecursive", spec := "fnExactIsRecursive", unfollowed := true, recurses := true, loops := true, apart := false }
def FnExactIsRecursiveSaid : Prop := fnExactIsRecursiveRow.holds Try.pinned (OpenSpec.ofChange fnExactIsRecursiveSpec)

/-- ITS FALSE NEIGHBOUR: 'it returns false'. Refute it at one input. -/
def fnExactIsRecursiveWrong : ChangeSpec := { name := "fnExactIsRecursive", fn := fun _ => fun
  | [d1, d2] => { results := [.lit (.bool false)], args := [d1, d2] }
  | _ => none }
def FnExactIsRecursiveWrongFalsely : Prop := fnExactIsRecursiveRow.holds Try.pinned (OpenSpec.ofChange fnExactIsRecursiveWrong)

/-- 'laws.FnExactReachableFrom': WHATEVER THE INPUT: true; the input reads as it did. -/
def fnExactReachableFromSpec : ChangeSpec := { name := "fnExactReachableFrom", fn := fun _ => fun
  | [d1, d2] => { results := [.lit (.bool true)], args := [d1, d2] }
  | _ => none }
def fnExactReachableFromRow : OpenClaim := { program := "ytamicpfjieandaa", sum := "56fb0c40f65ac046da5b0a73f42172f97c663bda6197b881563579c25dbf2e23", func := "loop.example/g00584/laws.FnExactReachableFrom", spec := "fnExactReachableFrom", unfollowed := true, recurses := true, loops := true, apart := false }
def FnExactReachableFromSaid : Prop := fnExactReachableFromRow.holds Try.pinned (OpenSpec.ofChange fnExactReachableFromSpec)

/-- ITS FALSE NEIGHBOUR: 'it returns false'. Refute it at one input. -/
def fnExactReachableFromWrong : ChangeSpec := { name := "fnExactReachableFrom", fn := fun _ => fun
  | [d1, d2] => { results := [.lit (.bool false)], args := [d1, d2] }
  | _ => none }
def FnExactReachableFromWrongFalsely : Prop := fnExactReachableFromRow.holds Try.pinned (OpenSpec.ofChange fnExactReachableFromWrong)

/-- 'laws.FnExactComponentsOf': WHATEVER THE INPUT: true; the input reads as it did. -/
def fnExactComponentsOfSpec : ChangeSpec := { name := "fnExactComponentsOf", fn := fun _ => fun
  | [d] => { results := [.lit (.bool true)], args := [d] }
  | _ => none }
def fnExactComponentsOfRow : OpenClaim := { program := "ytamicpfjieandaa", sum := "56fb0c40f65ac046da5b0a73f42172f97c663bda6197b881563579c25dbf2e23", func := "loop.example/g00584/laws.FnExactComponentsOf", spec := "fnExactComponentsOf", unfollowed := true, recurses := true, loops := true, apart := false }
def FnExactComponentsOfSaid : Prop := fnExactComponentsOfRow.holds Try.pinned (OpenSpec.ofChange fnExactComponentsOfSpec)

/-- ITS FALSE NEIGHBOUR: 'it returns false'. Refute it at one input. -/
def fnExactComponentsOfWrong : ChangeSpec := { name := "fnExactComponentsOf", fn := fun _ => fun
  | [d] => { results := [.lit (.bool false)], args := [d] }
  | _ => none }
def FnExactComponentsOfWrongFalsely : Prop := fnExactComponentsOfRow.holds Try.pinned (OpenSpec.ofChange fnExactComponentsOfWrong)

/-- 'laws.FnExactInputsOfSize': WHATEVER THE INPUT: true; the input reads as it did. -/
def fnExactInputsOfSizeSpec : ChangeSpec := { name := "fnExactInputsOfSize", fn := fun _ => fun
  | [d1, d2] => { results := [.lit (.bool true)], args := [d1, d2] }
  | _ => none }
def fnExactInputsOfSizeRow : OpenClaim := { program := "ytamicpfjieandaa", sum := "56fb0c40f65ac046da5b0a73f42172f97c663bda6197b881563579c25dbf2e23", func := "loop.example/g00584/laws.FnExactInputsOfSize", spec := "fnExactInputsOfSize", unfollowed := true, recurses := true, apart := false }
def FnExactInputsOfSizeSaid : Prop := fnExactInputsOfSizeRow.holds Try.pinned (OpenSpec.ofChange fnExactInputsOfSizeSpec)

/-- ITS FALSE NEIGHBOUR: 'it returns false'. Refute it at one input. -/
def fnExactInputsOfSizeWrong : ChangeSpec := { name := "fnExactInputsOfSize", fn := fun _ => fun
  | [d1, d2] => { results := [.lit (.bool false)], args := [d1, d2] }
  | _ => none }
def FnExactInputsOfSizeWrongFalsely : Prop := fnExactInputsOfSizeRow.holds Try.pinned (OpenSpec.ofChange fnExactInputsOfSizeWrong)

/-- 'laws.FnExactInputsUpTo': WHATEVER THE INPUT: true; the input reads as it did. -/
def fnExactInputsUpToSpec : ChangeSpec := { name := "fnExactInputsUpTo", fn := fun _ => fun
  | [d1, d2] => { results := [.lit (.bool true)], args := [d1, d2] }
  | _ => none }
def fnExactInputsUpToRow : OpenClaim := { program := "ytamicpfjieandaa", sum := "56fb0c40f65ac046da5b0a73f42172f97c663bda6197b881563579c25dbf2e23", func := "loop.example/g00584/laws.FnExactInputsUpTo", spec := "fnExactInputsUpTo", unfollowed := true, recurses := true, apart := false }
def FnExactInputsUpToSaid : Prop := fnExactInputsUpToRow.holds Try.pinned (OpenSpec.ofChange fnExactInputsUpToSpec)

/-- ITS FALSE NEIGHBOUR: 'it returns false'. Refute it at one input. -/
def fnExactInputsUpToWrong : ChangeSpec := { name := "fnExactInputsUpTo", fn := fun _ => fun
  | [d1, d2] => { results := [.lit (.bool false)], args := [d1, d2] }
  | _ => none }
def FnExactInputsUpToWrongFalsely : Prop := fnExactInputsUpToRow.holds Try.pinned (OpenSpec.ofChange fnExactInputsUpToWrong)

/- THE SECOND FORM. 'bulk': how many values and letters a reading holds, each counted each time it is reached (what is shared counts as often as it is met; a slice's spare places count too). A statement '..UptoSaid' is the law's where the arguments, and the package variables that the reading takes, are together of bulk at most 1048576: NARROWER than '..Said'. Prove '..Said' where nothing that the law and all that it calls make is longer than what came in: it says more and counts as full. Else prove '..UptoSaid'. A law counts once. -/
mutual
def uptoBulk {H : Type} : DataW H → Nat
  | .lit (.string bytes) => bytes.length + 1
  | .lit _ => 1
  | .nil => 1
  | .ptr d => uptoBulk d + 1
  | .slice elems spare => uptoBulkAll elems + uptoBulkAll spare + 1
  | .agg parts => uptoBulkAll parts + 1
  | .iface _ d => uptoBulk d + 1
  | .map entries => uptoBulkEntries entries + 1
  | .held _ => 1
def uptoBulkAll {H : Type} : List (DataW H) → Nat
  | [] => 0
  | d :: r => uptoBulk d + uptoBulkAll r
def uptoBulkEntries {H : Type} : List (Lit × DataW H) → Nat
  | [] => 0
  | x :: r => uptoBulkEntry x + uptoBulkEntries r
def uptoBulkEntry {H : Type} : Lit × DataW H → Nat
  | (.string bytes, d) => bytes.length + uptoBulk d + 1
  | (_, d) => uptoBulk d + 1
 end
def uptoSmall : (H : Type) → List (DataW H) → Bool := fun _ ds => decide (uptoBulkAll ds ≤ 1048576)
def OpenSpec.upto (s : _root_.Go.ChangeSpec) : _root_.Go.OpenSpec := { _root_.Go.OpenSpec.ofChange s with cond := some uptoSmall }

/-- 'laws.FnExactRepeatedIn', WHERE WHAT IT READS IS OF BULK AT MOST 1048576: true; the input reads as it did. -/
def fnExactRepeatedInUptoRow : OpenClaim := { program := "ytamicpfjieandaa", sum := "56fb0c40f65ac046da5b0a73f42172f97c663bda6197b881563579c25dbf2e23", func := "loop.example/g00584/laws.FnExactRepeatedIn", spec := "fnExactRepeatedIn", unfollowed := true, recurses := true, loops := true, apart := false, narrowed := true }
def FnExactRepeatedInUptoSaid : Prop := fnExactRepeatedInUptoRow.holds Try.pinned (OpenSpec.upto fnExactRepeatedInSpec)

/-- 'laws.FnExactUnusedIn', WHERE WHAT IT READS IS OF BULK AT MOST 1048576: true; the input reads as it did. -/
def fnExactUnusedInUptoRow : OpenClaim := { program := "ytamicpfjieandaa", sum := "56fb0c40f65ac046da5b0a73f42172f97c663bda6197b881563579c25dbf2e23", func := "loop.example/g00584/laws.FnExactUnusedIn", spec := "fnExactUnusedIn", unfollowed := true, recurses := true, loops := true, apart := false, narrowed := true }
def FnExactUnusedInUptoSaid : Prop := fnExactUnusedInUptoRow.holds Try.pinned (OpenSpec.upto fnExactUnusedInSpec)

/-- 'laws.FnExactCalledBy', WHERE WHAT IT READS IS OF BULK AT MOST 1048576: true; the input reads as it did. -/
def fnExactCalledByUptoRow : OpenClaim := { program := "ytamicpfjieandaa", sum := "56fb0c40f65ac046da5b0a73f42172f97c663bda6197b881563579c25dbf2e23", func := "loop.example/g00584/laws.FnExactCalledBy", spec := "fnExactCalledBy", unfollowed := true, recurses := true, loops := true, apart := false, narrowed := true }
def FnExactCalledByUptoSaid : Prop := fnExactCalledByUptoRow.holds Try.pinned (OpenSpec.upto fnExactCalledBySpec)

/-- 'laws.FnExactConsOfSort', WHERE WHAT IT READS IS OF BULK AT MOST 1048576: true; the input reads as it did. -/
def fnExactConsOfSortUptoRow : OpenClaim := { program := "ytamicpfjieandaa", sum := "56fb0c40f65ac046da5b0a73f42172f97c663bda6197b881563579c25dbf2e23", func := "loop.example/g00584/laws.FnExactConsOfSort", spec := "fnExactConsOfSort", apart := false, narrowed := true }
def FnExactConsOfSortUptoSaid : Prop := fnExactConsOfSortUptoRow.holds Try.pinned (OpenSpec.upto fnExactConsOfSortSpec)

/-- 'laws.FnExactIsRecursive', WHERE WHAT IT READS IS OF BULK AT MOST 1048576: true; the input reads as it did. -/
def fnExactIsRecursiveUptoRow : OpenClaim := { program := "ytamicpfjieandaa", sum := "56fb0c40f65ac046da5b0a73f42172f97c663bda6197b881563579c25dbf2e23", func := "loop.example/g00584/laws.FnExactIsRecursive", spec := "fnExactIsRecursive", unfollowed := true, recurses := true, loops := true, apart := false, narrowed := true }
def FnExactIsRecursiveUptoSaid : Prop := fnExactIsRecursiveUptoRow.holds Try.pinned (OpenSpec.upto fnExactIsRecursiveSpec)

/-- 'laws.FnExactReachableFrom', WHERE WHAT IT READS IS OF BULK AT MOST 1048576: true; the input reads as it did. -/
def fnExactReachableFromUptoRow : OpenClaim := { program := "ytamicpfjieandaa", sum := "56fb0c40f65ac046da5b0a73f42172f97c663bda6197b881563579c25dbf2e23", func := "loop.example/g00584/laws.FnExactReachableFrom", spec := "fnExactReachableFrom", unfollowed := true, recurses := true, loops := true, apart := false, narrowed := true }
def FnExactReachableFromUptoSaid : Prop := fnExactReachableFromUptoRow.holds Try.pinned (OpenSpec.upto fnExactReachableFromSpec)

/-- 'laws.FnExactComponentsOf', WHERE WHAT IT READS IS OF BULK AT MOST 1048576: true; the input reads as it did. -/
def fnExactComponentsOfUptoRow : OpenClaim := { program := "ytamicpfjieandaa", sum := "56fb0c40f65ac046da5b0a73f42172f97c663bda6197b881563579c25dbf2e23", func := "loop.example/g00584/laws.FnExactComponentsOf", spec := "fnExactComponentsOf", unfollowed := true, recurses := true, loops := true, apart := false, narrowed := true }
def FnExactComponentsOfUptoSaid : Prop := fnExactComponentsOfUptoRow.holds Try.pinned (OpenSpec.upto fnExactComponentsOfSpec)

/-- 'laws.FnExactInputsOfSize', WHERE WHAT IT READS IS OF BULK AT MOST 1048576: true; the input reads as it did. -/
def fnExactInputsOfSizeUptoRow : OpenClaim := { program := "ytamicpfjieandaa", sum := "56fb0c40f65ac046da5b0a73f42172f97c663bda6197b881563579c25dbf2e23", func := "loop.example/g00584/laws.FnExactInputsOfSize", spec := "fnExactInputsOfSize", unfollowed := true, recurses := true, apart := false, narrowed := true }
def FnExactInputsOfSizeUptoSaid : Prop := fnExactInputsOfSizeUptoRow.holds Try.pinned (OpenSpec.upto fnExactInputsOfSizeSpec)

/-- 'laws.FnExactInputsUpTo', WHERE WHAT IT READS IS OF BULK AT MOST 1048576: true; the input reads as it did. -/
def fnExactInputsUpToUptoRow : OpenClaim := { program := "ytamicpfjieandaa", sum := "56fb0c40f65ac046da5b0a73f42172f97c663bda6197b881563579c25dbf2e23", func := "loop.example/g00584/laws.FnExactInputsUpTo", spec := "fnExactInputsUpTo", unfollowed := true, recurses := true, apart := false, narrowed := true }
def FnExactInputsUpToUptoSaid : Prop := fnExactInputsUpToUptoRow.holds Try.pinned (OpenSpec.upto fnExactInputsUpToSpec)

end Rows
end Go.Proofs.Ytamicpfjieandaa
