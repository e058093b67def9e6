/-
  NARROWER THAN 'FOR EVERY INPUT', by the rows' own cells (each row's printed sentence says how): FnExactEqualResidual: loops · FnExactCountKind: loops · FnExactEqualTree: loops · FnExactIsTree: loops · FnExactIsRecursive: loops · FnExactSortOfExpr: loops.
  DERIVED. THE GIVEN ROWS OF THIS SEAT. 6 by the template 'for every input the law returns true; each argument reads behind the call as it read before'; 0 by the template 'total and deterministic' (their statements: YtdeabmjffccplaaTotals.lean).
  GIVEN WITH THE SEED: the statements are not yours to turn. If you find one false, say at which input.
  Laid BY PROGRAM, IN A SANDBOX (cutbox-rows.mjs): the forced cells as the released guide's own fill.sh prints them over the translation 905f49c75b1763f6… (all of the seat's roots in one cut). By AI agents, Wed Nov 11 2026. No macro, syntax, notation, axiom, sorry.
-/
import Derived.Test.YtdeabmjffccplaaChecked
import GoSem.Claim
import GoSem.ClaimJoined
import GoSem.ClaimMapViews
import Derived.JoinedTies
import Derived.KernelRfl
namespace Go.Proofs.Ytdeabmjffccplaa
/- THE CELL 'sum', in the pinned program and in every row, IS THE sha256 OF THE DUMP (.gsa) THAT YtdeabmjffccplaaProg.lean LOADS. Nothing in Lean hashes anything: it is a label: what it is worth is what the hold of that sum in a sandbox is worth. -/
noncomputable def Try.pinned : Pinned := { name := "ytdeabmjffccplaa", sum := "905f49c75b1763f66a7b6d7cf7f9573c5b281c883dd73e860e0e37651d595172", checked := Try.checked }
namespace Rows
def none {H : Type} : Left H := { results := [], args := [] }

/-- 'laws.FnExactEqualResidual': WHATEVER THE INPUT: true; the input reads as it did. -/
def fnExactEqualResidualSpec : ChangeSpec := { name := "fnExactEqualResidual", fn := fun _ => fun
  | [d1, d2] => { results := [.lit (.bool true)], args := [d1, d2] }
  | _ => none }
def fnExactEqualResidualRow : OpenClaim := { program := "ytdeabmjffccplaa", sum := "905f49c75b1763f66a7b6d7cf7f9573c5b281c883dd73e860e0e37651d595172", func := "loop.example/g00584/laws.FnExactEqualResidual", spec := "fnExactEqualResidual", unfollowed := true, recurses := true, loops := true, apart := false }
def FnExactEqualResidualSaid : Prop := fnExactEqualResidualRow.holds Try.pinned (OpenSpec.ofChange fnExactEqualResidualSpec)

/-- ITS FALSE NEIGHBOUR: 'it returns false'. Refute it at one input. -/
def fnExactEqualResidualWrong : ChangeSpec := { name := "fnExactEqualResidual", fn := fun _ => fun
  | [d1, d2] => { results := [.lit (.bool false)], args := [d1, d2] }
  | _ => none }
def FnExactEqualResidualWrongFalsely : Prop := fnExactEqualResidualRow.holds Try.pinned (OpenSpec.ofChange fnExactEqualResidualWrong)

/-- 'laws.FnExactCountKind': WHATEVER THE INPUT: true; the input reads as it did. -/
def fnExactCountKindSpec : ChangeSpec := { name := "fnExactCountKind", fn := fun _ => fun
  | [d1, d2] => { results := [.lit (.bool true)], args := [d1, d2] }
  | _ => none }
def fnExactCountKindRow : OpenClaim := { program := "ytdeabmjffccplaa", sum := "905f49c75b1763f66a7b6d7cf7f9573c5b281c883dd73e860e0e37651d595172", func := "loop.example/g00584/laws.FnExactCountKind", spec := "fnExactCountKind", recurses := true, loops := true, apart := false }
def FnExactCountKindSaid : Prop := fnExactCountKindRow.holds Try.pinned (OpenSpec.ofChange fnExactCountKindSpec)

/-- ITS FALSE NEIGHBOUR: 'it returns false'. Refute it at one input. -/
def fnExactCountKindWrong : ChangeSpec := { name := "fnExactCountKind", fn := fun _ => fun
  | [d1, d2] => { results := [.lit (.bool false)], args := [d1, d2] }
  | _ => none }
def FnExactCountKindWrongFalsely : Prop := fnExactCountKindRow.holds Try.pinned (OpenSpec.ofChange fnExactCountKindWrong)

/-- 'laws.FnExactEqualTree': WHATEVER THE INPUT: true; the input reads as it did. -/
def fnExactEqualTreeSpec : ChangeSpec := { name := "fnExactEqualTree", fn := fun _ => fun
  | [d1, d2] => { results := [.lit (.bool true)], args := [d1, d2] }
  | _ => none }
def fnExactEqualTreeRow : OpenClaim := { program := "ytdeabmjffccplaa", sum := "905f49c75b1763f66a7b6d7cf7f9573c5b281c883dd73e860e0e37651d595172", func := "loop.example/g00584/laws.FnExactEqualTree", spec := "fnExactEqualTree", unfollowed := true, recurses := true, loops := true, apart := false }
def FnExactEqualTreeSaid : Prop := fnExactEqualTreeRow.holds Try.pinned (OpenSpec.ofChange fnExactEqualTreeSpec)

/-- ITS FALSE NEIGHBOUR: 'it returns false'. Refute it at one input. -/
def fnExactEqualTreeWrong : ChangeSpec := { name := "fnExactEqualTree", fn := fun _ => fun
  | [d1, d2] => { results := [.lit (.bool false)], args := [d1, d2] }
  | _ => none }
def FnExactEqualTreeWrongFalsely : Prop := fnExactEqualTreeRow.holds Try.pinned (OpenSpec.ofChange fnExactEqualTreeWrong)

/-- 'laws.FnExactIsTree': WHATEVER THE INPUT: true; the input reads as it did. -/
def fnExactIsTreeSpec : ChangeSpec := { name := "fnExactIsTree", fn := fun _ => fun
  | [d] => { results := [.lit (.bool true)], args := [d] }
  | _ => none }
def fnExactIsTreeRow : OpenClaim := { program := "ytdeabmjffccplaa", sum := "905f49c75b1763f66a7b6d7cf7f9573c5b281c883dd73e860e0e37651d595172", func := "loop.example/g00584/laws.FnExactIsTree", spec := "fnExactIsTree", recurses := true, loops := true, apart := false }
def FnExactIsTreeSaid : Prop := fnExactIsTreeRow.holds Try.pinned (OpenSpec.ofChange fnExactIsTreeSpec)

/-- ITS FALSE NEIGHBOUR: 'it returns false'. Refute it at one input. -/
def fnExactIsTreeWrong : ChangeSpec := { name := "fnExactIsTree", fn := fun _ => fun
  | [d] => { results := [.lit (.bool false)], args := [d] }
  | _ => none }
def FnExactIsTreeWrongFalsely : Prop := fnExactIsTreeRow.holds Try.pinned (OpenSpec.ofChange fnExactIsTreeWrong)

/-- 'laws.FnExactIsRecursive': WHATEVER THE INPUT: true; the input reads as it did. -/
def fnExactIsRecursiveSpec : ChangeSpec := { name := "fnExactIsRecursive", fn := fun _ => fun
  | [d1, d2] => { results := [.lit (.bool true)], args := [d1, d2] }
  | _ => none }
def fnExactIsRecursiveRow : OpenClaim := { program := "ytdeabmjffccplaa", sum := "905f49c75b1763f66a7b6d7cf7f9573c5b281c883dd73e860e0e37651d595172", func := "loop.example/g00584/laws.FnExactIsRecursive", spec := "fnExactIsRecursive", unfollowed := true, recurses := true, loops := true, apart := false }
def FnExactIsRecursiveSaid : Prop := fnExactIsRecursiveRow.holds Try.pinned (OpenSpec.ofChange fnExactIsRecursiveSpec)

/-- ITS FALSE NEIGHBOUR: 'it returns false'. Refute it at one input. -/
def fnExactIsRecursiveWrong : ChangeSpec := { name := "fnExactIsRecursive", fn := fun _ => fun
  | [d1, d2] => { results := [.lit (.bool false)], args := [d1, d2] }
  | _ => none }
def FnExactIsRecursiveWrongFalsely : Prop := fnExactIsRecursiveRow.holds Try.pinned (OpenSpec.ofChange fnExactIsRecursiveWrong)

/-- 'laws.FnExactSortOfExpr': WHATEVER THE INPUT: true; the input reads as it did. -/
def fnExactSortOfExprSpec : ChangeSpec := { name := "fnExactSortOfExpr", fn := fun _ => fun
  | [d1, d2, d3] => { results := [.lit (.bool true)], args := [d1, d2, d3] }
  | _ => none }
def fnExactSortOfExprRow : OpenClaim := { program := "ytdeabmjffccplaa", sum := "905f49c75b1763f66a7b6d7cf7f9573c5b281c883dd73e860e0e37651d595172", func := "loop.example/g00584/laws.FnExactSortOfExpr", spec := "fnExactSortOfExpr", unfollowed := true, recurses := true, loops := true, apart := false }
def FnExactSortOfExprSaid : Prop := fnExactSortOfExprRow.holds Try.pinned (OpenSpec.ofChange fnExactSortOfExprSpec)

/-- ITS FALSE NEIGHBOUR: 'it returns false'. Refute it at one input. -/
def fnExactSortOfExprWrong : ChangeSpec := { name := "fnExactSortOfExpr", fn := fun _ => fun
  | [d1, d2, d3] => { results := [.lit (.bool false)], args := [d1, d2, d3] }
  | _ => none }
def FnExactSortOfExprWrongFalsely : Prop := fnExactSortOfExprRow.holds Try.pinned (OpenSpec.ofChange fnExactSortOfExprWrong)

/- THE SECOND FORM. 'bulk': how many values and letters a reading holds, each counted each time it is reached (what is shared counts as often as it is met; a slice's spare places count too). A statement '..UptoSaid' is the law's where the arguments, and the package variables that the reading takes, are together of bulk at most 1048576: NARROWER than '..Said'. Prove '..Said' where nothing that the law and all that it calls make is longer than what came in: it says more and counts as full. Else prove '..UptoSaid'. A law counts once. -/
mutual
def uptoBulk {H : Type} : DataW H → Nat
  | .lit (.string bytes) => bytes.length + 1
  | .lit _ => 1
  | .nil => 1
  | .ptr d => uptoBulk d + 1
  | .slice elems spare => uptoBulkAll elems + uptoBulkAll spare + 1
  | .agg parts => uptoBulkAll parts + 1
  | .iface _ d => uptoBulk d + 1
  | .map entries => uptoBulkEntries entries + 1
  | .held _ => 1
def uptoBulkAll {H : Type} : List (DataW H) → Nat
  | [] => 0
  | d :: r => uptoBulk d + uptoBulkAll r
def uptoBulkEntries {H : Type} : List (Lit × DataW H) → Nat
  | [] => 0
  | x :: r => uptoBulkEntry x + uptoBulkEntries r
def uptoBulkEntry {H : Type} : Lit × DataW H → Nat
  | (.string bytes, d) => bytes.length + uptoBulk d + 1
  | (_, d) => uptoBulk d + 1
 end
def uptoSmall : (H : Type) → List (DataW H) → Bool := fun _ ds => decide (uptoBulkAll ds ≤ 1048576)
def OpenSpec.upto (s : _root_.Go.ChangeSpec) : _root_.Go.OpenSpec := { _root_.Go.OpenSpec.ofChange s with cond := some uptoSmall }

/-- 'laws.FnExactEqualResidual', WHERE WHAT IT READS IS OF BULK AT MOST 1048576: true; the input reads as it did. -/
def fnExactEqualResidualUptoRow : OpenClaim := { program := "ytdeabmjffccplaa", sum := "905f49c75b1763f66a7b6d7cf7f9573c5b281c883dd73e860e0e37651d595172", func := "loop.example/g00584/laws.FnExactEqualResidual", spec := "fnExactEqualResidual", unfollowed := true, recurses := true, loops := true, apart := false, narrowed := true }
def FnExactEqualResidualUptoSaid : Prop := fnExactEqualResidualUptoRow.holds Try.pinned (OpenSpec.upto fnExactEqualResidualSpec)

/-- 'laws.FnExactCountKind', WHERE WHAT IT READS IS OF BULK AT MOST 1048576: true; the input reads as it did. -/
def fnExactCountKindUptoRow : OpenClaim := { program := "ytdeabmjffccplaa", sum := "905f49c75b1763f66a7b6d7cf7f9573c5b281c883dd73e860e0e37651d595172", func := "loop.example/g00584/laws.FnExactCountKind", spec := "fnExactCountKind", recurses := true, loops := true, apart := false, narrowed := true }
def FnExactCountKindUptoSaid : Prop := fnExactCountKindUptoRow.holds Try.pinned (OpenSpec.upto fnExactCountKindSpec)

/-- 'laws.FnExactEqualTree', WHERE WHAT IT READS IS OF BULK AT MOST 1048576: true; the input reads as it did. -/
def fnExactEqualTreeUptoRow : OpenClaim := { program := "ytdeabmjffccplaa", sum := "905f49c75b1763f66a7b6d7cf7f9573c5b281c883dd73e860e0e37651d595172", func := "loop.example/g00584/laws.FnExactEqualTree", spec := "fnExactEqualTree", unfollowed := true, recurses := true, loops := true, apart := false, narrowed := true }
def FnExactEqualTreeUptoSaid : Prop := fnExactEqualTreeUptoRow.holds Try.pinned (OpenSpec.upto fnExactEqualTreeSpec)

/-- 'laws.FnExactIsTree', WHERE WHAT IT READS IS OF BULK AT MOST 1048576: true; the input reads as it did. -/
def fnExactIsTreeUptoRow : OpenClaim := { program := "ytdeabmjffccplaa", sum := "905f49c75b1763f66a7b6d7cf7f9573c5b281c883dd73e860e0e37651d595172", func := "loop.example/g00584/laws.FnExactIsTree", spec := "fnExactIsTree", recurses := true, loops := true, apart := false, narrowed := true }
def FnExactIsTreeUptoSaid : Prop := fnExactIsTreeUptoRow.holds Try.pinned (OpenSpec.upto fnExactIsTreeSpec)

/-- 'laws.FnExactIsRecursive', WHERE WHAT IT READS IS OF BULK AT MOST 1048576: true; the input reads as it did. -/
def fnExactIsRecursiveUptoRow : OpenClaim := { program := "ytdeabmjffccplaa", sum := "905f49c75b1763f66a7b6d7cf7f9573c5b281c883dd73e860e0e37651d595172", func := "loop.example/g00584/laws.FnExactIsRecursive", spec := "fnExactIsRecursive", unfollowed := true, recurses := true, loops := true, apart := false, narrowed := true }
def FnExactIsRecursiveUptoSaid : Prop := fnExactIsRecursiveUptoRow.holds Try.pinned (OpenSpec.upto fnExactIsRecursiveSpec)

/-- 'laws.FnExactSortOfExpr', WHERE WHAT IT READS IS OF BULK AT MOST 1048576: true; the input reads as it did. -/
def fnExactSortOfExprUptoRow : OpenClaim := { program := "ytdeabmjffccplaa", sum := "905f49c75b1763f66a7b6d7cf7f9573c5b281c883dd73e860e0e37651d595172", func := "loop.example/g00584/laws.FnExactSortOfExpr", spec := "fnExactSortOfExpr", unfollowed := true, recurses := true, loops := true, apart := false, narrowed := true }
def FnExactSortOfExprUptoSaid : Prop := fnExactSortOfExprUptoRow.holds Try.pinned (OpenSpec.upto fnExactSortOfExprSpec)

end Rows
end Go.Proofs.Ytdeabmjffccplaa
