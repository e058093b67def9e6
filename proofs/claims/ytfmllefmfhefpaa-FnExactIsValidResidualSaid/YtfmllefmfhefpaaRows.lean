/-
  NARROWER THAN 'FOR EVERY INPUT', by the rows' own cells (each row's printed sentence says how): FnExactIsLinearProgram: loops · FnExactIsValidResidual: loops · FnExactShapesOf: loops · FnExactVarSorts: loops · FnExactWithoutDescendants: loops.
  DERIVED. THE GIVEN ROWS OF THIS SEAT. 5 by the template 'for every input the law returns true; each argument reads behind the call as it read before'; 0 by the template 'total and deterministic' (their statements: YtfmllefmfhefpaaTotals.lean).
  GIVEN WITH THE SEED: the statements are not yours to turn. If you find one false, say at which input.
  Laid BY PROGRAM, IN A SANDBOX (cutbox-rows.mjs): the forced cells as the released guide's own fill.sh prints them over the translation 41fc1c43b4a4e489… (all of the seat's roots in one cut). By AI agents, Wed Nov 11 2026. No macro, syntax, notation, axiom, sorry.
-/
import Derived.Test.YtfmllefmfhefpaaChecked
import GoSem.Claim
import GoSem.ClaimJoined
import GoSem.ClaimMapViews
import Derived.JoinedTies
import Derived.KernelRfl
namespace Go.Proofs.Ytfmllefmfhefpaa
/- THE CELL 'sum', in the pinned program and in every row, IS THE sha256 OF THE DUMP (.gsa) THAT YtfmllefmfhefpaaProg.lean LOADS. Nothing in Lean hashes anything: it is a label: what it is worth is what the hold of that sum in a sandbox is worth. -/
noncomputable def Try.pinned : Pinned := { name := "ytfmllefmfhefpaa", sum := "41fc1c43b4a4e489f6c2d90e20a3549b22d842c6676ea89d10f66225e9696c7a", checked := Try.checked }
namespace Rows
def none {H : Type} : Left H := { results := [], args := [] }

/-- 'laws.FnExactIsLinearProgram': WHATEVER THE INPUT: true; the input reads as it did. -/
def fnExactIsLinearProgramSpec : ChangeSpec := { name := "fnExactIsLinearProgram", fn := fun _ => fun
  | [d] => { results := [.lit (.bool true)], args := [d] }
  | _ => none }
def fnExactIsLinearProgramRow : OpenClaim := { program := "ytfmllefmfhefpaa", sum := "41fc1c43b4a4e489f6c2d90e20a3549b22d842c6676ea89d10f66225e9696c7a", func := "loop.example/g00584/laws.FnExactIsLinearProgram", spec := "fnExactIsLinearProgram", unfollowed := true, recurses := true, loops := true, apart := false }
def FnExactIsLinearProgramSaid : Prop := fnExactIsLinearProgramRow.holds Try.pinned (OpenSpec.ofChange fnExactIsLinearProgramSpec)

/-- ITS FALSE NEIGHBOUR: 'it returns false'. Refute it at one input. -/
def fnExactIsLinearProgramWrong : ChangeSpec := { name := "fnExactIsLinearProgram", fn := fun _ => fun
  | [d] => { results := [.lit (.bool false)], args := [d] }
  | _ => none }
def FnExactIsLinearProgramWrongFalsely : Prop := fnExactIsLinearProgramRow.holds Try.pinned (OpenSpec.ofChange fnExactIsLinearProgramWrong)

/-- 'laws.FnExactIsValidResidual': WHATEVER THE INPUT: true; the input reads as it did. -/
def fnExactIsValidResidualSpec : ChangeSpec := { name := "fnExactIsValidResidual", fn := fun _ => fun
  | [d] => { results := [.lit (.bool true)], args := [d] }
  | _ => none }
def fnExactIsValidResidualRow : OpenClaim := { program := "ytfmllefmfhefpaa", sum := "41fc1c43b4a4e489f6c2d90e20a3549b22d842c6676ea89d10f66225e9696c7a", func := "loop.example/g00584/laws.FnExactIsValidResidual", spec := "fnExactIsValidResidual", unfollowed := true, recurses := true, loops := true, apart := false }
def FnExactIsValidResidualSaid : Prop := fnExactIsValidResidualRow.holds Try.pinned (OpenSpec.ofChange fnExactIsValidResidualSpec)

/-- ITS FALSE NEIGHBOUR: 'it returns false'. Refute it at one input. -/
def fnExactIsValidResidualWrong : ChangeSpec := { name := "fnExactIsValidResidual", fn := fun _ => fun
  | [d] => { results := [.lit (.bool false)], args := [d] }
  | _ => none }
def FnExactIsValidResidualWrongFalsely : Prop := fnExactIsValidResidualRow.holds Try.pinned (OpenSpec.ofChange fnExactIsValidResidualWrong)

/-- 'laws.FnExactShapesOf': WHATEVER THE INPUT: true; the input reads as it did. -/
def fnExactShapesOfSpec : ChangeSpec := { name := "fnExactShapesOf", fn := fun _ => fun
  | [d] => { results := [.lit (.bool true)], args := [d] }
  | _ => none }
def fnExactShapesOfRow : OpenClaim := { program := "ytfmllefmfhefpaa", sum := "41fc1c43b4a4e489f6c2d90e20a3549b22d842c6676ea89d10f66225e9696c7a", func := "loop.example/g00584/laws.FnExactShapesOf", spec := "fnExactShapesOf", unfollowed := true, recurses := true, loops := true, apart := false }
def FnExactShapesOfSaid : Prop := fnExactShapesOfRow.holds Try.pinned (OpenSpec.ofChange fnExactShapesOfSpec)

/-- ITS FALSE NEIGHBOUR: 'it returns false'. Refute it at one input. -/
def fnExactShapesOfWrong : ChangeSpec := { name := "fnExactShapesOf", fn := fun _ => fun
  | [d] => { results := [.lit (.bool false)], args := [d] }
  | _ => none }
def FnExactShapesOfWrongFalsely : Prop := fnExactShapesOfRow.holds Try.pinned (OpenSpec.ofChange fnExactShapesOfWrong)

/-- 'laws.FnExactVarSorts': WHATEVER THE INPUT: true; the input reads as it did. -/
def fnExactVarSortsSpec : ChangeSpec := { name := "fnExactVarSorts", fn := fun _ => fun
  | [d1, d2] => { results := [.lit (.bool true)], args := [d1, d2] }
  | _ => none }
def fnExactVarSortsRow : OpenClaim := { program := "ytfmllefmfhefpaa", sum := "41fc1c43b4a4e489f6c2d90e20a3549b22d842c6676ea89d10f66225e9696c7a", func := "loop.example/g00584/laws.FnExactVarSorts", spec := "fnExactVarSorts", unfollowed := true, recurses := true, loops := true, apart := false }
def FnExactVarSortsSaid : Prop := fnExactVarSortsRow.holds Try.pinned (OpenSpec.ofChange fnExactVarSortsSpec)

/-- ITS FALSE NEIGHBOUR: 'it returns false'. Refute it at one input. -/
def fnExactVarSortsWrong : ChangeSpec := { name := "fnExactVarSorts", fn := fun _ => fun
  | [d1, d2] => { results := [.lit (.bool false)], args := [d1, d2] }
  | _ => none }
def FnExactVarSortsWrongFalsely : Prop := fnExactVarSortsRow.holds Try.pinned (OpenSpec.ofChange fnExactVarSortsWrong)

/-- 'laws.FnExactWithoutDescendants': WHATEVER THE INPUT: true; the input reads as it did. -/
def fnExactWithoutDescendantsSpec : ChangeSpec := { name := "fnExactWithoutDescendants", fn := fun _ => fun
  | [d1, d2] => { results := [.lit (.bool true)], args := [d1, d2] }
  | _ => none }
def fnExactWithoutDescendantsRow : OpenClaim := { program := "ytfmllefmfhefpaa", sum := "41fc1c43b4a4e489f6c2d90e20a3549b22d842c6676ea89d10f66225e9696c7a", func := "loop.example/g00584/laws.FnExactWithoutDescendants", spec := "fnExactWithoutDescendants", recurses := true, loops := true, apart := false }
def FnExactWithoutDescendantsSaid : Prop := fnExactWithoutDescendantsRow.holds Try.pinned (OpenSpec.ofChange fnExactWithoutDescendantsSpec)

/-- ITS FALSE NEIGHBOUR: 'it returns false'. Refute it at one input. -/
def fnExactWithoutDescendantsWrong : ChangeSpec := { name := "fnExactWithoutDescendants", fn := fun _ => fun
  | [d1, d2] => { results := [.lit (.bool false)], args := [d1, d2] }
  | _ => none }
def FnExactWithoutDescendantsWrongFalsely : Prop := fnExactWithoutDescendantsRow.holds Try.pinned (OpenSpec.ofChange fnExactWithoutDescendantsWrong)

/- THE SECOND FORM. 'bulk': how many values and letters a reading holds, each counted each time it is reached (what is shared counts as often as it is met; a slice's spare places count too). A statement '..UptoSaid' is the law's where the arguments, and the package variables that the reading takes, are together of bulk at most 1048576: NARROWER than '..Said'. Prove '..Said' where nothing that the law and all that it calls make is longer than what came in: it says more and counts as full. Else prove '..UptoSaid'. A law counts once. -/
mutual
def uptoBulk {H : Type} : DataW H → Nat
  | .lit (.string bytes) => bytes.length + 1
  | .lit _ => 1
  | .nil => 1
  | .ptr d => uptoBulk d + 1
  | .slice elems spare => uptoBulkAll elems + uptoBulkAll spare + 1
  | .agg parts => uptoBulkAll parts + 1
  | .iface _ d => uptoBulk d + 1
  | .map entries => uptoBulkEntries entries + 1
  | .held _ => 1
def uptoBulkAll {H : Type} : List (DataW H) → Nat
  | [] => 0
  | d :: r => uptoBulk d + uptoBulkAll r
def uptoBulkEntries {H : Type} : List (Lit × DataW H) → Nat
  | [] => 0
  | x :: r => uptoBulkEntry x + uptoBulkEntries r
def uptoBulkEntry {H : Type} : Lit × DataW H → Nat
  | (.string bytes, d) => bytes.length + uptoBulk d + 1
  | (_, d) => uptoBulk d + 1
 end
def uptoSmall : (H : Type) → List (DataW H) → Bool := fun _ ds => decide (uptoBulkAll ds ≤ 1048576)
def OpenSpec.upto (s : _root_.Go.ChangeSpec) : _root_.Go.OpenSpec := { _root_.Go.OpenSpec.ofChange s with cond := some uptoSmall }

/-- 'laws.FnExactIsLinearProgram', WHERE WHAT IT READS IS OF BULK AT MOST 1048576: true; the input reads as it did. -/
def fnExactIsLinearProgramUptoRow : OpenClaim := { program := "ytfmllefmfhefpaa", sum := "41fc1c43b4a4e489f6c2d90e20a3549b22d842c6676ea89d10f66225e9696c7a", func := "loop.example/g00584/laws.FnExactIsLinearProgram", spec := "fnExactIsLinearProgram", unfollowed := true, recurses := true, loops := true, apart := false, narrowed := true }
def FnExactIsLinearProgramUptoSaid : Prop := fnExactIsLinearProgramUptoRow.holds Try.pinned (OpenSpec.upto fnExactIsLinearProgramSpec)

/-- 'laws.FnExactIsValidResidual', WHERE WHAT IT READS IS OF BULK AT MOST 1048576: true; the input reads as it did. -/
def fnExactIsValidResidualUptoRow : OpenClaim := { program := "ytfmllefmfhefpaa", sum := "41fc1c43b4a4e489f6c2d90e20a3549b22d842c6676ea89d10f66225e9696c7a", func := "loop.example/g00584/laws.FnExactIsValidResidual", spec := "fnExactIsValidResidual", unfollowed := true, recurses := true, loops := true, apart := false, narrowed := true }
def FnExactIsValidResidualUptoSaid : Prop := fnExactIsValidResidualUptoRow.holds Try.pinned (OpenSpec.upto fnExactIsValidResidualSpec)

/-- 'laws.FnExactShapesOf', WHERE WHAT IT READS IS OF BULK AT MOST 1048576: true; the input reads as it did. -/
def fnExactShapesOfUptoRow : OpenClaim := { program := "ytfmllefmfhefpaa", sum := "41fc1c43b4a4e489f6c2d90e20a3549b22d842c6676ea89d10f66225e9696c7a", func := "loop.example/g00584/laws.FnExactShapesOf", spec := "fnExactShapesOf", unfollowed := true, recurses := true, loops := true, apart := false, narrowed := true }
def FnExactShapesOfUptoSaid : Prop := fnExactShapesOfUptoRow.holds Try.pinned (OpenSpec.upto fnExactShapesOfSpec)

/-- 'laws.FnExactVarSorts', WHERE WHAT IT READS IS OF BULK AT MOST 1048576: true; the input reads as it did. -/
def fnExactVarSortsUptoRow : OpenClaim := { program := "ytfmllefmfhefpaa", sum := "41fc1c43b4a4e489f6c2d90e20a3549b22d842c6676ea89d10f66225e9696c7a", func := "loop.example/g00584/laws.FnExactVarSorts", spec := "fnExactVarSorts", unfollowed := true, recurses := true, loops := true, apart := false, narrowed := true }
def FnExactVarSortsUptoSaid : Prop := fnExactVarSortsUptoRow.holds Try.pinned (OpenSpec.upto fnExactVarSortsSpec)

/-- 'laws.FnExactWithoutDescendants', WHERE WHAT IT READS IS OF BULK AT MOST 1048576: true; the input reads as it did. -/
def fnExactWithoutDescendantsUptoRow : OpenClaim := { program := "ytfmllefmfhefpaa", sum := "41fc1c43b4a4e489f6c2d90e20a3549b22d842c6676ea89d10f66225e9696c7a", func := "loop.example/g00584/laws.FnExactWithoutDescendants", spec := "fnExactWithoutDescendants", recurses := true, loops := true, apart := false, narrowed := true }
def FnExactWithoutDescendantsUptoSaid : Prop := fnExactWithoutDescendantsUptoRow.holds Try.pinned (OpenSpec.upto fnExactWithoutDescendantsSpec)

end Rows
end Go.Proofs.Ytfmllefmfhefpaa
