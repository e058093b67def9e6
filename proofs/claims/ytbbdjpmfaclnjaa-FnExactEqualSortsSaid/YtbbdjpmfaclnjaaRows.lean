/-
  NARROWER THAN 'FOR EVERY INPUT', by the rows' own cells (each row's printed sentence says how): FnExactCountUses: loops · FnExactIsLinear: loops · FnExactCalledIn: loops.
  DERIVED. THE GIVEN ROWS OF THIS SEAT. 6 by the template 'for every input the law returns true; each argument reads behind the call as it read before'; 0 by the template 'total and deterministic' (their statements: YtbbdjpmfaclnjaaTotals.lean).
  GIVEN WITH THE SEED: the statements are not yours to turn. If you find one false, say at which input.
  Laid BY PROGRAM, IN A SANDBOX (cutbox-rows.mjs): the forced cells as the released guide's own fill.sh prints them over the translation ab631fcb1401f755… (all of the seat's roots in one cut). By AI agents, Wed Nov 11 2026. No macro, syntax, notation, axiom, sorry.
-/
import Derived.Test.YtbbdjpmfaclnjaaChecked
import GoSem.Claim
import GoSem.ClaimJoined
import GoSem.ClaimMapViews
import Derived.JoinedTies
import Derived.KernelRfl
namespace Go.Proofs.Ytbbdjpmfaclnjaa
/- THE CELL 'sum', in the pinned program and in every row, IS THE sha256 OF THE DUMP (.gsa) THAT YtbbdjpmfaclnjaaProg.lean LOADS. Nothing in Lean hashes anything: it is a label: what it is worth is what the hold of that sum in a sandbox is worth. -/
noncomputable def Try.pinned : Pinned := { name := "ytbbdjpmfaclnjaa", sum := "ab631fcb1401f755d1bb77f7b21269968e37f7c5632ebae62e38e79c3c308b29", checked := Try.checked }
namespace Rows
def none {H : Type} : Left H := { results := [], args := [] }

/-- 'laws.FnExactKindName': WHATEVER THE INPUT: true; the input reads as it did. -/
def fnExactKindNameSpec : ChangeSpec := { name := "fnExactKindName", fn := fun _ => fun
  | [d] => { results := [.lit (.bool true)], args := [d] }
  | _ => none }
def fnExactKindNameRow : OpenClaim := { program := "ytbbdjpmfaclnjaa", sum := "ab631fcb1401f755d1bb77f7b21269968e37f7c5632ebae62e38e79c3c308b29", func := "loop.example/g00584/laws.FnExactKindName", spec := "fnExactKindName", apart := false }
def FnExactKindNameSaid : Prop := fnExactKindNameRow.holds Try.pinned (OpenSpec.ofChange fnExactKindNameSpec)

/-- ITS FALSE NEIGHBOUR: 'it returns false'. Refute it at one input. -/
def fnExactKindNameWrong : ChangeSpec := { name := "fnExactKindName", fn := fun _ => fun
  | [d] => { results := [.lit (.bool false)], args := [d] }
  | _ => none }
def FnExactKindNameWrongFalsely : Prop := fnExactKindNameRow.holds Try.pinned (OpenSpec.ofChange fnExactKindNameWrong)

/-- 'laws.FnExactCountUses': WHATEVER THE INPUT: true; the input reads as it did. -/
def fnExactCountUsesSpec : ChangeSpec := { name := "fnExactCountUses", fn := fun _ => fun
  | [d1, d2] => { results := [.lit (.bool true)], args := [d1, d2] }
  | _ => none }
def fnExactCountUsesRow : OpenClaim := { program := "ytbbdjpmfaclnjaa", sum := "ab631fcb1401f755d1bb77f7b21269968e37f7c5632ebae62e38e79c3c308b29", func := "loop.example/g00584/laws.FnExactCountUses", spec := "fnExactCountUses", unfollowed := true, recurses := true, loops := true, apart := false }
def FnExactCountUsesSaid : Prop := fnExactCountUsesRow.holds Try.pinned (OpenSpec.ofChange fnExactCountUsesSpec)

/-- ITS FALSE NEIGHBOUR: 'it returns false'. Refute it at one input. -/
def fnExactCountUsesWrong : ChangeSpec := { name := "fnExactCountUses", fn := fun _ => fun
  | [d1, d2] => { results := [.lit (.bool false)], args := [d1, d2] }
  | _ => none }
def FnExactCountUsesWrongFalsely : Prop := fnExactCountUsesRow.holds Try.pinned (OpenSpec.ofChange fnExactCountUsesWrong)

/-- 'laws.FnExactIsLinear': WHATEVER THE INPUT: true; the input reads as it did. -/
def fnExactIsLinearSpec : ChangeSpec := { name := "fnExactIsLinear", fn := fun _ => fun
  | [d] => { results := [.lit (.bool true)], args := [d] }
  | _ => none }
def fnExactIsLinearRow : OpenClaim := { program := "ytbbdjpmfaclnjaa", sum := "ab631fcb1401f755d1bb77f7b21269968e37f7c5632ebae62e38e79c3c308b29", func := "loop.example/g00584/laws.FnExactIsLinear", spec := "fnExactIsLinear", unfollowed := true, recurses := true, loops := true, apart := false }
def FnExactIsLinearSaid : Prop := fnExactIsLinearRow.holds Try.pinned (OpenSpec.ofChange fnExactIsLinearSpec)

/-- ITS FALSE NEIGHBOUR: 'it returns false'. Refute it at one input. -/
def fnExactIsLinearWrong : ChangeSpec := { name := "fnExactIsLinear", fn := fun _ => fun
  | [d] => { results := [.lit (.bool false)], args := [d] }
  | _ => none }
def FnExactIsLinearWrongFalsely : Prop := fnExactIsLinearRow.holds Try.pinned (OpenSpec.ofChange fnExactIsLinearWrong)

/-- 'laws.FnExactCalledIn': WHATEVER THE INPUT: true; the input reads as it did. -/
def fnExactCalledInSpec : ChangeSpec := { name := "fnExactCalledIn", fn := fun _ => fun
  | [d] => { results := [.lit (.bool true)], args := [d] }
  | _ => none }
def fnExactCalledInRow : OpenClaim := { program := "ytbbdjpmfaclnjaa", sum := "ab631fcb1401f755d1bb77f7b21269968e37f7c5632ebae62e38e79c3c308b29", func := "loop.example/g00584/laws.FnExactCalledIn", spec := "fnExactCalledIn", unfollowed := true, recurses := true, loops := true, apart := false }
def FnExactCalledInSaid : Prop := fnExactCalledInRow.holds Try.pinned (OpenSpec.ofChange fnExactCalledInSpec)

/-- ITS FALSE NEIGHBOUR: 'it returns false'. Refute it at one input. -/
def fnExactCalledInWrong : ChangeSpec := { name := "fnExactCalledIn", fn := fun _ => fun
  | [d] => { results := [.lit (.bool false)], args := [d] }
  | _ => none }
def FnExactCalledInWrongFalsely : Prop := fnExactCalledInRow.holds Try.pinned (OpenSpec.ofChange fnExactCalledInWrong)

/-- 'laws.FnExactEqualSorts': WHATEVER THE INPUT: true; the input reads as it did. -/
def fnExactEqualSortsSpec : ChangeSpec := { name := "fnExactEqualSorts", fn := fun _ => fun
  | [d1, d2] => { results := [.lit (.bool true)], args := [d1, d2] }
  | _ => none }
def fnExactEqualSortsRow : OpenClaim := { program := "ytbbdjpmfaclnjaa", sum := "ab631fcb1401f755d1bb77f7b21269968e37f7c5632ebae62e38e79c3c308b29", func := "loop.example/g00584/laws.FnExactEqualSorts", spec := "fnExactEqualSorts", unfollowed := true, recurses := true, apart := false }
def FnExactEqualSortsSaid : Prop := fnExactEqualSortsRow.holds Try.pinned (OpenSpec.ofChange fnExactEqualSortsSpec)

/-- ITS FALSE NEIGHBOUR: 'it returns false'. Refute it at one input. -/
def fnExactEqualSortsWrong : ChangeSpec := { name := "fnExactEqualSorts", fn := fun _ => fun
  | [d1, d2] => { results := [.lit (.bool false)], args := [d1, d2] }
  | _ => none }
def FnExactEqualSortsWrongFalsely : Prop := fnExactEqualSortsRow.holds Try.pinned (OpenSpec.ofChange fnExactEqualSortsWrong)

/-- 'laws.FnExactConsOfSort': WHATEVER THE INPUT: true; the input reads as it did. -/
def fnExactConsOfSortSpec : ChangeSpec := { name := "fnExactConsOfSort", fn := fun _ => fun
  | [d1, d2] => { results := [.lit (.bool true)], args := [d1, d2] }
  | _ => none }
def fnExactConsOfSortRow : OpenClaim := { program := "ytbbdjpmfaclnjaa", sum := "ab631fcb1401f755d1bb77f7b21269968e37f7c5632ebae62e38e79c3c308b29", func := "loop.example/g00584/laws.FnExactConsOfSort", spec := "fnExactConsOfSort", apart := false }
def FnExactConsOfSortSaid : Prop := fnExactConsOfSortRow.holds Try.pinned (OpenSpec.ofChange fnExactConsOfSortSpec)

/-- ITS FALSE NEIGHBOUR: 'it returns false'. Refute it at one input. -/
def fnExactConsOfSortWrong : ChangeSpec := { name := "fnExactConsOfSort", fn := fun _ => fun
  | [d1, d2] => { results := [.lit (.bool false)], args := [d1, d2] }
  | _ => none }
def FnExactConsOfSortWrongFalsely : Prop := fnExactConsOfSortRow.holds Try.pinned (OpenSpec.ofChange fnExactConsOfSortWrong)

/- THE SECOND FORM. 'bulk': how many values and letters a reading holds, each counted each time it is reached (what is shared counts as often as it is met; a slice's spare places count too). A statement '..UptoSaid' is the law's where the arguments, and the package variables that the reading takes, are together of bulk at most 1048576: NARROWER than '..Said'. Prove '..Said' where nothing that the law and all that it calls make is longer than what came in: it says more and counts as full. Else prove '..UptoSaid'. A law counts once. -/
mutual
def uptoBulk {H : Type} : DataW H → Nat
  | .lit (.string bytes) => bytes.length + 1
  | .lit _ => 1
  | .nil => 1
  | .ptr d => uptoBulk d + 1
  | .slice elems spare => uptoBulkAll elems + uptoBulkAll spare + 1
  | .agg parts => uptoBulkAll parts + 1
  | .iface _ d => uptoBulk d + 1
  | .map entries => uptoBulkEntries entries + 1
  | .held _ => 1
def uptoBulkAll {H : Type} : List (DataW H) → Nat
  | [] => 0
  | d :: r => uptoBulk d + uptoBulkAll r
def uptoBulkEntries {H : Type} : List (Lit × DataW H) → Nat
  | [] => 0
  | x :: r => uptoBulkEntry x + uptoBulkEntries r
def uptoBulkEntry {H : Type} : Lit × DataW H → Nat
  | (.string bytes, d) => bytes.length + uptoBulk d + 1
  | (_, d) => uptoBulk d + 1
 end
def uptoSmall : (H : Type) → List (DataW H) → Bool := fun _ ds => decide (uptoBulkAll ds ≤ 1048576)
def OpenSpec.upto (s : _root_.Go.ChangeSpec) : _root_.Go.OpenSpec := { _root_.Go.OpenSpec.ofChange s with cond := some uptoSmall }

/-- 'laws.FnExactKindName', WHERE WHAT IT READS IS OF BULK AT MOST 1048576: true; the input reads as it did. -/
def fnExactKindNameUptoRow : OpenClaim := { program := "ytbbdjpmfaclnjaa", sum := "ab631fcb1401f755d1bb77f7b21269968e37f7c5632ebae62e38e79c3c308b29", func := "loop.example/g00584/laws.FnExactKindName", spec := "fnExactKindName", apart := false, narrowed := true }
def FnExactKindNameUptoSaid : Prop := fnExactKindNameUptoRow.holds Try.pinned (OpenSpec.upto fnExactKindNameSpec)

/-- 'laws.FnExactCountUses', WHERE WHAT IT READS IS OF BULK AT MOST 1048576: true; the input reads as it did. -/
def fnExactCountUsesUptoRow : OpenClaim := { program := "ytbbdjpmfaclnjaa", sum := "ab631fcb1401f755d1bb77f7b21269968e37f7c5632ebae62e38e79c3c308b29", func := "loop.example/g00584/laws.FnExactCountUses", spec := "fnExactCountUses", unfollowed := true, recurses := true, loops := true, apart := false, narrowed := true }
def FnExactCountUsesUptoSaid : Prop := fnExactCountUsesUptoRow.holds Try.pinned (OpenSpec.upto fnExactCountUsesSpec)

/-- 'laws.FnExactIsLinear', WHERE WHAT IT READS IS OF BULK AT MOST 1048576: true; the input reads as it did. -/
def fnExactIsLinearUptoRow : OpenClaim := { program := "ytbbdjpmfaclnjaa", sum := "ab631fcb1401f755d1bb77f7b21269968e37f7c5632ebae62e38e79c3c308b29", func := "loop.example/g00584/laws.FnExactIsLinear", spec := "fnExactIsLinear", unfollowed := true, recurses := true, loops := true, apart := false, narrowed := true }
def FnExactIsLinearUptoSaid : Prop := fnExactIsLinearUptoRow.holds Try.pinned (OpenSpec.upto fnExactIsLinearSpec)

/-- 'laws.FnExactCalledIn', WHERE WHAT IT READS IS OF BULK AT MOST 1048576: true; the input reads as it did. -/
def fnExactCalledInUptoRow : OpenClaim := { program := "ytbbdjpmfaclnjaa", sum := "ab631fcb1401f755d1bb77f7b21269968e37f7c5632ebae62e38e79c3c308b29", func := "loop.example/g00584/laws.FnExactCalledIn", spec := "fnExactCalledIn", unfollowed := true, recurses := true, loops := true, apart := false, narrowed := true }
def FnExactCalledInUptoSaid : Prop := fnExactCalledInUptoRow.holds Try.pinned (OpenSpec.upto fnExactCalledInSpec)

/-- 'laws.FnExactEqualSorts', WHERE WHAT IT READS IS OF BULK AT MOST 1048576: true; the input reads as it did. -/
def fnExactEqualSortsUptoRow : OpenClaim := { program := "ytbbdjpmfaclnjaa", sum := "ab631fcb1401f755d1bb77f7b21269968e37f7c5632ebae62e38e79c3c308b29", func := "loop.example/g00584/laws.FnExactEqualSorts", spec := "fnExactEqualSorts", unfollowed := true, recurses := true, apart := false, narrowed := true }
def FnExactEqualSortsUptoSaid : Prop := fnExactEqualSortsUptoRow.holds Try.pinned (OpenSpec.upto fnExactEqualSortsSpec)

/-- 'laws.FnExactConsOfSort', WHERE WHAT IT READS IS OF BULK AT MOST 1048576: true; the input reads as it did. -/
def fnExactConsOfSortUptoRow : OpenClaim := { program := "ytbbdjpmfaclnjaa", sum := "ab631fcb1401f755d1bb77f7b21269968e37f7c5632ebae62e38e79c3c308b29", func := "loop.example/g00584/laws.FnExactConsOfSort", spec := "fnExactConsOfSort", apart := false, narrowed := true }
def FnExactConsOfSortUptoSaid : Prop := fnExactConsOfSortUptoRow.holds Try.pinned (OpenSpec.upto fnExactConsOfSortSpec)

end Rows
end Go.Proofs.Ytbbdjpmfaclnjaa
