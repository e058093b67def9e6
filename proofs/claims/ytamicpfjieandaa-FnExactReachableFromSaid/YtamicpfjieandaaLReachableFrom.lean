/- FnExactReachableFrom: the law's row. Printed by lawm.py. -/
import Derived.Test.YtamicpfjieandaaRows
import Derived.Test.YtamicpfjieandaaAbV
import Derived.Test.YtamicpfjieandaaXe
import Derived.Test.YtamicpfjieandaaWReachableFrom
import Derived.WalkKit
import Derived.ProofKit
import Derived.OpenShut
import Derived.ShutString
import Derived.ChangeOld
import Derived.Below
import Derived.SizedLaws
namespace Go.Proofs.Ytamicpfjieandaa
open Go Go.Ab
end Go.Proofs.Ytamicpfjieandaa
namespace Go.Proofs.Ytamicpfjieandaa.fnExactReachableFrom
open Go Go.Ab Go.ChangeShapes Go.WideShapes Go.ChangeAt Go.RowKit
set_option linter.unusedVariables false
theorem own : ownKnob Try.prog.godebug = none := by kernel_rfl
theorem laid : laidOutB Try.prog = true := by kernel_rfl
theorem plain : plainAll Try.prog [24, 22, 42, 9, 37, 40, 38, 3] = true := by kernel_rfl
set_option maxRecDepth 100000 in
theorem lifted (os : Os) (started : os.Started) (H : Type) (enc : TypeId × Value → H) :
    ReturnsInHanded {} Try.checked os 8 .any (Rows.fnExactReachableFromSpec.pre6 enc Try.prog Try.f8 Rows.fnExactReachableFromRow.domain false) (Rows.fnExactReachableFromSpec.post enc Try.prog Try.f8 false true false false) := by
  refine returnsInHanded_of_change_sized (C := Try.checked) own started (by kernel_rfl) Try.func8
    (ChangeSpec.witness6 (enc := enc) (C := Try.checked) false ⟨#[], #[.agg #[.slice none 0 0], .slice none 0 0], []⟩ 8 (by kernel_rfl) (by kernel_rfl) (by kernel_rfl) (by kernel_rfl)) ?_
  intro W base args ds gs before hval0 hW hcnd hsz0 _
  have hval : ∀ (j : Nat) t v, Try.f8.params[j]? = some t → args[j]? = some v → Value.okWide Try.prog W .any base t v := hval0
  have hW' := hW
  obtain ⟨p, q, hA0, hV, rfl, hfz, hnd⟩ := hW
  have hA : DataW.TrodAll enc Try.prog W 0 (fun _ => true) true Try.f8.params.toList args.toList ds p := hA0
  rw [Try.params8] at hA hval
  obtain ⟨rfl, rfl⟩ := trodVars_none hV
  obtain ⟨l, hl, ht⟩ := open_args plain (by decide) (fun j t v h1 h2 => hval j t v (by simpa using h1) (by simpa using h2)) hA
  obtain ⟨yx0, l, rfl, tx0, ht⟩ := TDs.cons_ ht
  obtain ⟨yx1, l, rfl, tx1, ht⟩ := TDs.cons_ ht
  obtain rfl := ht.nil_
  obtain ⟨x0, rfl, hx0⟩ := of_Program tx0
  obtain ⟨mx1, rfl, nx1, ex1⟩ := tx1.slc_ Try.underlying37
  obtain ⟨x1, rfl, sx1⟩ := sl_String ex1
  refine (law_runs hl (fnExactReachableFrom_ct x0 hx0 x1 ⟨by simpa [maxLen] using nx1, sx1⟩)).mono fun e W' ⟨he, bel⟩ => ?_
  subst he
  have hlt : ∀ x ∈ p, x.block < W.heap.size := fun x hx => by simpa using hW'.lt x (by simpa using hx)
  obtain ⟨d1, d2, rfl⟩ := list2 (trodAll_len hA)
  exact ⟨_, rfl, _, _, _, [], _, [], hW', trodAll_mk1 (shut_bool Try.underlying4 _), args_stay laid (by kernel_rfl) bel hlt hA, rfl, bel.frame _, fun h => by cases h⟩
theorem over : Rows.fnExactReachableFromRow.holds Try.pinned (OpenSpec.ofChange Rows.fnExactReachableFromSpec) :=
  OpenClaim.holds_of_wide 8 Try.f8 rfl rfl rfl rfl rfl rfl rfl ⟨rfl, rfl, rfl, rfl, rfl⟩ rfl rfl rfl rfl rfl (by kernel_rfl) Try.func8 (by kernel_rfl)
    (of_decide_eq_true (by kernel_rfl)) (by unfold Func.isWrapper; first | (rw [if_pos (by decide +kernel)]; kernel_rfl) | (rw [if_neg (by decide +kernel)]; exact ⟨rfl, rfl⟩))
    (fun os started H enc _ => lifted os started H enc)
theorem proved : Rows.FnExactReachableFromSaid := over
#print axioms proved
end Go.Proofs.Ytamicpfjieandaa.fnExactReachableFrom
