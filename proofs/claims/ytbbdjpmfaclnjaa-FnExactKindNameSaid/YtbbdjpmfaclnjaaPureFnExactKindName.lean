import Derived.Test.YtbbdjpmfaclnjaaPFnExactKindNamex1
namespace Go.Proofs.Ytbbdjpmfaclnjaa.Pure
open Go.RowKit Go.Proofs.Ytbbdjpmfaclnjaa.PFnExactKindName Go.Proofs.YtbbdjpmfaclnjaaW.PrintWords Go.Proofs.YtbbdjpmfaclnjaaW.PrintLast

/-- YOURS: ∀ (a0 : Int), (Lit.int .i64 a0).wf = true → laws_FnExactKindName.f a0 = some true
What it reaches (each with k first where it has rounds; `.mono`: more rounds tell the same; `.l0`, ..: its loops, with `.mono_l`): spec_l1In.f, spec_KindName.f, impl_in.f, impl_word.f, impl_KindName.f, laws_FnExactKindName.f -/
theorem FnExactKindName : laws_FnExactKindName.Pure := by
  intro a h
  have h07 : (0 ≤ a ∧ a ≤ 7) ∨ ¬ (0 ≤ a ∧ a ≤ 7) := Classical.em _
  rcases h07 with ⟨h0, h7⟩ | hn
  · have h8 : a = 0 ∨ a = 1 ∨ a = 2 ∨ a = 3 ∨ a = 4 ∨ a = 5 ∨ a = 6 ∨ a = 7 := by omega
    rcases h8 with rfl | rfl | rfl | rfl | rfl | rfl | rfl | rfl <;> decide +kernel
  · have e1 : spec_l1In.f a 0 7 = some false := by
      unfold spec_l1In.f
      by_cases hx : a ≥ 0
      · rw [if_pos hx]; simp; omega
      · rw [if_neg hx]
    have e2 : impl_in.f a 0 7 = some false := by
      unfold impl_in.f
      by_cases hx : 0 ≤ a
      · rw [if_pos hx]; simp; omega
      · rw [if_neg hx]
    unfold laws_FnExactKindName.f spec_KindName.f impl_KindName.f impl_word.f
    have ew : wrap64 (7 : Int) = 7 := by decide +kernel
    have et : (⟨#[63]⟩ : ByteArray).toList = [63] := by decide +kernel
    simp [e1, e2, ew, et]

end Go.Proofs.Ytbbdjpmfaclnjaa.Pure
