/- Marks: texts. -/
import Derived.Test.YtamicpfjieandaaAbW
import Derived.Test.YtamicpfjieandaaAbTy
namespace Go.Proofs.Ytamicpfjieandaa
open Go Go.Ab
set_option linter.unusedVariables false
set_option linter.unusedSimpArgs false
set_option maxRecDepth 100000
set_option maxHeartbeats 4000000
theorem markText_ct (k : Int) (hk : k ≤ 1099511627776) : Ct Try.prog 73 [.int k] [] (fun _ : Unit => True) (fun _ => .str (mk k)) (fun _ => []) := by
  refine ct_go tyOk Try.func73 rfl (by decide +kernel) Try.ntmps73 rfl (fun _ _ => by first | exact Nat.le_refl _ | exact Nat.zero_le _ | simp) ?_
  intro K hK
  simp -implicitDefEqProofs (maxSteps := 4000000) only [go_sem]
  refine ⟨fun h => ?_, fun h => ?_⟩
  · exact end_pure hK () trivial (by simp -implicitDefEqProofs (maxSteps := 4000000) only [go_sem, mk, if_pos h])
  refine loop_st tyOk [0, 3, 6, 7, 8, 9, 10, 11, 12, 13, 14, 15, 16, 17] (fun q : Int × ByteArray => [(0, .int q.1), (3, .str q.2)]) (fun q : Int × ByteArray => 0 ≤ q.1 ∧ q.1 ≤ k ∧ dig q.1.toNat ++ q.2 = dig k.toNat) (fun q : Int × ByteArray => q.1.toNat) (k, ⟨#[]⟩) ?_ ?_ ?_
  · exact ⟨by omega, by omega, ByteArray.append_empty⟩
  · simp -implicitDefEqProofs (maxSteps := 4000000) only [go_sem]
  rintro ⟨m, out⟩ ⟨h0, h1, h2⟩ L hL
  simp only at h0 h1 h2
  obtain ⟨n, rfl⟩ : ∃ n : Nat, m = n := ⟨m.toNat, by omega⟩
  have ht : (n : Int).tmod 10 = ((n % 10 : Nat) : Int) := by rw [Int.tmod_eq_emod_of_nonneg h0]; rfl
  have hd : (n : Int).tdiv 10 = ((n / 10 : Nat) : Int) := by rw [Int.tdiv_eq_ediv_of_nonneg h0]; rfl
  have hw : wr .i64 (48 + ((n % 10 : Nat) : Int)) = ((48 + n % 10 : Nat) : Int) := by rw [wr_in (by omega)]; omega
  have hb : wr .u8 ((48 + n % 10 : Nat) : Int) = ((48 + n % 10 : Nat) : Int) := by unfold wr; simp [IntKind.wrap, IntKind.bits, IntKind.signed]; omega
  simp -implicitDefEqProofs (maxSteps := 4000000) only [go_sem, ht, hd, hw]
  refine ⟨fun hm => ⟨by omega, ?_⟩, fun hm => ?_⟩
  · refine sem_conv_int Try.underlying3 Try.underlying5 rfl ?_
    simp -implicitDefEqProofs (maxSteps := 4000000) only [go_sem, hb, ht, hd]
    refine sem_conv_byte Try.underlying130 Try.underlying5 Try.underlying9 rfl ?_
    simp -implicitDefEqProofs (maxSteps := 4000000) only [go_sem, ht, hd]
    have hn : n ≠ 0 := by omega
    have hs := congrArg ByteArray.size h2
    rw [ByteArray.size_append] at hs
    have hs2 := dig_size k.toNat
    have hw2 : wr .i64 ((n / 10 : Nat) : Int) = ((n / 10 : Nat) : Int) := wr_in (by omega)
    refine ⟨by show 1 + out.size ≤ _; omega, by omega, hL _ (((n / 10 : Nat) : Int), ⟨#[UInt8.ofNat (48 + n % 10)]⟩ ++ out) ⟨by simp only; omega, by simp only; omega, ?_⟩ (by simp only; omega) (by simp -implicitDefEqProofs (maxSteps := 4000000) only [go_sem, hw2, ht])⟩
    rw [← h2]
    show dig (n / 10) ++ (_ ++ out) = dig n ++ out
    rw [dig_go hn, ByteArray.append_assoc]
  · obtain rfl : n = 0 := by omega
    have h3 : out = dig k.toNat := by rw [← h2]; show out = dig 0 ++ out; rw [dig_zero]; exact ByteArray.empty_append.symm
    have hs2 := dig_size k.toNat
    subst h3
    exact ⟨by show 1 + _ ≤ _; omega, end_pure hK () trivial (by simp -implicitDefEqProofs (maxSteps := 4000000) only [go_sem, mk, if_neg h])⟩
end Go.Proofs.Ytamicpfjieandaa
