/- Sizes of expressions: the walks. -/
import Derived.Test.YtfmllefmfhefpaaAbW
import Derived.Test.YtfmllefmfhefpaaAbU
namespace Go.Proofs.Ytfmllefmfhefpaa
open Go Go.Ab
set_option linter.unusedVariables false
set_option linter.unusedSimpArgs false
set_option maxRecDepth 100000
set_option pp.maxSteps 200
set_option maxHeartbeats 4000000
theorem szS_ct (a : List Ex) (ha : a.length ≤ 9223372036854775807)
    (ih : ∀ e ∈ a, ∀ l : Int, 0 ≤ l → l ≤ 1048576 → Ct Try.prog 25 [.d e.E, .int l] [] (fun _ : Unit => True) (fun _ => .int (szE e l)) (fun _ => []))
    (l : Int) (h0 : 0 ≤ l) (h1 : l ≤ 1048576) : Ct Try.prog 61 [.d (.lst (a.map Ex.E)), .int l] [] (fun _ : Unit => True) (fun _ => .int (szS a l)) (fun _ => []) := by
  refine ct_go tyOk Try.func61 rfl (by decide +kernel) Try.ntmps61 rfl (fun _ _ => Nat.le_refl _) ?_
  intro K hK
  have hw : wr .i64 (l - a.length) = l - a.length := wr_in (by omega)
  simp -implicitDefEqProofs (maxSteps := 4000000) only [go_sem, hw]
  refine ⟨fun h => end_pure hK () trivial (by simp -implicitDefEqProofs (maxSteps := 4000000) only [go_sem, szS, if_pos h]), fun h => ?_⟩
  refine loop_go tyOk (fun i : Nat × Int => ⟨fr 27 [(0, .d (.lst (a.map Ex.E))), (1, .int i.2), (4, .int 0), (5, .int i.1)], [], 0⟩)
    (fun i => i.1 ≤ a.length ∧ 0 ≤ i.2 ∧ i.2 ≤ 1048576 ∧ szR (a.drop i.1) i.2 = szS a l) (fun i => a.length - i.1) (0, l - a.length) 0
    ⟨Nat.zero_le _, by omega, by omega, by simp only [szS, if_neg h, List.drop_zero]⟩ (by simp -implicitDefEqProofs (maxSteps := 4000000) only [go_sem]) ?_
  rintro ⟨i, m⟩ ⟨hi, hm0, hm1, hm⟩ L hL
  simp -implicitDefEqProofs (maxSteps := 4000000) only [go_sem]
  refine ⟨fun h => ⟨by omega, fun e he => ?_⟩, fun h => end_pure hK () trivial ?_⟩
  · rw [drop_of he, szR] at hm
    have hb := szE_le e m hm0
    have hw : wr .i64 ((i : Int) + 1) = ((i + 1 : Nat) : Int) := by rw [wr_in (by omega)]; omega
    refine call_data [e.E, .int m] (ih e (List.mem_of_getElem? he) m hm0 hm1) rfl fun _ _ => ?_
    simp -implicitDefEqProofs (maxSteps := 4000000) only [go_sem, hw]
    refine ⟨fun h2 => end_pure hK () trivial ?_, fun h2 => ?_⟩
    · simp -implicitDefEqProofs (maxSteps := 4000000) only [go_sem]; rw [if_pos h2] at hm; exact hm
    · rw [if_neg h2] at hm
      exact hL _ (i + 1, szE e m) 0 ⟨by omega, by omega, by omega, hm⟩ (by simp only; omega) (by simp -implicitDefEqProofs (maxSteps := 4000000) only [go_sem])
  · have : i = a.length := by simp only at hi; omega
    subst this
    simp -implicitDefEqProofs (maxSteps := 4000000) only [go_sem]; simpa only [List.drop_length, szR] using hm
theorem szE_step (k : Int) (n : ByteArray) (a : List Ex) (hn : n.size ≤ 9223372036854775807) (ha : a.length ≤ 9223372036854775807)
    (ih : ∀ e ∈ a, ∀ l : Int, 0 ≤ l → l ≤ 1048576 → Ct Try.prog 25 [.d e.E, .int l] [] (fun _ : Unit => True) (fun _ => .int (szE e l)) (fun _ => []))
    (l : Int) (h0 : 0 ≤ l) (h1 : l ≤ 1048576) : Ct Try.prog 25 [.d (Ex.mk k n a).E, .int l] [] (fun _ : Unit => True) (fun _ => .int (szE (.mk k n a) l)) (fun _ => []) := by
  refine ct_go tyOk Try.func25 rfl (by decide +kernel) Try.ntmps25 rfl (fun _ _ => Nat.le_refl _) ?_
  intro K hK
  have hw : wr .i64 (l - n.size) = l - n.size := wr_in (by omega)
  simp -implicitDefEqProofs (maxSteps := 4000000) only [go_sem, Ex.k, Ex.n, Ex.a, hw]
  refine ⟨fun h => end_pure hK () trivial (by simp -implicitDefEqProofs (maxSteps := 4000000) only [go_sem, szE, if_pos h]), fun h => ?_⟩
  refine call_data [.lst (a.map Ex.E), .int (l - n.size)] (szS_ct a ha ih (l - n.size) (by omega) (by omega)) rfl fun _ _ => ?_
  simp -implicitDefEqProofs (maxSteps := 4000000) only [go_sem]
  refine ⟨fun h2 => end_pure hK () trivial ?_, fun h2 => end_pure hK () trivial ?_⟩
  · simp -implicitDefEqProofs (maxSteps := 4000000) only [go_sem, szE, if_neg h]
    simp only [szS] at h2
    split
    · rfl
    · rename_i h3
      rw [if_neg h3] at h2
      have := szR_le (fun e he l h0 => szE_le e l h0) (a := a) (l - n.size - a.length) (by omega)
      omega
  · simp -implicitDefEqProofs (maxSteps := 4000000) only [go_sem, szE, if_neg h, szS]
theorem szE_ct (e : Ex) : e.ok → ∀ l : Int, 0 ≤ l → l ≤ 1048576 → Ct Try.prog 25 [.d e.E, .int l] [] (fun _ : Unit => True) (fun _ => .int (szE e l)) (fun _ => []) := by
  induction e using Ex.ind with
  | h k n a ih =>
    intro hok l h0 h1
    obtain ⟨h2, h3, h4⟩ := hok
    exact szE_step k n a h2 h3 (fun e he l h0 h1 => ih e he (Ex.oks_iff.1 h4 e he) l h0 h1) l h0 h1
end Go.Proofs.Ytfmllefmfhefpaa
