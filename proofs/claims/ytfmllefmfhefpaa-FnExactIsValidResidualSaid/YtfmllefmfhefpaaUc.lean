/- Names united; what a function calls: the walks. -/
import Derived.Test.YtfmllefmfhefpaaFd
import Derived.Test.YtfmllefmfhefpaaGw
import Derived.Test.YtfmllefmfhefpaaAbZ
namespace Go.Proofs.Ytfmllefmfhefpaa
open Go Go.Ab
set_option linter.unusedVariables false
set_option linter.unusedSimpArgs false
set_option maxRecDepth 100000
set_option maxHeartbeats 4000000
def addN (acc : List ByteArray) (s : ByteArray) : List ByteArray := if hasB s acc then acc else acc ++ [s]
theorem addN_t {acc : List ByteArray} {s : ByteArray} (h : hasB s acc = true) : addN acc s = acc := by rw [addN, if_pos h]
theorem addN_f {acc : List ByteArray} {s : ByteArray} (h : hasB s acc = false) : addN acc s = acc ++ [s] := by rw [addN, if_neg (by simp [h])]
theorem addN_len (acc : List ByteArray) (s : ByteArray) : (addN acc s).length ≤ acc.length + 1 := by
  unfold addN; split <;> simp
/-- The names of a list, added to others. -/
def addAll (acc l : List ByteArray) : List ByteArray := l.foldl addN acc
theorem addAll_nil (acc : List ByteArray) : addAll acc [] = acc := rfl
theorem addAll_app (acc a b : List ByteArray) : addAll acc (a ++ b) = addAll (addAll acc a) b := List.foldl_append
theorem addAll_more {acc l : List ByteArray} {i : Nat} {x : ByteArray} (h : l[i]? = some x) : addAll acc (l.take (i + 1)) = addN (addAll acc (l.take i)) x := by
  rw [take_more h, addAll_app]; rfl
theorem addAll_len (l : List ByteArray) : ∀ acc : List ByteArray, (addAll acc l).length ≤ acc.length + l.length := by
  induction l with
  | nil => intro acc; simp [addAll]
  | cons x l ih =>
    intro acc
    have h1 := ih (addN acc x)
    have h2 := addN_len acc x
    show (addAll (addN acc x) l).length ≤ _
    simp only [List.length_cons]; omega
theorem addAll_take_len (l : List ByteArray) (i : Nat) : (addAll [] (l.take i)).length ≤ l.length := by
  have h1 := addAll_len (l.take i) []
  have h2 : (l.take i).length ≤ l.length := by rw [List.length_take]; omega
  simp only [List.length_nil] at h1; omega
theorem implUnite_ct (a b : List ByteArray) (hab : a.length + b.length ≤ 1073741824) : Ct Try.prog 186 [.d (.lst (a.map D.str)), .d (.lst (b.map D.str))] [] (fun _ : Unit => True) (fun _ => .own 0 ((addAll [] (a ++ b)).map D.str)) (fun _ => [.app 9 1 true]) := by
  refine ct_go tyOk Try.func186 rfl (by decide +kernel) Try.ntmps186 rfl (fun _ _ => by first | exact Nat.le_refl _ | exact Nat.zero_le _ | simp) ?_
  intro K hK
  simp -implicitDefEqProofs (maxSteps := 4000000) only [go_sem]
  refine call_objs [] (Ct.dat (concat_ct a b hab)) (by simp -implicitDefEqProofs (maxSteps := 4000000) only [go_sem, A.le]; simp [O.lel, O.rens, pick]) fun _ _ => ?_
  generalize hl : a ++ b = l at *
  have hll : l.length ≤ 1073741824 := by rw [← hl, List.length_append]; omega
  simp -implicitDefEqProofs (maxSteps := 4000000) only [go_sem]
  refine loop_at tyOk [5, 7, 13, 14, 15, 16, 17, 18, 19, 20, 21, 22, 23, 24, 25] (fun i : Nat => [(10, .any), (5, .own 1 ((addAll [] (l.take i)).map D.str)), (13, .int i)]) (fun i : Nat => [.dead, .app 9 1 true]) (fun i : Nat => i ≤ l.length) (fun i : Nat => l.length - i) 0 ?_ ?_ ?_
  · exact Nat.zero_le _
  · simp -implicitDefEqProofs (maxSteps := 4000000) only [go_sem, List.take_zero, addAll_nil, List.map_nil]
  intro i hi L hL
  have hfl := addAll_take_len l i
  have hw : wr .i64 ((i : Int) + 1) = ((i + 1 : Nat) : Int) := by rw [wr_in (by omega)]; omega
  simp -implicitDefEqProofs (maxSteps := 4000000) only [go_sem, hw]
  refine ⟨fun hlt => ⟨by omega, fun x hx => ?_⟩, fun hlt => ?_⟩
  · have hm := addAll_more (acc := []) hx
    refine call_pure (contains_ct (addAll [] (l.take i)) (by omega) x) (by simp -implicitDefEqProofs (maxSteps := 4000000) only [go_sem]) (by simp -implicitDefEqProofs (maxSteps := 4000000) only [go_sem]) fun _ _ => ?_
    simp -implicitDefEqProofs (maxSteps := 4000000) only [go_sem, hw]
    refine ⟨fun h2 => ⟨by omega, ?_⟩, fun h2 => ?_⟩
    · rw [addN_f (by simpa using h2)] at hm
      exact hL _ (i + 1) (by omega) (by omega) (by simp -implicitDefEqProofs (maxSteps := 4000000) only [go_sem, hm, List.map_append])
    · rw [addN_t (by simpa using h2)] at hm
      exact hL _ (i + 1) (by omega) (by omega) (by simp -implicitDefEqProofs (maxSteps := 4000000) only [go_sem, hm])
  · obtain rfl : i = l.length := by omega
    exact end_own hK () [1] trivial (by simp -implicitDefEqProofs (maxSteps := 4000000) only [go_sem, List.take_length]; rfl) (by simp -implicitDefEqProofs (maxSteps := 4000000) only [go_sem]) (by rfl) (by decide)
end Go.Proofs.Ytfmllefmfhefpaa
