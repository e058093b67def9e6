/- slices.Grow of nothing, by the library's contract; slices.Concat of two rows. -/
import Derived.Test.YtfmllefmfhefpaaAbW
import Derived.Test.YtfmllefmfhefpaaAbTw
import Derived.Shelf.Spec.SlicesGrow
namespace Go.Proofs.Ytfmllefmfhefpaa
open Go Go.Ab
set_option linter.unusedVariables false
set_option linter.unusedSimpArgs false
set_option maxRecDepth 100000
set_option maxHeartbeats 4000000
def growRen : Go.Shelf.Ren := ⟨fun | 4 => 158 | n => n, fun | 22 => 53 | 25 => 9 | n => n, fun n => n⟩
theorem growLays : Lays8.n4 Try.prog growRen where
  mixed := by kernel_rfl
  f4 := ⟨"slices.Grow[[]string,string]", by decide, Try.func158.trans (congrArg some (by kernel_rfl))⟩
  t0 := Try.underlying0
  a0 := Try.isAgg0
  z0 := Try.sizeOf0
  v0 := Try.zeroValue0
  t3 := Try.underlying3
  a3 := Try.isAgg3
  z3 := Try.sizeOf3
  v3 := Try.zeroValue3
  t4 := Try.underlying4
  a4 := Try.isAgg4
  z4 := Try.sizeOf4
  v4 := Try.zeroValue4
  t9 := Try.underlying9
  a9 := Try.isAgg9
  z9 := Try.sizeOf9
  v9 := Try.zeroValue9
  t20 := Try.underlying20
  a20 := Try.isAgg20
  z20 := Try.sizeOf20
  v20 := Try.zeroValue20
  t22 := Try.underlying53
  a22 := Try.isAgg53
  z22 := Try.sizeOf53
  v22 := Try.zeroValue53
theorem growNil_ct (n : Nat) (hn : n ≤ 1073741824) : Ct Try.prog 158 [.nil, .int n] [] (fun _ : Unit => True) (fun _ => .own 0 []) (fun _ => [.app 9 1 true]) := by
  refine Ct.fresh ⟨_, Try.func158, by decide +kernel, rfl⟩ fun w I G vs hvs hrel => ?_
  cases hvs with
  | cons h1 hvs =>
  cases hvs with
  | cons h2 hvs =>
  cases hvs
  cases h1
  cases h2 with
  | d h2 =>
  cases h2
  by_cases h0 : n = 0
  · subst h0
    exact (Any8.slices_Grow_room growLays none 0 0 0 w (by omega) (by omega) (by omega) (by omega)).mono fun e w' h => .inl h
  · have hinfo : (Try.prog.info? 9).map (fun i => (i.zero, i.size, i.bytes)) = some (some (.string ⟨#[]⟩), 1, 16) := by kernel_rfl
    obtain ⟨i0, hi, hz, hs, hb⟩ := Go.info_parts hinfo
    refine (Any8.slices_Grow_grow growLays i0 (.string ⟨#[]⟩) hi hz (by omega) none 0 0 n [] w (by omega) (by omega) (by rw [hb]; omega) (by omega) (by simp) (fun _ => rfl) (fun a h => by cases h)).mono fun e w' h => .inr ?_
    obtain ⟨rfl, rfl⟩ := h
    refine ⟨_, _, rfl, rfl, grownCap_le_maxLen w _ _ _ (by unfold maxLen; omega), ?_, ?_⟩
    · have := grownCap_ge w (0 + n) 0 (growRen.t 25)
      rw [Nat.zero_add] at this
      simp [size_zeroCells, Value.cells]; omega
    · intro x hx a m c e
      subst e
      simp [Builtin.zeroCells, Value.cells, Nat.mod_one] at hx
theorem flat_more {α : Type} {l : List (List α)} {i : Nat} {x : List α} (h : l[i]? = some x) : (l.take (i + 1)).flatten = (l.take i).flatten ++ x := by rw [take_more h]; simp
theorem flat_take_le {α : Type} (l : List (List α)) (i : Nat) : (l.take i).flatten.length ≤ l.flatten.length := by
  have := congrArg (fun z => (List.flatten z).length) (List.take_append_drop i l)
  simp only [List.flatten_append, List.length_append] at this
  omega
theorem concats_ct (ss : List (List ByteArray)) (hs : ss.length ≤ 1048576) (hab : ss.flatten.length ≤ 1073741824) : Ct Try.prog 106 [.d (.lst (ss.map fun r => .lst (r.map D.str)))] [] (fun _ : Unit => True) (fun _ => .own 0 (ss.flatten.map D.str)) (fun _ => [.app 9 1 true]) := by
  refine ct_go tyOk Try.func106 rfl (by decide +kernel) Try.ntmps106 rfl (fun _ _ => by first | exact Nat.le_refl _ | exact Nat.zero_le _ | simp) ?_
  intro K hK
  simp -implicitDefEqProofs (maxSteps := 4000000) only [go_sem]
  refine loop_st tyOk [3, 5, 11, 12, 13, 14, 15, 16, 17, 18, 19, 20, 21, 22] (fun i : Nat => [(3, .int (ss.take i).flatten.length), (11, .int i)]) (fun i : Nat => i ≤ ss.length) (fun i : Nat => ss.length - i) 0 ?_ ?_ ?_
  · exact Nat.zero_le _
  · simp -implicitDefEqProofs (maxSteps := 4000000) only [go_sem, List.take_zero, List.flatten_nil, List.length_nil]
  · intro i hi L hL
    have hfl := flat_take_le ss i
    have hfl2 := flat_take_le ss (i + 1)
    have hw : wr .i64 ((i : Int) + 1) = ((i + 1 : Nat) : Int) := by rw [wr_in (by omega)]; omega
    simp -implicitDefEqProofs (maxSteps := 4000000) only [go_sem, hw]
    refine ⟨fun hlt => ⟨by omega, fun x hx => ?_⟩, fun hlt => ?_⟩
    · have hm := flat_more hx
      have hm2 : (ss.take (i + 1)).flatten.length = (ss.take i).flatten.length + x.length := by rw [hm, List.length_append]
      have hw2 : wr .i64 (((ss.take i).flatten.length : Int) + (x.length : Int)) = ((ss.take (i + 1)).flatten.length : Int) := by rw [wr_in (by omega)]; omega
      simp -implicitDefEqProofs (maxSteps := 4000000) only [go_sem, hw, hw2]
      refine ⟨fun h => absurd h (by omega), fun _ => ?_⟩
      exact hL _ (i + 1) (by omega) (by omega) (by simp -implicitDefEqProofs (maxSteps := 4000000) only [go_sem])
    · obtain rfl : i = ss.length := by omega
      rw [List.take_length]
      refine call_objs [] (growNil_ct ss.flatten.length (by omega)) (by simp -implicitDefEqProofs (maxSteps := 4000000) only [go_sem]; simp [O.lel, O.rens, pick]) fun _ _ => ?_
      simp -implicitDefEqProofs (maxSteps := 4000000) only [go_sem]
      refine loop_at tyOk [6, 8, 27, 28, 29, 30, 31, 32, 33, 34] (fun i : Nat => [(6, .own 0 ((ss.take i).flatten.map D.str)), (24, .any), (27, .int i)]) (fun i : Nat => [.app 9 1 true]) (fun i : Nat => i ≤ ss.length) (fun i : Nat => ss.length - i) 0 ?_ ?_ ?_
      · exact Nat.zero_le _
      · simp -implicitDefEqProofs (maxSteps := 4000000) only [go_sem, List.take_zero, List.flatten_nil, List.map_nil]
      · intro i hi L hL
        have hfl := flat_take_le ss i
        have hfl2 := flat_take_le ss (i + 1)
        have hw : wr .i64 ((i : Int) + 1) = ((i + 1 : Nat) : Int) := by rw [wr_in (by omega)]; omega
        simp -implicitDefEqProofs (maxSteps := 4000000) only [go_sem, hw]
        refine ⟨fun hlt => ⟨by omega, fun x hx => ?_⟩, fun hlt => ?_⟩
        · have hm := flat_more hx
          have hm2 : (ss.take (i + 1)).flatten.length = (ss.take i).flatten.length + x.length := by rw [hm, List.length_append]
          refine ⟨by omega, ?_⟩
          exact hL _ (i + 1) (by omega) (by omega) (by simp -implicitDefEqProofs (maxSteps := 4000000) only [go_sem, hm, List.map_append])
        · obtain rfl : i = ss.length := by omega
          rw [List.take_length]
          exact end_own hK () [0] trivial (by simp -implicitDefEqProofs (maxSteps := 4000000) only [go_sem]; rfl) (by simp -implicitDefEqProofs (maxSteps := 4000000) only [go_sem]) (by rfl) (by decide)
theorem concat_ct (a b : List ByteArray) (hab : a.length + b.length ≤ 1073741824) : Ct Try.prog 106 [.d (.lst [.lst (a.map D.str), .lst (b.map D.str)])] [] (fun _ : Unit => True) (fun _ => .own 0 ((a ++ b).map D.str)) (fun _ => [.app 9 1 true]) := by
  have := concats_ct [a, b] (by simp) (by simpa using hab)
  simpa using this
end Go.Proofs.Ytfmllefmfhefpaa
