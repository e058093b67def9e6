/- fits: the walks. -/
import Derived.Test.YtfmllefmfhefpaaVm
import Derived.Test.YtfmllefmfhefpaaAbTm
namespace Go.Proofs.Ytfmllefmfhefpaa
open Go Go.Ab
set_option linter.unusedVariables false
set_option linter.unusedSimpArgs false
set_option maxRecDepth 100000
set_option maxHeartbeats 4000000
abbrev fitO (p : TProgram) (m own : List (ByteArray × Int)) (b : Bool) : List O := [.box 4 [.bool b], .box 29 [.d (.lst (p.rules_.map TRule.E))], .box 141 [.mp 4], .box 141 [.mp 5], .map 0 0 (strM m), .map 0 0 (strM own)]
attribute [go_sem] fitO
def st1 (l : List TRule) (m own : List (ByteArray × Int)) (b : Bool) (x : Ex) : Bool := b && fitI l m own x
theorem fitCl_ct (p : TProgram) (h : p.sm) (m own : List (ByteArray × Int)) (b : Bool) (x : Ex) (hx : x.sm) : Ct Try.prog 155 [.d x.E, .ref 0 0, .ref 1 0, .ref 2 0, .ref 3 0] (fitO p m own b) (fun _ : Unit => True) (fun _ => .unit) (fun _ => fitO p m own (st1 p.rules_ m own b x)) := by
  refine ct_go tyOk Try.func155 rfl (by decide +kernel) Try.ntmps155 rfl (fun _ _ => by first | exact Nat.le_refl _ | exact Nat.zero_le _ | simp) ?_
  intro K hK
  have hlen := (x.sm_def.1 hx).2.1
  obtain ⟨ie, hie, hz⟩ := intInfo
  simp -implicitDefEqProofs (maxSteps := 4000000) only [go_sem]
  refine ⟨fun h3 => ?_, fun h3 => ⟨fun h2 => ?_, fun h2 => ?_⟩⟩
  · have hf : fitI p.rules_ m own x = decide (funAr p.rules_ x.n = (x.a.length : Int)) := by rw [fitI, if_pos h3]
    refine draw_rule tyOk (by kernel_rfl) [0, 1, 2, 3, 4, 6, 7, 8, 5, 9, 10, 11] (by decide +kernel) ?_
    simp -implicitDefEqProofs (maxSteps := 4000000) only [go_sem]
    refine ⟨fun hb => ?_, fun hb => end_gen hK () 6 trivial (by simp -implicitDefEqProofs (maxSteps := 4000000) only [go_sem, st1, hb, Bool.false_and])⟩
    refine calm_p (iArity_ct p h x.n) rfl fun _ _ => ?_
    simp -implicitDefEqProofs (maxSteps := 4000000) only [go_sem]
    exact end_gen hK () 6 trivial (by simp -implicitDefEqProofs (maxSteps := 4000000) only [go_sem, st1, hf, hb, Bool.true_and])
  · have hf : fitI p.rules_ m own x = decide ((match mget m x.n with | some v => v | none => (mget own x.n).getD 0) = (x.a.length : Int)) := by rw [fitI, if_neg h3, if_pos h2]; rfl
    refine sem_lookup (k := 4) (m := m) (s := x.n) Try.underlying141 Try.underlying9 hie hz rfl rfl rfl ?_
    cases hm : mget m x.n with
    | some v =>
      rw [hm] at hf
      simp -implicitDefEqProofs (maxSteps := 4000000) only [go_sem, Option.isSome_some, Option.getD_some]
      exact ⟨fun hb => end_gen hK () 6 trivial (by simp -implicitDefEqProofs (maxSteps := 4000000) only [go_sem, st1, hf, hb, Bool.true_and]), fun hb => end_gen hK () 6 trivial (by simp -implicitDefEqProofs (maxSteps := 4000000) only [go_sem, st1, hb, Bool.false_and])⟩
    | none =>
      rw [hm] at hf
      simp -implicitDefEqProofs (maxSteps := 4000000) only [go_sem, Option.isSome_none, Option.getD_none]
      refine sem_lookup (k := 5) (m := own) (s := x.n) Try.underlying141 Try.underlying9 hie hz rfl rfl rfl ?_
      simp -implicitDefEqProofs (maxSteps := 4000000) only [go_sem]
      exact ⟨fun hb => end_gen hK () 6 trivial (by simp -implicitDefEqProofs (maxSteps := 4000000) only [go_sem, st1, hf, hb, Bool.true_and]), fun hb => end_gen hK () 6 trivial (by simp -implicitDefEqProofs (maxSteps := 4000000) only [go_sem, st1, hb, Bool.false_and])⟩
  · have hf : fitI p.rules_ m own x = true := by rw [fitI, if_neg h3, if_neg h2]
    exact end_gen hK () 6 trivial (by simp -implicitDefEqProofs (maxSteps := 4000000) only [go_sem, st1, hf, Bool.and_true])
theorem visitFit_ct (p : TProgram) (h : p.sm) (m own : List (ByteArray × Int)) (e : Ex) : e.sm → ∀ b : Bool, Ct Try.prog 154 [.d e.E, .fn 155 [.ref 0 0, .ref 1 0, .ref 2 0, .ref 3 0]] (fitO p m own b) (fun _ : Unit => True) (fun _ => .unit) (fun _ => fitO p m own ((nodes e).foldl (st1 p.rules_ m own) b)) := by
  induction e using Ex.ind2 with
  | h e ih =>
    intro he b
    refine ct_go tyOk Try.func154 rfl (by decide +kernel) Try.ntmps154 rfl (fun _ _ => by first | exact Nat.le_refl _ | exact Nat.zero_le _ | simp) ?_
    intro K hK
    have hlen := (e.sm_def.1 he).2.1
    have hx : ∀ x ∈ e.a, x.sm := (e.sm_def.1 he).2.2
    simp -implicitDefEqProofs (maxSteps := 4000000) only [go_sem]
    refine call_objs [0, 1, 2, 3, 4, 5] (fitCl_ct p h m own b e he) (by simp -implicitDefEqProofs (maxSteps := 4000000) only [go_sem]; decide) fun _ _ => ?_
    simp -implicitDefEqProofs (maxSteps := 4000000) only [go_sem]
    refine loop_at tyOk [5, 12, 13, 14, 15, 16, 17, 18, 19] (fun i : Nat => [(12, .int i)]) (fun i : Nat => fitO p m own ((nodeS (e.a.take i)).foldl (st1 p.rules_ m own) (st1 p.rules_ m own b e)) ++ [.box 42 [.d (.v (.int .i64 e.k)), .d (.v (.string e.n)), .d (.lst (e.a.map Ex.E))]]) (fun i : Nat => i ≤ e.a.length) (fun i : Nat => e.a.length - i) 0 ?_ ?_ ?_
    · exact Nat.zero_le _
    · simp -implicitDefEqProofs (maxSteps := 4000000) only [go_sem, List.take_zero, nodeS, List.foldl_nil]
    intro i hi L hL
    have hw : wr .i64 ((i : Int) + 1) = ((i + 1 : Nat) : Int) := by rw [wr_in (by omega)]; omega
    simp -implicitDefEqProofs (maxSteps := 4000000) only [go_sem]
    refine ⟨fun h => ⟨by omega, fun x hxi => ?_⟩, fun h => ?_⟩
    · refine call_objs [0, 1, 2, 3, 4, 5] (ih x (List.mem_of_getElem? hxi) (hx x (List.mem_of_getElem? hxi)) ((nodeS (e.a.take i)).foldl (st1 p.rules_ m own) (st1 p.rules_ m own b e))) (by simp -implicitDefEqProofs (maxSteps := 4000000) only [go_sem]; decide) fun _ _ => ?_
      have hf : (nodes x).foldl (st1 p.rules_ m own) ((nodeS (e.a.take i)).foldl (st1 p.rules_ m own) (st1 p.rules_ m own b e)) = (nodeS (e.a.take (i + 1))).foldl (st1 p.rules_ m own) (st1 p.rules_ m own b e) := by rw [nodeS_take hxi, List.foldl_append]
      simp -implicitDefEqProofs (maxSteps := 4000000) only [go_sem, hw, hf]
      exact hL _ (i + 1) (by omega) (by omega) (by simp -implicitDefEqProofs (maxSteps := 4000000) only [go_sem])
    · obtain rfl : i = e.a.length := by omega
      have hf : (nodes e).foldl (st1 p.rules_ m own) b = (nodeS e.a).foldl (st1 p.rules_ m own) (st1 p.rules_ m own b e) := by rw [nodes_def, List.foldl_cons]
      exact end_gen hK () 6 trivial (by simp -implicitDefEqProofs (maxSteps := 4000000) only [go_sem, List.take_length, hf])
theorem st_all (l : List TRule) (m own : List (ByteArray × Int)) : ∀ (a : List Ex) (b : Bool), a.foldl (st1 l m own) b = (b && a.all (fitI l m own))
  | [], b => by simp
  | x :: a, b => by rw [List.foldl_cons, st_all l m own a, List.all_cons, st1, Bool.and_assoc]
theorem fits_ct (p : TProgram) (h : p.sm) (e : Ex) (he : e.sm) : Ct Try.prog 103 [.d p.E, .mp 0, .d e.E] [mapO (arit [] p.rules_)] (fun _ : Unit => True) (fun _ => .bool (fitsB p.rules_ e)) (fun _ => [mapO (arit [] p.rules_)]) := by
  refine ct_go tyOk Try.func103 rfl (by decide +kernel) Try.ntmps103 rfl (fun _ _ => by first | exact Nat.le_refl _ | exact Nat.zero_le _ | simp) ?_
  intro K hK
  simp -implicitDefEqProofs (maxSteps := 4000000) only [go_sem]
  refine sem_makeMap (kt := 0) (vt := 0) ?_
  simp -implicitDefEqProofs (maxSteps := 4000000) only [go_sem]
  refine call_objs [4] (addAr_ct [] e he) (by simp -implicitDefEqProofs (maxSteps := 4000000) only [go_sem, strM_nil]; decide) fun _ _ => ?_
  simp -implicitDefEqProofs (maxSteps := 4000000) only [go_sem]
  refine call_objs [6, 1, 2, 5, 0, 4] (visitFit_ct p h (arit [] p.rules_) (adE [] e) e he true) (by simp -implicitDefEqProofs (maxSteps := 4000000) only [go_sem]; decide) fun _ _ => ?_
  have hres : (nodes e).foldl (st1 p.rules_ (arit [] p.rules_) (adE [] e)) true = fitsB p.rules_ e := by
    rw [st_all, Bool.true_and]
    unfold fitsB
    rw [Bool.eq_iff_iff, List.all_eq_true, List.all_eq_true]
    exact ⟨fun hh x hx => by rw [← fit_same p.rules_ e x hx]; exact hh x hx, fun hh x hx => by rw [fit_same p.rules_ e x hx]; exact hh x hx⟩
  simp -implicitDefEqProofs (maxSteps := 4000000) only [go_sem, hres]
  exact end_gen hK () 1 trivial (by simp -implicitDefEqProofs (maxSteps := 4000000) only [go_sem])
end Go.Proofs.Ytfmllefmfhefpaa
