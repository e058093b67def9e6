/- Laws with marks: what they share. -/
import Derived.Test.YtamicpfjieandaaMd
import Derived.Test.YtamicpfjieandaaFx
namespace Go.Proofs.Ytamicpfjieandaa
open Go Go.Ab
set_option linter.unusedVariables false
set_option linter.unusedSimpArgs false
set_option maxRecDepth 100000
set_option maxHeartbeats 4000000
theorem cnts_nds (a : List Ex) (h : ∀ x ∈ a, x.E.cnt = 2 * x.nd) : cnts (a.map Ex.E) = 2 * Ex.nds a := by
  induction a with
  | nil => rfl
  | cons x a ih =>
    have h1 := h x List.mem_cons_self
    have h2 := ih fun y hy => h y (List.mem_cons_of_mem _ hy)
    simp only [List.map_cons, cnts, Ex.nds]; omega
theorem cnt_nd (e : Ex) : e.E.cnt = 2 * e.nd := by
  induction e using Ex.ind2 with
  | h e ih =>
    have := cnts_nds e.a ih
    have h2 := e.nd_def
    rw [exCnt]; omega
theorem lendE {L : List (Value × D)} {x : Ex} {v : Value} (h : (v, .lst (x.a.map Ex.E)) ∈ L) : lendOk L (.agg [.int x.k, .str x.n, .raw v]) (.d x.E) := by
  rw [x.E_open]
  unfold lendOk
  refine .inr ⟨_, rfl, ?_⟩
  unfold lendDs
  refine ⟨_, _, rfl, by unfold lendOk; rfl, ?_⟩
  unfold lendDs
  refine ⟨_, _, rfl, by unfold lendOk; rfl, ?_⟩
  unfold lendDs
  refine ⟨_, _, rfl, by unfold lendOk; exact .inr ⟨_, h, rfl⟩, ?_⟩
  unfold lendDs
  rfl
theorem lendR {L : List (Value × D)} {k : Int} {n : ByteArray} {v : Value} : lendOk L (.agg [.int k, .str n, .raw v]) (.agg [.int k, .str n, .raw v]) := by
  unfold lendOk
  refine .inl ⟨_, rfl, ?_⟩
  unfold lendAs
  refine ⟨_, _, rfl, by unfold lendOk; rfl, ?_⟩
  unfold lendAs
  refine ⟨_, _, rfl, by unfold lendOk; rfl, ?_⟩
  unfold lendAs
  refine ⟨_, _, rfl, by unfold lendOk; exact .inl rfl, ?_⟩
  unfold lendAs
  rfl
theorem eqRowS_ct (a : List ByteArray) (ha : a.length ≤ 1073741824) : Ct Try.prog 25 [.d (.lst (a.map D.str)), .d (.lst (a.map D.str))] [] (fun _ : Unit => True) (fun _ => .bool true) (fun _ => []) := by
  refine ct_go tyOk Try.func25 rfl (by decide +kernel) Try.ntmps25 rfl (fun _ _ => by first | exact Nat.le_refl _ | exact Nat.zero_le _ | simp) ?_
  intro K hK
  simp -implicitDefEqProofs (maxSteps := 4000000) only [go_sem]
  refine loop_go tyOk (fun i : Nat => ⟨fr 26 [(0, .d (.lst (a.map D.str))), (1, .d (.lst (a.map D.str))), (5, .int i)], [], 0⟩)
    (fun i => i ≤ a.length) (fun i => a.length - i) 0 0 (Nat.zero_le _) (by simp -implicitDefEqProofs (maxSteps := 4000000) only [go_sem]) ?_
  intro i hi L hL
  simp -implicitDefEqProofs (maxSteps := 4000000) only [go_sem]
  refine ⟨fun h => ?_, fun h => end_pure hK () trivial (by simp -implicitDefEqProofs (maxSteps := 4000000) only [go_sem])⟩
  refine draw_rule tyOk (by kernel_rfl) [0, 1, 2, 3, 4, 5, 6, 7, 8] (by kernel_rfl) ?_
  simp -implicitDefEqProofs (maxSteps := 4000000) only [go_sem]
  refine ⟨by omega, fun e he => ⟨by omega, fun e' he' => ?_⟩⟩
  obtain rfl : e = e' := by rw [he] at he'; exact Option.some.inj he'
  have hw : wr .i64 ((i : Int) + 1) = ((i + 1 : Nat) : Int) := by rw [wr_in (by omega)]; omega
  simp -implicitDefEqProofs (maxSteps := 4000000) only [go_sem, hw]
  exact hL _ (i + 1) 0 (by omega) (by omega) (by simp -implicitDefEqProofs (maxSteps := 4000000) only [go_sem])
theorem opd_str (a : List ByteArray) : Opd false (a.map D.str) ((a.map D.str).map A.d) [] := by
  induction a with
  | nil => exact .nil
  | cons x a ih => exact Opd.cons (ag := false) (d := D.str x) (cs := [.str x]) (Lc := []) (show COp (D.str x).cells _ _ from COp.v _ .nil) ih
theorem toStringS_fr (a : List ByteArray) (hsm : (a.length ≤ 1048576 ∧ ∀ y ∈ a, y.size ≤ 1048576)) : Ct Try.prog 42 [.d (.lst (a.map D.str))] [] (fun _ : Value => True) (fun v => .raw v) (fun v => [.forest [(v, .lst (a.map D.str))]]) := by
  refine ct_go tyOk Try.func42 rfl (by decide +kernel) Try.ntmps42 rfl (fun _ _ => by first | exact Nat.le_refl _ | exact Nat.zero_le _ | simp) ?_
  intro K hK
  obtain ⟨ha, hel⟩ := hsm
  simp -implicitDefEqProofs (maxSteps := 4000000) only [go_sem]
  refine ⟨by omega, by omega, ?_⟩
  refine loop_go tyOk (fun i : Nat => ⟨fr 22 [(0, .d (.lst (a.map D.str))), (2, .nil), (3, .arr 0), (4, .int i)], [.row 9 1 (((a.take i).map D.str).map A.d ++ List.replicate (a.length - i) (.str ⟨#[]⟩))], 0⟩)
    (fun i => i ≤ a.length) (fun i => a.length - i) 0 1 (Nat.zero_le _) ?_ ?_
  · simp -implicitDefEqProofs (maxSteps := 4000000) only [go_sem, List.take_zero, Nat.sub_zero]
    exact ole_row rfl fun x hx => by rw [List.eq_of_mem_replicate hx]; simp -implicitDefEqProofs (maxSteps := 4000000) only [go_sem]
  · intro i hi L hL
    simp -implicitDefEqProofs (maxSteps := 4000000) only [go_sem]
    refine ⟨fun h => ⟨by omega, fun e he => ?_⟩, fun h => ?_⟩
    · have hw : wr .i64 ((i : Int) + 1) = ((i + 1 : Nat) : Int) := by rw [wr_in (by omega)]; omega
      have hlt : (a.take i).length = i := by rw [List.length_take]; omega
      simp -implicitDefEqProofs (maxSteps := 4000000) only [go_sem, hw, hlt]
      refine ⟨by omega, by omega, hL _ (i + 1) 1 (by omega) (by omega) ?_⟩
      rw [fill_set (by simpa using hlt) (by omega)]
      simp -implicitDefEqProofs (maxSteps := 4000000) only [go_sem, take_more he, List.map_append]
      exact ole_row rfl fun x hx => by
        rcases List.mem_append.1 hx with hx | hx
        · rcases List.mem_append.1 hx with hx | hx
          · obtain ⟨y, _, rfl⟩ := List.mem_map.1 hx; simp -implicitDefEqProofs (maxSteps := 4000000) only [go_sem]
          · obtain rfl := List.mem_singleton.1 hx; simp -implicitDefEqProofs (maxSteps := 4000000) only [go_sem]
        · rw [List.eq_of_mem_replicate hx]; simp -implicitDefEqProofs (maxSteps := 4000000) only [go_sem]
    · obtain rfl : i = a.length := by omega
      simp -implicitDefEqProofs (maxSteps := 4000000) only [go_sem, List.take_length, Nat.sub_self]
      exact end_close hK (k := 0) (by simp -implicitDefEqProofs (maxSteps := 4000000) only [go_sem]) rfl (.inr rfl) (opd_str a) (fun d hd _ => by obtain ⟨y, _, rfl⟩ := List.mem_map.1 hd; rfl) fun v => ⟨v, trivial, rfl, rfl⟩
end Go.Proofs.Ytamicpfjieandaa
