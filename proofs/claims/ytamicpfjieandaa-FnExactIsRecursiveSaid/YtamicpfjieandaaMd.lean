/- Expressions, copied into trees of one's own. -/
import Derived.Test.YtamicpfjieandaaMc
namespace Go.Proofs.Ytamicpfjieandaa
open Go Go.Ab
set_option linter.unusedVariables false
set_option linter.unusedSimpArgs false
set_option maxRecDepth 100000
set_option maxHeartbeats 4000000
theorem toExprS_fr (a : List Ex) (ha : a.length ≤ 1048576) (ih : ∀ e ∈ a, Ct Try.prog 68 [.d e.E] [] (fun _ : Value => True) (fun v => .agg [.int e.k, .str e.n, .raw v]) (fun v => [.forest [(v, .lst (e.a.map Ex.E))]])) :
    Ct Try.prog 108 [.d (.lst (a.map Ex.E))] [] (fun _ : Value => True) (fun v => .raw v) (fun v => [.forest [(v, .lst (a.map Ex.E))]]) := by
  refine ct_go tyOk Try.func108 rfl (by decide +kernel) Try.ntmps108 rfl (fun _ _ => by first | exact Nat.le_refl _ | exact Nat.zero_le _ | simp) ?_
  intro K hK
  simp -implicitDefEqProofs (maxSteps := 4000000) only [go_sem]
  refine ⟨by omega, by omega, ?_⟩
  refine loop_at tyOk [4, 8, 9, 10, 11, 12, 13, 14, 15, 16, 17, 18, 19, 20, 21] (fun q : Nat × List A × List (Value × D) => [(2, .nil), (3, .arr 0), (4, .int q.1)]) (fun q : Nat × List A × List (Value × D) => [.row 47 3 (q.2.1 ++ List.replicate (a.length - q.1) (.agg [.int 0, .str ⟨#[]⟩, .nil])), .forest q.2.2]) (fun q : Nat × List A × List (Value × D) => q.1 ≤ a.length ∧ q.2.1.length = q.1 ∧ Opd true ((a.take q.1).map Ex.E) q.2.1 q.2.2) (fun q : Nat × List A × List (Value × D) => a.length - q.1) (0, [], []) ?_ ?_ ?_
  · exact ⟨Nat.zero_le _, rfl, .nil⟩
  · simp -implicitDefEqProofs (maxSteps := 4000000) only [go_sem, Nat.sub_zero]
    exact ⟨ole_row rfl fun x hx => by rw [List.eq_of_mem_replicate hx]; simp -implicitDefEqProofs (maxSteps := 4000000) only [go_sem], by simp [O.lel]⟩
  rintro ⟨i, L', Ls'⟩ ⟨hi, hlL, ho⟩ Lp hL
  simp only at hi hlL ho
  have hw : wr .i64 ((i : Int) + 1) = ((i + 1 : Nat) : Int) := by rw [wr_in (by omega)]; omega
  simp -implicitDefEqProofs (maxSteps := 4000000) only [go_sem, hw]
  refine ⟨fun hlt => ⟨by omega, fun x hx => ?_⟩, fun hlt => ?_⟩
  · refine call_new (q := 1) (ih x (List.mem_of_getElem? hx)) rfl (by simp [lendAs, lendOk]) (fun _ => rfl) fun v _ => ?_
    simp -implicitDefEqProofs (maxSteps := 4000000) only [go_sem, hw, hlL]
    have H : Opd true ((a.take (i + 1)).map Ex.E) (L' ++ [.agg [.int x.k, .str x.n, .raw v]]) (Ls' ++ [(v, .lst (x.a.map Ex.E))]) := by
      rw [take_more hx, List.map_append]
      have h3 : COp x.E.cells [.int x.k, .str x.n, .raw v] [(v, .lst (x.a.map Ex.E))] := by rw [Ex.E_cells]; exact COp.v _ (COp.v _ (COp.lst v _ .nil))
      have h4 : Opd true [x.E] [.agg [.int x.k, .str x.n, .raw v]] [(v, .lst (x.a.map Ex.E))] := Opd.cons (ag := true) h3 .nil
      exact ho.app h4
    have hle : ∀ n m : Nat, O.le n m (.row 47 3 (L' ++ [.agg [.int x.k, .str x.n, .raw v]] ++ List.replicate (a.length - (i + 1)) (.agg [.int 0, .str ⟨#[]⟩, .nil]))) (.row 47 3 (L' ++ [.agg [.int x.k, .str x.n, .raw v]] ++ List.replicate (a.length - (i + 1)) (.agg [.int 0, .str ⟨#[]⟩, .nil]))) := fun n m => ole_row rfl fun y hy => by
      rcases List.mem_append.1 hy with hy | hy
      · exact H.les n m y hy
      · rw [List.eq_of_mem_replicate hy]; simp -implicitDefEqProofs (maxSteps := 4000000) only [go_sem]
    refine ⟨by omega, by omega, ?_⟩
    rw [fill_set hlL (by omega)]
    exact hL _ (i + 1, L' ++ [.agg [.int x.k, .str x.n, .raw v]], Ls' ++ [(v, .lst (x.a.map Ex.E))]) ⟨by omega, by simp [hlL], H⟩ (by simp only; omega) (by simp -implicitDefEqProofs (maxSteps := 4000000) only [go_sem, hle])
  · obtain rfl : i = a.length := by omega
    rw [List.take_length] at ho
    simp -implicitDefEqProofs (maxSteps := 4000000) only [go_sem, Nat.sub_self]
    exact end_close hK (k := 0) (by simp -implicitDefEqProofs (maxSteps := 4000000) only [go_sem]) rfl (.inl ⟨1, rfl⟩) ho (fun d _ h => by cases h) fun v => ⟨v, trivial, rfl, rfl⟩
theorem toExpr_step (e : Ex) (he : e.sm) (ih : ∀ x ∈ e.a, Ct Try.prog 68 [.d x.E] [] (fun _ : Value => True) (fun v => .agg [.int x.k, .str x.n, .raw v]) (fun v => [.forest [(v, .lst (x.a.map Ex.E))]])) :
    Ct Try.prog 68 [.d e.E] [] (fun _ : Value => True) (fun v => .agg [.int e.k, .str e.n, .raw v]) (fun v => [.forest [(v, .lst (e.a.map Ex.E))]]) := by
  refine ct_go tyOk Try.func68 rfl (by decide +kernel) Try.ntmps68 rfl (fun _ _ => by first | exact Nat.le_refl _ | exact Nat.zero_le _ | simp) ?_
  intro K hK
  simp -implicitDefEqProofs (maxSteps := 4000000) only [go_sem]
  refine call_objs [] (toExprS_fr e.a (e.sm_def.1 he).2.1 ih) (by simp -implicitDefEqProofs (maxSteps := 4000000) only [go_sem]; simp [O.lel, O.rens, pick]) fun v _ => ?_
  simp -implicitDefEqProofs (maxSteps := 4000000) only [go_sem]
  exact end_own hK v [3] trivial (by simp -implicitDefEqProofs (maxSteps := 4000000) only [go_sem]) (by simp -implicitDefEqProofs (maxSteps := 4000000) only [go_sem]) (by rfl) (by decide)
theorem toExpr_fr (e : Ex) : e.sm → Ct Try.prog 68 [.d e.E] [] (fun _ : Value => True) (fun v => .agg [.int e.k, .str e.n, .raw v]) (fun v => [.forest [(v, .lst (e.a.map Ex.E))]]) := by
  induction e using Ex.ind2 with
  | h e ih =>
    intro h
    exact toExpr_step e h fun x hx => ih x hx ((e.sm_def.1 h).2.2 x hx)
theorem toExpr_dt (e : Ex) (h : e.sm) : Ct Try.prog 68 [.d e.E] [] (fun _ : Unit => True) (fun _ => .d e.E) (fun _ => []) :=
  Ct.datF (φ' := fun _ : Unit => True) (r := fun _ => e.E) (fun _ => ()) (toExpr_fr e h) (fun _ _ => trivial) fun v _ => by
    rw [e.E_open]; simp [lendOk, lendDs]
end Go.Proofs.Ytamicpfjieandaa
