/- Marks, printed by mark.py. -/
import Derived.Test.YtamicpfjieandaaMg
import Derived.Test.YtamicpfjieandaaAbTz
namespace Go.Proofs.Ytamicpfjieandaa
open Go Go.Ab
set_option linter.unusedVariables false
set_option linter.unusedSimpArgs false
set_option maxRecDepth 100000
set_option maxHeartbeats 4000000
theorem RuleMk (x : TRule) (k : Int) : mkD x.E k = .agg [.v (.string (mk (k))), .v (.string (mk (k + 1))), .lst (mkDs (x.vars_.map D.str) (k + 1 + 1)), .lst (mkDs (x.params_.map D.str) (k + 1 + 1 + (cnts (x.vars_.map D.str) : Nat))), .v (.int .i64 (k + 1 + 1 + (cnts (x.vars_.map D.str) : Nat) + (cnts (x.params_.map D.str) : Nat))), .v (.string (mk (k + 1 + 1 + (cnts (x.vars_.map D.str) : Nat) + (cnts (x.params_.map D.str) : Nat) + 1))), .lst (mkDs (x.body_.a.map Ex.E) (k + 1 + 1 + (cnts (x.vars_.map D.str) : Nat) + (cnts (x.params_.map D.str) : Nat) + 1 + 1))] := by
  show mkD (.agg [.v (.string x.name_), .v (.string x.con_), .lst (x.vars_.map D.str), .lst (x.params_.map D.str), .v (.int .i64 x.body_.k), .v (.string x.body_.n), .lst (x.body_.a.map Ex.E)]) k = _
  simp [mkD, mkDs, mkV, D.cnt]
theorem RuleCnt (x : TRule) : x.E.cnt = 4 + cnts (x.vars_.map D.str) + cnts (x.params_.map D.str) + cnts (x.body_.a.map Ex.E) := by
  show D.cnt (.agg [.v (.string x.name_), .v (.string x.con_), .lst (x.vars_.map D.str), .lst (x.params_.map D.str), .v (.int .i64 x.body_.k), .v (.string x.body_.n), .lst (x.body_.a.map Ex.E)]) = _
  simp only [D.cnt, cnts]; omega
theorem lendRule {L : List (Value × D)} {x : TRule} {v0 v1 v2 : Value} (h0 : (v0, .lst (x.vars_.map D.str)) ∈ L) (h1 : (v1, .lst (x.params_.map D.str)) ∈ L) (h2 : (v2, .lst (x.body_.a.map Ex.E)) ∈ L) : lendOk L (.agg [.str x.name_, .str x.con_, .raw v0, .raw v1, .int x.body_.k, .str x.body_.n, .raw v2]) (.d x.E) := by
  show lendOk L _ (.d (.agg [.v (.string x.name_), .v (.string x.con_), .lst (x.vars_.map D.str), .lst (x.params_.map D.str), .v (.int .i64 x.body_.k), .v (.string x.body_.n), .lst (x.body_.a.map Ex.E)]))
  unfold lendOk
  refine .inr ⟨_, rfl, ?_⟩
  unfold lendDs
  refine ⟨_, _, rfl, by unfold lendOk; rfl, ?_⟩
  unfold lendDs
  refine ⟨_, _, rfl, by unfold lendOk; rfl, ?_⟩
  unfold lendDs
  refine ⟨_, _, rfl, by unfold lendOk; exact .inr ⟨_, h0, rfl⟩, ?_⟩
  unfold lendDs
  refine ⟨_, _, rfl, by unfold lendOk; exact .inr ⟨_, h1, rfl⟩, ?_⟩
  unfold lendDs
  refine ⟨_, _, rfl, by unfold lendOk; rfl, ?_⟩
  unfold lendDs
  refine ⟨_, _, rfl, by unfold lendOk; rfl, ?_⟩
  unfold lendDs
  refine ⟨_, _, rfl, by unfold lendOk; exact .inr ⟨_, h2, rfl⟩, ?_⟩
  unfold lendDs
  rfl
theorem lendRuleR {L : List (Value × D)} {x : TRule} {v0 v1 v2 : Value} : lendOk L (.agg [.str x.name_, .str x.con_, .raw v0, .raw v1, .int x.body_.k, .str x.body_.n, .raw v2]) (.agg [.str x.name_, .str x.con_, .raw v0, .raw v1, .int x.body_.k, .str x.body_.n, .raw v2]) := by
  unfold lendOk
  refine .inl ⟨_, rfl, ?_⟩
  unfold lendAs
  refine ⟨_, _, rfl, by unfold lendOk; rfl, ?_⟩
  unfold lendAs
  refine ⟨_, _, rfl, by unfold lendOk; rfl, ?_⟩
  unfold lendAs
  refine ⟨_, _, rfl, by unfold lendOk; exact .inl rfl, ?_⟩
  unfold lendAs
  refine ⟨_, _, rfl, by unfold lendOk; exact .inl rfl, ?_⟩
  unfold lendAs
  refine ⟨_, _, rfl, by unfold lendOk; rfl, ?_⟩
  unfold lendAs
  refine ⟨_, _, rfl, by unfold lendOk; rfl, ?_⟩
  unfold lendAs
  refine ⟨_, _, rfl, by unfold lendOk; exact .inl rfl, ?_⟩
  unfold lendAs
  rfl
theorem toRule_fr (x : TRule) (hsm : x.sm) : Ct Try.prog 23 [.d x.E] [] (fun _ : Value × Value × Value => True) (fun v => .agg [.str x.name_, .str x.con_, .raw v.1, .raw v.2.1, .int x.body_.k, .str x.body_.n, .raw v.2.2]) (fun v => [.forest [(v.1, .lst (x.vars_.map D.str)), (v.2.1, .lst (x.params_.map D.str)), (v.2.2, .lst (x.body_.a.map Ex.E))]]) := by
  refine ct_go tyOk Try.func23 rfl (by decide +kernel) Try.ntmps23 rfl (fun _ _ => by first | exact Nat.le_refl _ | exact Nat.zero_le _ | simp) ?_
  intro K hK
  simp -implicitDefEqProofs (maxSteps := 4000000) only [go_sem]
  refine call_objs [] (toStringS_fr x.vars_ (by first | exact hsm.2.2.1 | exact hsm | simpa using hsm)) (by simp -implicitDefEqProofs (maxSteps := 4000000) only [go_sem]; simp [O.lel, O.rens, pick]) fun w0 _ => ?_
  simp -implicitDefEqProofs (maxSteps := 4000000) only [go_sem]
  refine call_new (q := 3) (toStringS_fr x.params_ (by first | exact hsm.2.2.2.1 | exact hsm | simpa using hsm)) rfl (by simp [lendAs, lendOk]) (fun _ => rfl) fun w1 _ => ?_
  simp -implicitDefEqProofs (maxSteps := 4000000) only [go_sem]
  refine call_new (q := 3) (toExpr_fr x.body_ (by first | exact hsm.2.2.2.2 | exact hsm | simpa using hsm)) rfl (by simp [lendAs, lendOk]) (fun _ => rfl) fun w2 _ => ?_
  simp -implicitDefEqProofs (maxSteps := 4000000) only [go_sem]
  exact end_own hK (w0, w1, w2) [3] trivial (by simp -implicitDefEqProofs (maxSteps := 4000000) only [go_sem]) (by simp -implicitDefEqProofs (maxSteps := 4000000) only [go_sem]) (by rfl) (by decide)
theorem toRule_dt (x : TRule) (hsm : x.sm) : Ct Try.prog 23 [.d x.E] [] (fun _ : Unit => True) (fun _ => .d x.E) (fun _ => []) :=
  Ct.datF (φ' := fun _ : Unit => True) (r := fun _ => x.E) (fun _ => ()) (toRule_fr x hsm) (fun _ _ => trivial) fun v _ => lendRule (by simp) (by simp) (by simp)
theorem toRuleS_fr (a : List TRule) (hsm : a.length ≤ 1048576 ∧ ∀ y ∈ a, y.sm) : Ct Try.prog 62 [.d (.lst (a.map TRule.E))] [] (fun _ : Value => True) (fun v => .raw v) (fun v => [.forest [(v, .lst (a.map TRule.E))]]) := by
  obtain ⟨ha, hel⟩ := hsm
  refine ct_go tyOk Try.func62 rfl (by decide +kernel) Try.ntmps62 rfl (fun _ _ => by first | exact Nat.le_refl _ | exact Nat.zero_le _ | simp) ?_
  intro K hK
  simp -implicitDefEqProofs (maxSteps := 4000000) only [go_sem]
  refine ⟨by omega, by omega, ?_⟩
  refine loop_at tyOk [4, 8, 9, 10, 11, 12, 13, 14, 15, 16, 17, 18, 19, 20, 21] (fun q : Nat × List A × List (Value × D) => [(2, .nil), (3, .arr 0), (4, .int q.1)]) (fun q : Nat × List A × List (Value × D) => [.row 49 7 (q.2.1 ++ List.replicate (a.length - q.1) (.agg [.str ⟨#[]⟩, .str ⟨#[]⟩, .nil, .nil, .int 0, .str ⟨#[]⟩, .nil])), .forest q.2.2]) (fun q : Nat × List A × List (Value × D) => q.1 ≤ a.length ∧ q.2.1.length = q.1 ∧ Opd true ((a.take q.1).map TRule.E) q.2.1 q.2.2) (fun q : Nat × List A × List (Value × D) => a.length - q.1) (0, [], []) ?_ ?_ ?_
  · exact ⟨Nat.zero_le _, rfl, .nil⟩
  · simp -implicitDefEqProofs (maxSteps := 4000000) only [go_sem, Nat.sub_zero]
    exact ⟨ole_row rfl fun x hx => by rw [List.eq_of_mem_replicate hx]; simp -implicitDefEqProofs (maxSteps := 4000000) only [go_sem], by simp [O.lel]⟩
  rintro ⟨i, L', Ls'⟩ ⟨hi, hlL, ho⟩ Lp hL
  simp only at hi hlL ho
  have hw : wr .i64 ((i : Int) + 1) = ((i + 1 : Nat) : Int) := by rw [wr_in (by omega)]; omega
  simp -implicitDefEqProofs (maxSteps := 4000000) only [go_sem, hw]
  refine ⟨fun hlt => ⟨by omega, fun x hx => ?_⟩, fun hlt => ?_⟩
  · refine call_new (q := 1) (toRule_fr x (hel x (List.mem_of_getElem? hx))) rfl (by simp [lendAs, lendOk]) (fun _ => rfl) fun v _ => ?_
    simp -implicitDefEqProofs (maxSteps := 4000000) only [go_sem, hw, hlL]
    have H : Opd true ((a.take (i + 1)).map TRule.E) (L' ++ [.agg [.str x.name_, .str x.con_, .raw v.1, .raw v.2.1, .int x.body_.k, .str x.body_.n, .raw v.2.2]]) (Ls' ++ [(v.1, .lst (x.vars_.map D.str)), (v.2.1, .lst (x.params_.map D.str)), (v.2.2, .lst (x.body_.a.map Ex.E))]) := by
      rw [take_more hx, List.map_append]
      have h3 : COp x.E.cells [.str x.name_, .str x.con_, .raw v.1, .raw v.2.1, .int x.body_.k, .str x.body_.n, .raw v.2.2] [(v.1, .lst (x.vars_.map D.str)), (v.2.1, .lst (x.params_.map D.str)), (v.2.2, .lst (x.body_.a.map Ex.E))] := (COp.v _ (COp.v _ (COp.lst (v.1) _ (COp.lst (v.2.1) _ (COp.v _ (COp.v _ (COp.lst (v.2.2) _ .nil)))))))
      have h4 : Opd true [x.E] [.agg [.str x.name_, .str x.con_, .raw v.1, .raw v.2.1, .int x.body_.k, .str x.body_.n, .raw v.2.2]] [(v.1, .lst (x.vars_.map D.str)), (v.2.1, .lst (x.params_.map D.str)), (v.2.2, .lst (x.body_.a.map Ex.E))] := Opd.cons (ag := true) h3 .nil
      exact ho.app h4
    have hle : ∀ n m : Nat, O.le n m (.row 49 7 (L' ++ [.agg [.str x.name_, .str x.con_, .raw v.1, .raw v.2.1, .int x.body_.k, .str x.body_.n, .raw v.2.2]] ++ List.replicate (a.length - (i + 1)) (.agg [.str ⟨#[]⟩, .str ⟨#[]⟩, .nil, .nil, .int 0, .str ⟨#[]⟩, .nil]))) (.row 49 7 (L' ++ [.agg [.str x.name_, .str x.con_, .raw v.1, .raw v.2.1, .int x.body_.k, .str x.body_.n, .raw v.2.2]] ++ List.replicate (a.length - (i + 1)) (.agg [.str ⟨#[]⟩, .str ⟨#[]⟩, .nil, .nil, .int 0, .str ⟨#[]⟩, .nil]))) := fun n m => ole_row rfl fun y hy => by
      rcases List.mem_append.1 hy with hy | hy
      · exact H.les n m y hy
      · rw [List.eq_of_mem_replicate hy]; simp -implicitDefEqProofs (maxSteps := 4000000) only [go_sem]
    refine ⟨by omega, by omega, ?_⟩
    rw [fill_set hlL (by omega)]
    exact hL _ (i + 1, L' ++ [.agg [.str x.name_, .str x.con_, .raw v.1, .raw v.2.1, .int x.body_.k, .str x.body_.n, .raw v.2.2]], Ls' ++ [(v.1, .lst (x.vars_.map D.str)), (v.2.1, .lst (x.params_.map D.str)), (v.2.2, .lst (x.body_.a.map Ex.E))]) ⟨by omega, by simp [hlL], H⟩ (by simp only; omega) (by simp -implicitDefEqProofs (maxSteps := 4000000) only [go_sem, hle])
  · obtain rfl : i = a.length := by omega
    rw [List.take_length] at ho
    simp -implicitDefEqProofs (maxSteps := 4000000) only [go_sem, Nat.sub_self]
    exact end_close hK (k := 0) (by simp -implicitDefEqProofs (maxSteps := 4000000) only [go_sem]) rfl (.inl ⟨1, rfl⟩) ho (fun d _ h => by cases h) fun v => ⟨v, trivial, rfl, rfl⟩
theorem markRuleS_op (a : List TRule) (v : Value) (hel : ∀ y ∈ a, y.sm) (hsm : a.length ≤ 1048576) (k : Int) (h0 : 0 ≤ k) (h1 : k + cnts (a.map TRule.E) ≤ 1099511627776) (L : List A) (Ls : List (Value × D)) (ho : Opd true (a.map TRule.E) L Ls) :
    Ct Try.prog 65 [.arr 0, .int k] [.opn v 49 7 L, .forest Ls] (fun q : Unit × List A × List (Value × D) => True ∧ Opd true (mkDs (a.map TRule.E) k) q.2.1 q.2.2) (fun _ => .int (k + cnts (a.map TRule.E))) (fun q => [.opn v 49 7 q.2.1, .forest q.2.2]) := by
  refine ct_go tyOk Try.func65 rfl (by decide +kernel) Try.ntmps65 rfl (fun _ _ => by first | exact Nat.le_refl _ | exact Nat.zero_le _ | simp) ?_
  intro K hK
  simp -implicitDefEqProofs (maxSteps := 4000000) only [go_sem]
  refine loop_at tyOk [1, 5, 6, 7, 8, 9, 10, 11, 12, 13, 14, 15, 16, 17, 18, 19, 20, 21, 22, 23, 24, 25, 26, 27, 28, 29, 30, 31, 32, 33, 34, 35, 36, 37, 38, 39, 40, 41, 42, 43, 44, 45, 46, 47, 48, 49, 50, 51, 52, 53, 54, 55, 56, 57, 58, 59, 60, 61, 62, 63, 64, 65, 66] (fun q : Nat × List A × List (Value × D) => [(0, .arr 0), (1, .int (k + cnts ((a.take q.1).map TRule.E))), (5, .int q.1)]) (fun q : Nat × List A × List (Value × D) => [.opn v 49 7 q.2.1, .forest q.2.2]) (fun q : Nat × List A × List (Value × D) => q.1 ≤ a.length ∧ Opd true (mkDs ((a.take q.1).map TRule.E) k ++ (a.map TRule.E).drop q.1) q.2.1 q.2.2) (fun q : Nat × List A × List (Value × D) => a.length - q.1) (0, L, Ls) ?_ ?_ ?_
  · exact ⟨Nat.zero_le _, by simpa [mkDs] using ho⟩
  · simp -implicitDefEqProofs (maxSteps := 4000000) only [go_sem, ho.ole, cnts, Int.add_zero, List.take_zero]
  rintro ⟨i, L', Ls'⟩ ⟨hi, ho'⟩ Lp hL
  simp only at hi ho'
  have hlen' : L'.length = a.length := by rw [← ho'.len, List.length_append, mkDs_len, List.length_map, List.length_take, List.length_drop, List.length_map]; omega
  have hwi : wr .i64 ((i : Int) + 1) = ((i + 1 : Nat) : Int) := by rw [wr_in (by omega)]; omega
  simp -implicitDefEqProofs (maxSteps := 4000000) only [go_sem, hlen']
  refine ⟨fun hlt => ?_, fun hlt => ?_⟩
  · have hi2 : i < a.length := by omega
    obtain ⟨x, hx⟩ : ∃ x, a[i]? = some x := ⟨_, List.getElem?_eq_getElem hi2⟩
    have hxE : (a.map TRule.E)[i]? = some x.E := by rw [List.getElem?_map, hx]; rfl
    have hc1 := cnts_at hxE
    have hc2 := cnts_take hxE
    rw [← List.map_take, RuleCnt] at hc1
    rw [← List.map_take, ← List.map_take, RuleCnt] at hc2
    have hxs := hel x (List.mem_of_getElem? hx)
    generalize hn : cnts ((a.take i).map TRule.E) = n at *
    have hw0 : wr .i64 (k + (n : Int) + 1) = k + (n : Int) + 1 := wr_in (by omega)
    have hw1 : wr .i64 (k + (n : Int) + 1 + 1) = k + (n : Int) + 1 + 1 := wr_in (by omega)
    have hw4 : wr .i64 (k + (n : Int) + 1 + 1 + (cnts (x.vars_.map D.str) : Nat) + (cnts (x.params_.map D.str) : Nat) + 1) = k + (n : Int) + 1 + 1 + (cnts (x.vars_.map D.str) : Nat) + (cnts (x.params_.map D.str) : Nat) + 1 := wr_in (by omega)
    have hw5 : wr .i64 (k + (n : Int) + 1 + 1 + (cnts (x.vars_.map D.str) : Nat) + (cnts (x.params_.map D.str) : Nat) + 1 + 1) = k + (n : Int) + 1 + 1 + (cnts (x.vars_.map D.str) : Nat) + (cnts (x.params_.map D.str) : Nat) + 1 + 1 := wr_in (by omega)
    obtain ⟨La, Lb, Lsa, Lsb, cs, Lc, rfl, rfl, hLa, ha, g0, hb⟩ := ho'.at hxE (by rw [mkDs_len, List.length_map, List.length_take]; omega)
    have g0 : COp [.v (.string x.name_), .v (.string x.con_), .lst (x.vars_.map D.str), .lst (x.params_.map D.str), .v (.int .i64 x.body_.k), .v (.string x.body_.n), .lst (x.body_.a.map Ex.E)] cs Lc := g0
    obtain ⟨cs1, rfl, g1⟩ := COp.inv_v g0
    obtain ⟨cs2, rfl, g2⟩ := COp.inv_v g1
    obtain ⟨r0, cs3, Lc0, rfl, rfl, g3⟩ := COp.inv_lst g2
    obtain ⟨r1, cs4, Lc1, rfl, rfl, g4⟩ := COp.inv_lst g3
    obtain ⟨cs5, rfl, g5⟩ := COp.inv_v g4
    obtain ⟨cs6, rfl, g6⟩ := COp.inv_v g5
    obtain ⟨r2, cs7, Lc2, rfl, rfl, g7⟩ := COp.inv_lst g6
    obtain ⟨rfl, rfl⟩ := COp.inv_nil g7
    have hL2 := hlen'
    rw [List.length_append, List.length_cons] at hL2
    simp -implicitDefEqProofs (maxSteps := 4000000) only [go_sem, hlen', at_mid hLa, set_mid hLa, hwi, hw0, hw1, hw4, hw5]
    try repeat (refine ⟨by omega, ?_⟩)
    refine call_p (markText_ct _ (by omega)) rfl fun _ _ => ?_
    simp -implicitDefEqProofs (maxSteps := 4000000) only [go_sem, hlen', at_mid hLa, set_mid hLa, hwi, hw0, hw1, hw4, hw5]
    try repeat (refine ⟨by omega, ?_⟩)
    refine call_p (markText_ct _ (by omega)) rfl fun _ _ => ?_
    simp -implicitDefEqProofs (maxSteps := 4000000) only [go_sem, hlen', at_mid hLa, set_mid hLa, hwi, hw0, hw1, hw4, hw5]
    try repeat (refine ⟨by omega, ?_⟩)
    refine call_trees (q := 1) (La := Lsa ++ []) (lc := [(r0, .lst (x.vars_.map D.str))]) (Lb := [(r1, .lst (x.params_.map D.str)), (r2, .lst (x.body_.a.map Ex.E))] ++ Lsb) (markStringS_cn x.vars_ (by first | exact hxs.2.2.1 | exact hxs | simpa using hxs) r0 (k + (n : Int) + 1 + 1) (by omega) (by omega)) (by simp) (by simp [lendAs, lendOk]) (fun _ => rfl) fun _ _ => ?_
    simp -implicitDefEqProofs (maxSteps := 4000000) only [go_sem, hlen', at_mid hLa, set_mid hLa, hwi, hw0, hw1, hw4, hw5, List.append_assoc, List.cons_append, List.nil_append, List.append_nil]
    try repeat (refine ⟨by omega, ?_⟩)
    refine call_trees (q := 1) (La := Lsa ++ [(r0, .lst (mkDs (x.vars_.map D.str) (k + (n : Int) + 1 + 1)))]) (lc := [(r1, .lst (x.params_.map D.str))]) (Lb := [(r2, .lst (x.body_.a.map Ex.E))] ++ Lsb) (markStringS_cn x.params_ (by first | exact hxs.2.2.2.1 | exact hxs | simpa using hxs) r1 (k + (n : Int) + 1 + 1 + (cnts (x.vars_.map D.str) : Nat)) (by omega) (by omega)) (by simp) (by simp [lendAs, lendOk]) (fun _ => rfl) fun _ _ => ?_
    simp -implicitDefEqProofs (maxSteps := 4000000) only [go_sem, hlen', at_mid hLa, set_mid hLa, hwi, hw0, hw1, hw4, hw5, List.append_assoc, List.cons_append, List.nil_append, List.append_nil]
    try repeat (refine ⟨by omega, ?_⟩)
    refine call_p (markText_ct _ (by omega)) rfl fun _ _ => ?_
    simp -implicitDefEqProofs (maxSteps := 4000000) only [go_sem, hlen', at_mid hLa, set_mid hLa, hwi, hw0, hw1, hw4, hw5]
    try repeat (refine ⟨by omega, ?_⟩)
    refine call_trees (q := 1) (La := Lsa ++ [(r0, .lst (mkDs (x.vars_.map D.str) (k + (n : Int) + 1 + 1))), (r1, .lst (mkDs (x.params_.map D.str) (k + (n : Int) + 1 + 1 + (cnts (x.vars_.map D.str) : Nat))))]) (lc := [(r2, .lst (x.body_.a.map Ex.E))]) (Lb := [] ++ Lsb) (markExprS_ct x.body_.a ((x.body_.sm_def.1 (by first | exact hxs.2.2.2.2 | exact hxs)).2) r2 (k + (n : Int) + 1 + 1 + (cnts (x.vars_.map D.str) : Nat) + (cnts (x.params_.map D.str) : Nat) + 1 + 1) (by omega) (by omega)) (by simp) (by simp [lendAs, lendOk]) (fun _ => rfl) fun _ _ => ?_
    simp -implicitDefEqProofs (maxSteps := 4000000) only [go_sem, hlen', at_mid hLa, set_mid hLa, hwi, hw0, hw1, hw4, hw5, List.append_assoc, List.cons_append, List.nil_append, List.append_nil]
    try repeat (refine ⟨by omega, ?_⟩)
    have H : Opd true (mkDs ((a.take (i + 1)).map TRule.E) k ++ (a.map TRule.E).drop (i + 1)) (La ++ .agg [.str (mk (k + (n : Int))), .str (mk (k + (n : Int) + 1)), .raw r0, .raw r1, .int (k + (n : Int) + 1 + 1 + (cnts (x.vars_.map D.str) : Nat) + (cnts (x.params_.map D.str) : Nat)), .str (mk (k + (n : Int) + 1 + 1 + (cnts (x.vars_.map D.str) : Nat) + (cnts (x.params_.map D.str) : Nat) + 1)), .raw r2] :: Lb) (Lsa ++ ([(r0, .lst (mkDs (x.vars_.map D.str) (k + (n : Int) + 1 + 1))), (r1, .lst (mkDs (x.params_.map D.str) (k + (n : Int) + 1 + 1 + (cnts (x.vars_.map D.str) : Nat)))), (r2, .lst (mkDs (x.body_.a.map Ex.E) (k + (n : Int) + 1 + 1 + (cnts (x.vars_.map D.str) : Nat) + (cnts (x.params_.map D.str) : Nat) + 1 + 1)))] ++ Lsb)) := by
      rw [take_more hx, List.map_append, mkDs_app, hn, List.append_assoc]
      show Opd true (_ ++ (mkD x.E (k + n) :: _)) _ _
      rw [RuleMk]
      exact ha.app (Opd.cons (ag := true) (d := .agg _) (cs := [.str (mk (k + (n : Int))), .str (mk (k + (n : Int) + 1)), .raw r0, .raw r1, .int (k + (n : Int) + 1 + 1 + (cnts (x.vars_.map D.str) : Nat) + (cnts (x.params_.map D.str) : Nat)), .str (mk (k + (n : Int) + 1 + 1 + (cnts (x.vars_.map D.str) : Nat) + (cnts (x.params_.map D.str) : Nat) + 1)), .raw r2]) (COp.v _ (COp.v _ (COp.lst r0 _ (COp.lst r1 _ (COp.v _ (COp.v _ (COp.lst r2 _ .nil))))))) hb)
    have hk' : k + ((cnts ((a.take (i + 1)).map TRule.E) : Nat) : Int) = k + (n : Int) + 1 + 1 + (cnts (x.vars_.map D.str) : Nat) + (cnts (x.params_.map D.str) : Nat) + 1 + 1 + (cnts (x.body_.a.map Ex.E) : Nat) := by rw [hc2]; omega
    exact hL _ (i + 1, La ++ .agg [.str (mk (k + (n : Int))), .str (mk (k + (n : Int) + 1)), .raw r0, .raw r1, .int (k + (n : Int) + 1 + 1 + (cnts (x.vars_.map D.str) : Nat) + (cnts (x.params_.map D.str) : Nat)), .str (mk (k + (n : Int) + 1 + 1 + (cnts (x.vars_.map D.str) : Nat) + (cnts (x.params_.map D.str) : Nat) + 1)), .raw r2] :: Lb, Lsa ++ ([(r0, .lst (mkDs (x.vars_.map D.str) (k + (n : Int) + 1 + 1))), (r1, .lst (mkDs (x.params_.map D.str) (k + (n : Int) + 1 + 1 + (cnts (x.vars_.map D.str) : Nat)))), (r2, .lst (mkDs (x.body_.a.map Ex.E) (k + (n : Int) + 1 + 1 + (cnts (x.vars_.map D.str) : Nat) + (cnts (x.params_.map D.str) : Nat) + 1 + 1)))] ++ Lsb)) ⟨by omega, H⟩ (by simp only; omega) (by simp -implicitDefEqProofs (maxSteps := 4000000) only [go_sem, H.ole, hk', List.cons_append, List.nil_append])
  · obtain rfl : i = a.length := by omega
    have H : Opd true (mkDs (a.map TRule.E) k) L' Ls' := by rw [List.drop_of_length_le (by simp), List.append_nil, List.take_length] at ho'; exact ho'
    exact end_gen hK ((), L', Ls') 2 ⟨trivial, H⟩ (by simp -implicitDefEqProofs (maxSteps := 4000000) only [go_sem, H.ole, List.take_length])
theorem markRuleS_nil (k : Int) : Ct Try.prog 65 [.d (.lst []), .int k] [] (fun _ : Unit => True) (fun _ => .int k) (fun _ => []) := by
  refine ct_go tyOk Try.func65 rfl (by decide +kernel) Try.ntmps65 rfl (fun _ _ => by first | exact Nat.le_refl _ | exact Nat.zero_le _ | simp) ?_
  intro K hK
  simp -implicitDefEqProofs (maxSteps := 4000000) only [go_sem]
  refine loop_st tyOk [1, 5, 6, 7, 8, 9, 10, 11, 12, 13, 14, 15, 16, 17, 18, 19, 20, 21, 22, 23, 24, 25, 26, 27, 28, 29, 30, 31, 32, 33, 34, 35, 36, 37, 38, 39, 40, 41, 42, 43, 44, 45, 46, 47, 48, 49, 50, 51, 52, 53, 54, 55, 56, 57, 58, 59, 60, 61, 62, 63, 64, 65, 66] (fun q : Unit => [(1, .int k), (5, .int 0)]) (fun q : Unit => True) (fun q : Unit => 0) () ?_ ?_ ?_
  · trivial
  · simp -implicitDefEqProofs (maxSteps := 4000000) only [go_sem]
  rintro _ _ Lp hL
  simp -implicitDefEqProofs (maxSteps := 4000000) only [go_sem]
  exact ⟨fun h => absurd h (by omega), fun h => end_pure hK () trivial (by simp -implicitDefEqProofs (maxSteps := 4000000) only [go_sem])⟩
theorem markRuleS_ct (a : List TRule) (hsm : a.length ≤ 1048576 ∧ ∀ y ∈ a, y.sm) (v : Value) (k : Int) (h0 : 0 ≤ k) (h1 : k + cnts (a.map TRule.E) ≤ 1099511627776) :
    Ct Try.prog 65 [.raw v, .int k] [.forest [(v, .lst (a.map TRule.E))]] (fun _ : Unit => True) (fun _ => .int (k + cnts (a.map TRule.E))) (fun _ => [.forest [(v, .lst (mkDs (a.map TRule.E) k))]]) := by
  by_cases hne : a = []
  · subst hne
    have := Ct.lend (l := [(v, .lst [])]) (args := [.raw v, .int k]) (markRuleS_nil k) (by simp [lendAs, lendOk]) (fun _ => rfl)
    simpa [mkDs, cnts] using this
  · have hc : ∀ d ∈ a.map TRule.E, d.cells.length = 7 := TRule.flat a
    exact Ct.open (u := 49) (sz := 7) (ag := true) (l' := fun _ => mkDs (a.map TRule.E) k) (by simpa using hne) (fun d hd h => by cases h) hc (fun _ _ d hd h => by cases h) (markRuleS_nil k).1 rfl (fun _ => rfl)
      fun L Ls ho => markRuleS_op a v hsm.2 hsm.1 k h0 h1 L Ls ho
theorem Rule_cns (x : TRule) (l : Int) (h0 : 0 ≤ l) (h : 0 ≤ x.sz l) : x.sz l ≤ l ∧ (x.E.cnt : Int) ≤ 4 + 16 * (l - x.sz l) := by
  rw [RuleCnt]
  unfold TRule.sz at h ⊢
  obtain ⟨l1, e1, p1, s1⟩ := cn_step h
  rw [s1] at h ⊢
  obtain ⟨l2, e2, p2, s2⟩ := cn_step h
  rw [s2] at h ⊢
  obtain ⟨l3, e3, p3, s3⟩ := cn_step h
  rw [s3] at h ⊢
  obtain ⟨l4, e4, p4, s4⟩ := cn_step h
  rw [s4] at h ⊢
  obtain ⟨l5, e5, p5, s5⟩ := cn_step h
  rw [s5] at h ⊢
  simp only [szSeq] at h ⊢
  have f1 : l1 ≤ l := by rw [e1]; show l - (_ : Int) ≤ _; omega
  have f2 : l2 ≤ l1 := by rw [e2]; show l1 - (_ : Int) ≤ _; omega
  have f3 := cn_rows (f := (fun s l => l - (s.size : Int))) (E := D.str) (a := x.vars_) (fun y _ => cn_str y) l2 (by omega) (by rw [← e3]; omega)
  rw [← e3] at f3
  have f4 := cn_rows (f := (fun s l => l - (s.size : Int))) (E := D.str) (a := x.params_) (fun y _ => cn_str y) l3 (by omega) (by rw [← e4]; omega)
  rw [← e4] at f4
  have f5 := cn_ex2 x.body_ l4 (by omega) (by rw [← e5]; omega)
  rw [exc] at f5
  rw [← e5] at f5
  clear s1 e1 s2 e2 s3 e3 s4 e4 s5 e5
  omega
theorem Rule_cn (x : TRule) : Cn TRule.sz TRule.E x := fun l h0 h => by
  have := Rule_cns x l h0 h
  exact ⟨this.1, by have := this.2; omega⟩
theorem markRule_ct (x : TRule) (hsm : x.sm) (v0 v1 v2 : Value) (k : Int) (h0 : 0 ≤ k) (h1 : k + (cnts (x.vars_.map D.str) : Nat) + (cnts (x.params_.map D.str) : Nat) + (cnts (x.body_.a.map Ex.E) : Nat) ≤ 1099511627776) :
    Ct Try.prog 27 [.agg [.str x.name_, .str x.con_, .raw v0, .raw v1, .int x.body_.k, .str x.body_.n, .raw v2], .int k] [.forest [(v0, .lst (x.vars_.map D.str)), (v1, .lst (x.params_.map D.str)), (v2, .lst (x.body_.a.map Ex.E))]] (fun _ : Unit => True) (fun _ => .int (k + (cnts (x.vars_.map D.str) : Nat) + (cnts (x.params_.map D.str) : Nat) + (cnts (x.body_.a.map Ex.E) : Nat))) (fun _ => [.forest [(v0, .lst (mkDs (x.vars_.map D.str) (k))), (v1, .lst (mkDs (x.params_.map D.str) (k + (cnts (x.vars_.map D.str) : Nat)))), (v2, .lst (mkDs (x.body_.a.map Ex.E) (k + (cnts (x.vars_.map D.str) : Nat) + (cnts (x.params_.map D.str) : Nat))))]]) := by
  refine ct_go tyOk Try.func27 rfl (by decide +kernel) Try.ntmps27 rfl (fun _ _ => by first | exact Nat.le_refl _ | exact Nat.zero_le _ | simp) ?_
  intro K hK
  simp -implicitDefEqProofs (maxSteps := 4000000) only [go_sem]
  refine call_trees (q := 0) (La := []) (lc := [(v0, .lst (x.vars_.map D.str))]) (Lb := [(v1, .lst (x.params_.map D.str)), (v2, .lst (x.body_.a.map Ex.E))]) (markStringS_cn x.vars_ (by first | exact hsm.2.2.1 | exact hsm | simpa using hsm) v0 (k) (by omega) (by omega)) rfl (by simp [lendAs, lendOk]) (fun _ => rfl) fun _ _ => ?_
  simp -implicitDefEqProofs (maxSteps := 4000000) only [go_sem]
  refine call_trees (q := 0) (La := [(v0, .lst (mkDs (x.vars_.map D.str) (k)))]) (lc := [(v1, .lst (x.params_.map D.str))]) (Lb := [(v2, .lst (x.body_.a.map Ex.E))]) (markStringS_cn x.params_ (by first | exact hsm.2.2.2.1 | exact hsm | simpa using hsm) v1 (k + (cnts (x.vars_.map D.str) : Nat)) (by omega) (by omega)) rfl (by simp [lendAs, lendOk]) (fun _ => rfl) fun _ _ => ?_
  simp -implicitDefEqProofs (maxSteps := 4000000) only [go_sem]
  refine call_trees (q := 0) (La := [(v0, .lst (mkDs (x.vars_.map D.str) (k))), (v1, .lst (mkDs (x.params_.map D.str) (k + (cnts (x.vars_.map D.str) : Nat))))]) (lc := [(v2, .lst (x.body_.a.map Ex.E))]) (Lb := []) (markExpr_ct x.body_ (hsm.2.2.2.2) v2 (k + (cnts (x.vars_.map D.str) : Nat) + (cnts (x.params_.map D.str) : Nat)) (by omega) (by omega)) rfl (by simp only [lendAs]; exact ⟨_, _, rfl, lendR (k := x.body_.k) (n := x.body_.n), _, _, rfl, by simp [lendOk], rfl⟩) (fun _ => rfl) fun _ _ => ?_
  simp -implicitDefEqProofs (maxSteps := 4000000) only [go_sem]
  exact end_gen hK () 1 trivial (by simp -implicitDefEqProofs (maxSteps := 4000000) only [go_sem])
theorem ProgramMk (x : TProgram) (k : Int) : mkD x.E k = .agg [.lst (mkDs (x.rules_.map TRule.E) (k))] := by
  show mkD (.agg [.lst (x.rules_.map TRule.E)]) k = _
  simp [mkD, mkDs, mkV, D.cnt]
theorem ProgramCnt (x : TProgram) : x.E.cnt = 0 + cnts (x.rules_.map TRule.E) := by
  show D.cnt (.agg [.lst (x.rules_.map TRule.E)]) = _
  simp only [D.cnt, cnts]; omega
theorem lendProgram {L : List (Value × D)} {x : TProgram} {v0 : Value} (h0 : (v0, .lst (x.rules_.map TRule.E)) ∈ L) : lendOk L (.agg [.raw v0]) (.d x.E) := by
  show lendOk L _ (.d (.agg [.lst (x.rules_.map TRule.E)]))
  unfold lendOk
  refine .inr ⟨_, rfl, ?_⟩
  unfold lendDs
  refine ⟨_, _, rfl, by unfold lendOk; exact .inr ⟨_, h0, rfl⟩, ?_⟩
  unfold lendDs
  rfl
theorem lendProgramR {L : List (Value × D)} {x : TProgram} {v0 : Value} : lendOk L (.agg [.raw v0]) (.agg [.raw v0]) := by
  unfold lendOk
  refine .inl ⟨_, rfl, ?_⟩
  unfold lendAs
  refine ⟨_, _, rfl, by unfold lendOk; exact .inl rfl, ?_⟩
  unfold lendAs
  rfl
theorem toProgram_fr (x : TProgram) (hsm : x.sm) : Ct Try.prog 14 [.d x.E] [] (fun _ : Value => True) (fun v => .agg [.raw v]) (fun v => [.forest [(v, .lst (x.rules_.map TRule.E))]]) := by
  refine ct_go tyOk Try.func14 rfl (by decide +kernel) Try.ntmps14 rfl (fun _ _ => by first | exact Nat.le_refl _ | exact Nat.zero_le _ | simp) ?_
  intro K hK
  simp -implicitDefEqProofs (maxSteps := 4000000) only [go_sem]
  refine call_objs [] (toRuleS_fr x.rules_ (by first | exact hsm.1 | exact hsm | simpa using hsm)) (by simp -implicitDefEqProofs (maxSteps := 4000000) only [go_sem]; simp [O.lel, O.rens, pick]) fun w0 _ => ?_
  simp -implicitDefEqProofs (maxSteps := 4000000) only [go_sem]
  exact end_own hK (w0) [3] trivial (by simp -implicitDefEqProofs (maxSteps := 4000000) only [go_sem]) (by simp -implicitDefEqProofs (maxSteps := 4000000) only [go_sem]) (by rfl) (by decide)
theorem toProgram_dt (x : TProgram) (hsm : x.sm) : Ct Try.prog 14 [.d x.E] [] (fun _ : Unit => True) (fun _ => .d x.E) (fun _ => []) :=
  Ct.datF (φ' := fun _ : Unit => True) (r := fun _ => x.E) (fun _ => ()) (toProgram_fr x hsm) (fun _ _ => trivial) fun v _ => lendProgram (by simp)
theorem markProgram_ct (x : TProgram) (hsm : x.sm) (v0 : Value) (k : Int) (h0 : 0 ≤ k) (h1 : k + (cnts (x.rules_.map TRule.E) : Nat) ≤ 1099511627776) :
    Ct Try.prog 18 [.agg [.raw v0], .int k] [.forest [(v0, .lst (x.rules_.map TRule.E))]] (fun _ : Unit => True) (fun _ => .int (k + (cnts (x.rules_.map TRule.E) : Nat))) (fun _ => [.forest [(v0, .lst (mkDs (x.rules_.map TRule.E) (k)))]]) := by
  refine ct_go tyOk Try.func18 rfl (by decide +kernel) Try.ntmps18 rfl (fun _ _ => by first | exact Nat.le_refl _ | exact Nat.zero_le _ | simp) ?_
  intro K hK
  simp -implicitDefEqProofs (maxSteps := 4000000) only [go_sem]
  refine call_trees (q := 0) (La := []) (lc := [(v0, .lst (x.rules_.map TRule.E))]) (Lb := []) (markRuleS_ct x.rules_ (by first | exact hsm.1 | exact hsm | simpa using hsm) v0 (k) (by omega) (by omega)) rfl (by simp [lendAs, lendOk]) (fun _ => rfl) fun _ _ => ?_
  simp -implicitDefEqProofs (maxSteps := 4000000) only [go_sem]
  exact end_gen hK () 1 trivial (by simp -implicitDefEqProofs (maxSteps := 4000000) only [go_sem])
theorem Program_cns (x : TProgram) (l : Int) (h0 : 0 ≤ l) (h : 0 ≤ x.sz l) : x.sz l ≤ l ∧ (x.E.cnt : Int) ≤ 0 + 16 * (l - x.sz l) := by
  rw [ProgramCnt]
  unfold TProgram.sz at h ⊢
  obtain ⟨l1, e1, p1, s1⟩ := cn_step h
  rw [s1] at h ⊢
  simp only [szSeq] at h ⊢
  have f1 := cn_rows (f := TRule.sz) (E := TRule.E) (a := x.rules_) (fun y _ => Rule_cn y) l (by omega) (by rw [← e1]; omega)
  rw [← e1] at f1
  clear s1 e1
  omega
theorem Program_cn (x : TProgram) : Cn TProgram.sz TProgram.E x := fun l h0 h => by
  have := Program_cns x l h0 h
  exact ⟨this.1, by have := this.2; omega⟩
end Go.Proofs.Ytamicpfjieandaa
