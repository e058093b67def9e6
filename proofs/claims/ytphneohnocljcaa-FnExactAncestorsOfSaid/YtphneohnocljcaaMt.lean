/- Marks, printed by mark.py. -/
import Derived.Test.YtphneohnocljcaaMn
import Derived.Test.YtphneohnocljcaaAbZ
namespace Go.Proofs.Ytphneohnocljcaa
open Go Go.Ab
set_option linter.unusedVariables false
set_option linter.unusedSimpArgs false
set_option maxRecDepth 100000
set_option maxHeartbeats 4000000
theorem BindingMk (x : TBinding) (k : Int) : mkD x.E k = .agg [.v (.string (mk (k))), .v (.int .i64 (k + 1)), .v (.string (mk (k + 1 + 1))), .lst (mkDs (x.value_.a.map Ex.E) (k + 1 + 1 + 1))] := by
  show mkD (.agg [.v (.string x.name_), .v (.int .i64 x.value_.k), .v (.string x.value_.n), .lst (x.value_.a.map Ex.E)]) k = _
  simp [mkD, mkDs, mkV, D.cnt]
theorem BindingCnt (x : TBinding) : x.E.cnt = 3 + cnts (x.value_.a.map Ex.E) := by
  show D.cnt (.agg [.v (.string x.name_), .v (.int .i64 x.value_.k), .v (.string x.value_.n), .lst (x.value_.a.map Ex.E)]) = _
  simp only [D.cnt, cnts]; omega
theorem lendBinding {L : List (Value × D)} {x : TBinding} {v0 : Value} (h0 : (v0, .lst (x.value_.a.map Ex.E)) ∈ L) : lendOk L (.agg [.str x.name_, .int x.value_.k, .str x.value_.n, .raw v0]) (.d x.E) := by
  show lendOk L _ (.d (.agg [.v (.string x.name_), .v (.int .i64 x.value_.k), .v (.string x.value_.n), .lst (x.value_.a.map Ex.E)]))
  unfold lendOk
  refine .inr ⟨_, rfl, ?_⟩
  unfold lendDs
  refine ⟨_, _, rfl, by unfold lendOk; rfl, ?_⟩
  unfold lendDs
  refine ⟨_, _, rfl, by unfold lendOk; rfl, ?_⟩
  unfold lendDs
  refine ⟨_, _, rfl, by unfold lendOk; rfl, ?_⟩
  unfold lendDs
  refine ⟨_, _, rfl, by unfold lendOk; exact .inr ⟨_, h0, rfl⟩, ?_⟩
  unfold lendDs
  rfl
theorem lendBindingR {L : List (Value × D)} {x : TBinding} {v0 : Value} : lendOk L (.agg [.str x.name_, .int x.value_.k, .str x.value_.n, .raw v0]) (.agg [.str x.name_, .int x.value_.k, .str x.value_.n, .raw v0]) := by
  unfold lendOk
  refine .inl ⟨_, rfl, ?_⟩
  unfold lendAs
  refine ⟨_, _, rfl, by unfold lendOk; rfl, ?_⟩
  unfold lendAs
  refine ⟨_, _, rfl, by unfold lendOk; rfl, ?_⟩
  unfold lendAs
  refine ⟨_, _, rfl, by unfold lendOk; rfl, ?_⟩
  unfold lendAs
  refine ⟨_, _, rfl, by unfold lendOk; exact .inl rfl, ?_⟩
  unfold lendAs
  rfl
theorem toBinding_fr (x : TBinding) (hsm : x.sm) : Ct Try.prog 112 [.d x.E] [] (fun _ : Value => True) (fun v => .agg [.str x.name_, .int x.value_.k, .str x.value_.n, .raw v]) (fun v => [.forest [(v, .lst (x.value_.a.map Ex.E))]]) := by
  refine ct_go tyOk Try.func112 rfl (by decide +kernel) Try.ntmps112 rfl (fun _ _ => by first | exact Nat.le_refl _ | exact Nat.zero_le _ | simp) ?_
  intro K hK
  simp -implicitDefEqProofs (maxSteps := 4000000) only [go_sem]
  refine call_objs [] (toExpr_fr x.value_ (by first | exact hsm.2 | exact hsm | simpa using hsm)) (by simp -implicitDefEqProofs (maxSteps := 4000000) only [go_sem]; simp [O.lel, O.rens, pick]) fun w0 _ => ?_
  simp -implicitDefEqProofs (maxSteps := 4000000) only [go_sem]
  exact end_own hK (w0) [3] trivial (by simp -implicitDefEqProofs (maxSteps := 4000000) only [go_sem]) (by simp -implicitDefEqProofs (maxSteps := 4000000) only [go_sem]) (by rfl) (by decide)
theorem toBinding_dt (x : TBinding) (hsm : x.sm) : Ct Try.prog 112 [.d x.E] [] (fun _ : Unit => True) (fun _ => .d x.E) (fun _ => []) :=
  Ct.datF (φ' := fun _ : Unit => True) (r := fun _ => x.E) (fun _ => ()) (toBinding_fr x hsm) (fun _ _ => trivial) fun v _ => lendBinding (by simp)
theorem toBindingS_fr (a : List TBinding) (hsm : a.length ≤ 1048576 ∧ ∀ y ∈ a, y.sm) : Ct Try.prog 109 [.d (.lst (a.map TBinding.E))] [] (fun _ : Value => True) (fun v => .raw v) (fun v => [.forest [(v, .lst (a.map TBinding.E))]]) := by
  obtain ⟨ha, hel⟩ := hsm
  refine ct_go tyOk Try.func109 rfl (by decide +kernel) Try.ntmps109 rfl (fun _ _ => by first | exact Nat.le_refl _ | exact Nat.zero_le _ | simp) ?_
  intro K hK
  simp -implicitDefEqProofs (maxSteps := 4000000) only [go_sem]
  refine ⟨by omega, by omega, ?_⟩
  refine loop_at tyOk [4, 8, 9, 10, 11, 12, 13, 14, 15, 16, 17, 18, 19, 20, 21] (fun q : Nat × List A × List (Value × D) => [(2, .nil), (3, .arr 0), (4, .int q.1)]) (fun q : Nat × List A × List (Value × D) => [.row 141 4 (q.2.1 ++ List.replicate (a.length - q.1) (.agg [.str ⟨#[]⟩, .int 0, .str ⟨#[]⟩, .nil])), .forest q.2.2]) (fun q : Nat × List A × List (Value × D) => q.1 ≤ a.length ∧ q.2.1.length = q.1 ∧ Opd true ((a.take q.1).map TBinding.E) q.2.1 q.2.2) (fun q : Nat × List A × List (Value × D) => a.length - q.1) (0, [], []) ?_ ?_ ?_
  · exact ⟨Nat.zero_le _, rfl, .nil⟩
  · simp -implicitDefEqProofs (maxSteps := 4000000) only [go_sem, Nat.sub_zero]
    exact ⟨ole_row rfl fun x hx => by rw [List.eq_of_mem_replicate hx]; simp -implicitDefEqProofs (maxSteps := 4000000) only [go_sem], by simp [O.lel]⟩
  rintro ⟨i, L', Ls'⟩ ⟨hi, hlL, ho⟩ Lp hL
  simp only at hi hlL ho
  have hw : wr .i64 ((i : Int) + 1) = ((i + 1 : Nat) : Int) := by rw [wr_in (by omega)]; omega
  simp -implicitDefEqProofs (maxSteps := 4000000) only [go_sem, hw]
  refine ⟨fun hlt => ⟨by omega, fun x hx => ?_⟩, fun hlt => ?_⟩
  · refine call_new (q := 1) (toBinding_fr x (hel x (List.mem_of_getElem? hx))) rfl (by simp [lendAs, lendOk]) (fun _ => rfl) fun v _ => ?_
    simp -implicitDefEqProofs (maxSteps := 4000000) only [go_sem, hw, hlL]
    have H : Opd true ((a.take (i + 1)).map TBinding.E) (L' ++ [.agg [.str x.name_, .int x.value_.k, .str x.value_.n, .raw v]]) (Ls' ++ [(v, .lst (x.value_.a.map Ex.E))]) := by
      rw [take_more hx, List.map_append]
      have h3 : COp x.E.cells [.str x.name_, .int x.value_.k, .str x.value_.n, .raw v] [(v, .lst (x.value_.a.map Ex.E))] := (COp.v _ (COp.v _ (COp.v _ (COp.lst (v) _ .nil))))
      have h4 : Opd true [x.E] [.agg [.str x.name_, .int x.value_.k, .str x.value_.n, .raw v]] [(v, .lst (x.value_.a.map Ex.E))] := Opd.cons (ag := true) h3 .nil
      exact ho.app h4
    have hle : ∀ n m : Nat, O.le n m (.row 141 4 (L' ++ [.agg [.str x.name_, .int x.value_.k, .str x.value_.n, .raw v]] ++ List.replicate (a.length - (i + 1)) (.agg [.str ⟨#[]⟩, .int 0, .str ⟨#[]⟩, .nil]))) (.row 141 4 (L' ++ [.agg [.str x.name_, .int x.value_.k, .str x.value_.n, .raw v]] ++ List.replicate (a.length - (i + 1)) (.agg [.str ⟨#[]⟩, .int 0, .str ⟨#[]⟩, .nil]))) := fun n m => ole_row rfl fun y hy => by
      rcases List.mem_append.1 hy with hy | hy
      · exact H.les n m y hy
      · rw [List.eq_of_mem_replicate hy]; simp -implicitDefEqProofs (maxSteps := 4000000) only [go_sem]
    refine ⟨by omega, by omega, ?_⟩
    rw [fill_set hlL (by omega)]
    exact hL _ (i + 1, L' ++ [.agg [.str x.name_, .int x.value_.k, .str x.value_.n, .raw v]], Ls' ++ [(v, .lst (x.value_.a.map Ex.E))]) ⟨by omega, by simp [hlL], H⟩ (by simp only; omega) (by simp -implicitDefEqProofs (maxSteps := 4000000) only [go_sem, hle])
  · obtain rfl : i = a.length := by omega
    rw [List.take_length] at ho
    simp -implicitDefEqProofs (maxSteps := 4000000) only [go_sem, Nat.sub_self]
    exact end_close hK (k := 0) (by simp -implicitDefEqProofs (maxSteps := 4000000) only [go_sem]) rfl (.inl ⟨1, rfl⟩) ho (fun d _ h => by cases h) fun v => ⟨v, trivial, rfl, rfl⟩
theorem markBindingS_op (a : List TBinding) (v : Value) (hel : ∀ y ∈ a, y.sm) (hsm : a.length ≤ 1048576) (k : Int) (h0 : 0 ≤ k) (h1 : k + cnts (a.map TBinding.E) ≤ 1099511627776) (L : List A) (Ls : List (Value × D)) (ho : Opd true (a.map TBinding.E) L Ls) :
    Ct Try.prog 102 [.arr 0, .int k] [.opn v 141 4 L, .forest Ls] (fun q : Unit × List A × List (Value × D) => True ∧ Opd true (mkDs (a.map TBinding.E) k) q.2.1 q.2.2) (fun _ => .int (k + cnts (a.map TBinding.E))) (fun q => [.opn v 141 4 q.2.1, .forest q.2.2]) := by
  refine ct_go tyOk Try.func102 rfl (by decide +kernel) Try.ntmps102 rfl (fun _ _ => by first | exact Nat.le_refl _ | exact Nat.zero_le _ | simp) ?_
  intro K hK
  simp -implicitDefEqProofs (maxSteps := 4000000) only [go_sem]
  refine loop_at tyOk [1, 5, 6, 7, 8, 9, 10, 11, 12, 13, 14, 15, 16, 17, 18, 19, 20, 21, 22, 23, 24, 25, 26, 27, 28, 29, 30, 31, 32, 33, 34, 35, 36, 37, 38, 39, 40, 41, 42, 43, 44] (fun q : Nat × List A × List (Value × D) => [(0, .arr 0), (1, .int (k + cnts ((a.take q.1).map TBinding.E))), (5, .int q.1)]) (fun q : Nat × List A × List (Value × D) => [.opn v 141 4 q.2.1, .forest q.2.2]) (fun q : Nat × List A × List (Value × D) => q.1 ≤ a.length ∧ Opd true (mkDs ((a.take q.1).map TBinding.E) k ++ (a.map TBinding.E).drop q.1) q.2.1 q.2.2) (fun q : Nat × List A × List (Value × D) => a.length - q.1) (0, L, Ls) ?_ ?_ ?_
  · exact ⟨Nat.zero_le _, by simpa [mkDs] using ho⟩
  · simp -implicitDefEqProofs (maxSteps := 4000000) only [go_sem, ho.ole, cnts, Int.add_zero, List.take_zero]
  rintro ⟨i, L', Ls'⟩ ⟨hi, ho'⟩ Lp hL
  simp only at hi ho'
  have hlen' : L'.length = a.length := by rw [← ho'.len, List.length_append, mkDs_len, List.length_map, List.length_take, List.length_drop, List.length_map]; omega
  have hwi : wr .i64 ((i : Int) + 1) = ((i + 1 : Nat) : Int) := by rw [wr_in (by omega)]; omega
  simp -implicitDefEqProofs (maxSteps := 4000000) only [go_sem, hlen']
  refine ⟨fun hlt => ?_, fun hlt => ?_⟩
  · have hi2 : i < a.length := by omega
    obtain ⟨x, hx⟩ : ∃ x, a[i]? = some x := ⟨_, List.getElem?_eq_getElem hi2⟩
    have hxE : (a.map TBinding.E)[i]? = some x.E := by rw [List.getElem?_map, hx]; rfl
    have hc1 := cnts_at hxE
    have hc2 := cnts_take hxE
    rw [← List.map_take, BindingCnt] at hc1
    rw [← List.map_take, ← List.map_take, BindingCnt] at hc2
    have hxs := hel x (List.mem_of_getElem? hx)
    generalize hn : cnts ((a.take i).map TBinding.E) = n at *
    have hw0 : wr .i64 (k + (n : Int) + 1) = k + (n : Int) + 1 := wr_in (by omega)
    have hw1 : wr .i64 (k + (n : Int) + 1 + 1) = k + (n : Int) + 1 + 1 := wr_in (by omega)
    have hw2 : wr .i64 (k + (n : Int) + 1 + 1 + 1) = k + (n : Int) + 1 + 1 + 1 := wr_in (by omega)
    obtain ⟨La, Lb, Lsa, Lsb, cs, Lc, rfl, rfl, hLa, ha, g0, hb⟩ := ho'.at hxE (by rw [mkDs_len, List.length_map, List.length_take]; omega)
    have g0 : COp [.v (.string x.name_), .v (.int .i64 x.value_.k), .v (.string x.value_.n), .lst (x.value_.a.map Ex.E)] cs Lc := g0
    obtain ⟨cs1, rfl, g1⟩ := COp.inv_v g0
    obtain ⟨cs2, rfl, g2⟩ := COp.inv_v g1
    obtain ⟨cs3, rfl, g3⟩ := COp.inv_v g2
    obtain ⟨r0, cs4, Lc0, rfl, rfl, g4⟩ := COp.inv_lst g3
    obtain ⟨rfl, rfl⟩ := COp.inv_nil g4
    have hL2 := hlen'
    rw [List.length_append, List.length_cons] at hL2
    simp -implicitDefEqProofs (maxSteps := 4000000) only [go_sem, hlen', at_mid hLa, set_mid hLa, hwi, hw0, hw1, hw2]
    try repeat (refine ⟨by omega, ?_⟩)
    refine call_p (markText_ct _ (by omega)) rfl fun _ _ => ?_
    simp -implicitDefEqProofs (maxSteps := 4000000) only [go_sem, hlen', at_mid hLa, set_mid hLa, hwi, hw0, hw1, hw2]
    try repeat (refine ⟨by omega, ?_⟩)
    refine call_p (markText_ct _ (by omega)) rfl fun _ _ => ?_
    simp -implicitDefEqProofs (maxSteps := 4000000) only [go_sem, hlen', at_mid hLa, set_mid hLa, hwi, hw0, hw1, hw2]
    try repeat (refine ⟨by omega, ?_⟩)
    refine call_trees (q := 1) (La := Lsa ++ []) (lc := [(r0, .lst (x.value_.a.map Ex.E))]) (Lb := [] ++ Lsb) (markExprS_ct x.value_.a ((x.value_.sm_def.1 (by first | exact hxs.2 | exact hxs)).2) r0 (k + (n : Int) + 1 + 1 + 1) (by omega) (by omega)) (by simp) (by simp [lendAs, lendOk]) (fun _ => rfl) fun _ _ => ?_
    simp -implicitDefEqProofs (maxSteps := 4000000) only [go_sem, hlen', at_mid hLa, set_mid hLa, hwi, hw0, hw1, hw2, List.append_assoc, List.cons_append, List.nil_append, List.append_nil]
    try repeat (refine ⟨by omega, ?_⟩)
    have H : Opd true (mkDs ((a.take (i + 1)).map TBinding.E) k ++ (a.map TBinding.E).drop (i + 1)) (La ++ .agg [.str (mk (k + (n : Int))), .int (k + (n : Int) + 1), .str (mk (k + (n : Int) + 1 + 1)), .raw r0] :: Lb) (Lsa ++ ([(r0, .lst (mkDs (x.value_.a.map Ex.E) (k + (n : Int) + 1 + 1 + 1)))] ++ Lsb)) := by
      rw [take_more hx, List.map_append, mkDs_app, hn, List.append_assoc]
      show Opd true (_ ++ (mkD x.E (k + n) :: _)) _ _
      rw [BindingMk]
      exact ha.app (Opd.cons (ag := true) (d := .agg _) (cs := [.str (mk (k + (n : Int))), .int (k + (n : Int) + 1), .str (mk (k + (n : Int) + 1 + 1)), .raw r0]) (COp.v _ (COp.v _ (COp.v _ (COp.lst r0 _ .nil)))) hb)
    have hk' : k + ((cnts ((a.take (i + 1)).map TBinding.E) : Nat) : Int) = k + (n : Int) + 1 + 1 + 1 + (cnts (x.value_.a.map Ex.E) : Nat) := by rw [hc2]; omega
    exact hL _ (i + 1, La ++ .agg [.str (mk (k + (n : Int))), .int (k + (n : Int) + 1), .str (mk (k + (n : Int) + 1 + 1)), .raw r0] :: Lb, Lsa ++ ([(r0, .lst (mkDs (x.value_.a.map Ex.E) (k + (n : Int) + 1 + 1 + 1)))] ++ Lsb)) ⟨by omega, H⟩ (by simp only; omega) (by simp -implicitDefEqProofs (maxSteps := 4000000) only [go_sem, H.ole, hk', List.cons_append, List.nil_append])
  · obtain rfl : i = a.length := by omega
    have H : Opd true (mkDs (a.map TBinding.E) k) L' Ls' := by rw [List.drop_of_length_le (by simp), List.append_nil, List.take_length] at ho'; exact ho'
    exact end_gen hK ((), L', Ls') 2 ⟨trivial, H⟩ (by simp -implicitDefEqProofs (maxSteps := 4000000) only [go_sem, H.ole, List.take_length])
theorem markBindingS_nil (k : Int) : Ct Try.prog 102 [.d (.lst []), .int k] [] (fun _ : Unit => True) (fun _ => .int k) (fun _ => []) := by
  refine ct_go tyOk Try.func102 rfl (by decide +kernel) Try.ntmps102 rfl (fun _ _ => by first | exact Nat.le_refl _ | exact Nat.zero_le _ | simp) ?_
  intro K hK
  simp -implicitDefEqProofs (maxSteps := 4000000) only [go_sem]
  refine loop_st tyOk [1, 5, 6, 7, 8, 9, 10, 11, 12, 13, 14, 15, 16, 17, 18, 19, 20, 21, 22, 23, 24, 25, 26, 27, 28, 29, 30, 31, 32, 33, 34, 35, 36, 37, 38, 39, 40, 41, 42, 43, 44] (fun q : Unit => [(1, .int k), (5, .int 0)]) (fun q : Unit => True) (fun q : Unit => 0) () ?_ ?_ ?_
  · trivial
  · simp -implicitDefEqProofs (maxSteps := 4000000) only [go_sem]
  rintro _ _ Lp hL
  simp -implicitDefEqProofs (maxSteps := 4000000) only [go_sem]
  exact ⟨fun h => absurd h (by omega), fun h => end_pure hK () trivial (by simp -implicitDefEqProofs (maxSteps := 4000000) only [go_sem])⟩
theorem markBindingS_ct (a : List TBinding) (hsm : a.length ≤ 1048576 ∧ ∀ y ∈ a, y.sm) (v : Value) (k : Int) (h0 : 0 ≤ k) (h1 : k + cnts (a.map TBinding.E) ≤ 1099511627776) :
    Ct Try.prog 102 [.raw v, .int k] [.forest [(v, .lst (a.map TBinding.E))]] (fun _ : Unit => True) (fun _ => .int (k + cnts (a.map TBinding.E))) (fun _ => [.forest [(v, .lst (mkDs (a.map TBinding.E) k))]]) := by
  by_cases hne : a = []
  · subst hne
    have := Ct.lend (l := [(v, .lst [])]) (args := [.raw v, .int k]) (markBindingS_nil k) (by simp [lendAs, lendOk]) (fun _ => rfl)
    simpa [mkDs, cnts] using this
  · have hc : ∀ d ∈ a.map TBinding.E, d.cells.length = 4 := TBinding.flat a
    exact Ct.open (u := 141) (sz := 4) (ag := true) (l' := fun _ => mkDs (a.map TBinding.E) k) (by simpa using hne) (fun d hd h => by cases h) hc (fun _ _ d hd h => by cases h) (markBindingS_nil k).1 rfl (fun _ => rfl)
      fun L Ls ho => markBindingS_op a v hsm.2 hsm.1 k h0 h1 L Ls ho
theorem NodeMk (x : TNode) (k : Int) : mkD x.E k = .agg [.v (.int .i64 (k)), .v (.int .i64 (k + 1)), .v (.string (mk (k + 1 + 1))), .lst (mkDs (x.expr_.a.map Ex.E) (k + 1 + 1 + 1)), .v (.int .i64 (k + 1 + 1 + 1 + (cnts (x.expr_.a.map Ex.E) : Nat))), .lst (mkDs (x.children_.map D.int) (k + 1 + 1 + 1 + (cnts (x.expr_.a.map Ex.E) : Nat) + 1)), .v (.string (mk (k + 1 + 1 + 1 + (cnts (x.expr_.a.map Ex.E) : Nat) + 1 + (cnts (x.children_.map D.int) : Nat)))), .v (.string (mk (k + 1 + 1 + 1 + (cnts (x.expr_.a.map Ex.E) : Nat) + 1 + (cnts (x.children_.map D.int) : Nat) + 1))), .lst (mkDs (x.vars_.map D.str) (k + 1 + 1 + 1 + (cnts (x.expr_.a.map Ex.E) : Nat) + 1 + (cnts (x.children_.map D.int) : Nat) + 1 + 1)), .lst (mkDs (x.lets_.map TBinding.E) (k + 1 + 1 + 1 + (cnts (x.expr_.a.map Ex.E) : Nat) + 1 + (cnts (x.children_.map D.int) : Nat) + 1 + 1 + (cnts (x.vars_.map D.str) : Nat))), .v (.int .i64 (k + 1 + 1 + 1 + (cnts (x.expr_.a.map Ex.E) : Nat) + 1 + (cnts (x.children_.map D.int) : Nat) + 1 + 1 + (cnts (x.vars_.map D.str) : Nat) + (cnts (x.lets_.map TBinding.E) : Nat)))] := by
  show mkD (.agg [.v (.int .i64 x.kind_), .v (.int .i64 x.expr_.k), .v (.string x.expr_.n), .lst (x.expr_.a.map Ex.E), .v (.int .i64 x.parent_), .lst (x.children_.map D.int), .v (.string x.var_), .v (.string x.con_), .lst (x.vars_.map D.str), .lst (x.lets_.map TBinding.E), .v (.int .i64 x.back_)]) k = _
  simp [mkD, mkDs, mkV, D.cnt]
theorem NodeCnt (x : TNode) : x.E.cnt = 7 + cnts (x.expr_.a.map Ex.E) + cnts (x.children_.map D.int) + cnts (x.vars_.map D.str) + cnts (x.lets_.map TBinding.E) := by
  show D.cnt (.agg [.v (.int .i64 x.kind_), .v (.int .i64 x.expr_.k), .v (.string x.expr_.n), .lst (x.expr_.a.map Ex.E), .v (.int .i64 x.parent_), .lst (x.children_.map D.int), .v (.string x.var_), .v (.string x.con_), .lst (x.vars_.map D.str), .lst (x.lets_.map TBinding.E), .v (.int .i64 x.back_)]) = _
  simp only [D.cnt, cnts]; omega
theorem lendNode {L : List (Value × D)} {x : TNode} {v0 v1 v2 v3 : Value} (h0 : (v0, .lst (x.expr_.a.map Ex.E)) ∈ L) (h1 : (v1, .lst (x.children_.map D.int)) ∈ L) (h2 : (v2, .lst (x.vars_.map D.str)) ∈ L) (h3 : (v3, .lst (x.lets_.map TBinding.E)) ∈ L) : lendOk L (.agg [.int x.kind_, .int x.expr_.k, .str x.expr_.n, .raw v0, .int x.parent_, .raw v1, .str x.var_, .str x.con_, .raw v2, .raw v3, .int x.back_]) (.d x.E) := by
  show lendOk L _ (.d (.agg [.v (.int .i64 x.kind_), .v (.int .i64 x.expr_.k), .v (.string x.expr_.n), .lst (x.expr_.a.map Ex.E), .v (.int .i64 x.parent_), .lst (x.children_.map D.int), .v (.string x.var_), .v (.string x.con_), .lst (x.vars_.map D.str), .lst (x.lets_.map TBinding.E), .v (.int .i64 x.back_)]))
  unfold lendOk
  refine .inr ⟨_, rfl, ?_⟩
  unfold lendDs
  refine ⟨_, _, rfl, by unfold lendOk; rfl, ?_⟩
  unfold lendDs
  refine ⟨_, _, rfl, by unfold lendOk; rfl, ?_⟩
  unfold lendDs
  refine ⟨_, _, rfl, by unfold lendOk; rfl, ?_⟩
  unfold lendDs
  refine ⟨_, _, rfl, by unfold lendOk; exact .inr ⟨_, h0, rfl⟩, ?_⟩
  unfold lendDs
  refine ⟨_, _, rfl, by unfold lendOk; rfl, ?_⟩
  unfold lendDs
  refine ⟨_, _, rfl, by unfold lendOk; exact .inr ⟨_, h1, rfl⟩, ?_⟩
  unfold lendDs
  refine ⟨_, _, rfl, by unfold lendOk; rfl, ?_⟩
  unfold lendDs
  refine ⟨_, _, rfl, by unfold lendOk; rfl, ?_⟩
  unfold lendDs
  refine ⟨_, _, rfl, by unfold lendOk; exact .inr ⟨_, h2, rfl⟩, ?_⟩
  unfold lendDs
  refine ⟨_, _, rfl, by unfold lendOk; exact .inr ⟨_, h3, rfl⟩, ?_⟩
  unfold lendDs
  refine ⟨_, _, rfl, by unfold lendOk; rfl, ?_⟩
  unfold lendDs
  rfl
theorem lendNodeR {L : List (Value × D)} {x : TNode} {v0 v1 v2 v3 : Value} : lendOk L (.agg [.int x.kind_, .int x.expr_.k, .str x.expr_.n, .raw v0, .int x.parent_, .raw v1, .str x.var_, .str x.con_, .raw v2, .raw v3, .int x.back_]) (.agg [.int x.kind_, .int x.expr_.k, .str x.expr_.n, .raw v0, .int x.parent_, .raw v1, .str x.var_, .str x.con_, .raw v2, .raw v3, .int x.back_]) := by
  unfold lendOk
  refine .inl ⟨_, rfl, ?_⟩
  unfold lendAs
  refine ⟨_, _, rfl, by unfold lendOk; rfl, ?_⟩
  unfold lendAs
  refine ⟨_, _, rfl, by unfold lendOk; rfl, ?_⟩
  unfold lendAs
  refine ⟨_, _, rfl, by unfold lendOk; rfl, ?_⟩
  unfold lendAs
  refine ⟨_, _, rfl, by unfold lendOk; exact .inl rfl, ?_⟩
  unfold lendAs
  refine ⟨_, _, rfl, by unfold lendOk; rfl, ?_⟩
  unfold lendAs
  refine ⟨_, _, rfl, by unfold lendOk; exact .inl rfl, ?_⟩
  unfold lendAs
  refine ⟨_, _, rfl, by unfold lendOk; rfl, ?_⟩
  unfold lendAs
  refine ⟨_, _, rfl, by unfold lendOk; rfl, ?_⟩
  unfold lendAs
  refine ⟨_, _, rfl, by unfold lendOk; exact .inl rfl, ?_⟩
  unfold lendAs
  refine ⟨_, _, rfl, by unfold lendOk; exact .inl rfl, ?_⟩
  unfold lendAs
  refine ⟨_, _, rfl, by unfold lendOk; rfl, ?_⟩
  unfold lendAs
  rfl
theorem toNode_fr (x : TNode) (hsm : x.sm) : Ct Try.prog 99 [.d x.E] [] (fun _ : Value × Value × Value × Value => True) (fun v => .agg [.int x.kind_, .int x.expr_.k, .str x.expr_.n, .raw v.1, .int x.parent_, .raw v.2.1, .str x.var_, .str x.con_, .raw v.2.2.1, .raw v.2.2.2, .int x.back_]) (fun v => [.forest [(v.1, .lst (x.expr_.a.map Ex.E)), (v.2.1, .lst (x.children_.map D.int)), (v.2.2.1, .lst (x.vars_.map D.str)), (v.2.2.2, .lst (x.lets_.map TBinding.E))]]) := by
  refine ct_go tyOk Try.func99 rfl (by decide +kernel) Try.ntmps99 rfl (fun _ _ => by first | exact Nat.le_refl _ | exact Nat.zero_le _ | simp) ?_
  intro K hK
  simp -implicitDefEqProofs (maxSteps := 4000000) only [go_sem]
  refine call_objs [] (toExpr_fr x.expr_ (by first | exact hsm.1 | exact hsm | simpa using hsm)) (by simp -implicitDefEqProofs (maxSteps := 4000000) only [go_sem]; simp [O.lel, O.rens, pick]) fun w0 _ => ?_
  simp -implicitDefEqProofs (maxSteps := 4000000) only [go_sem]
  refine call_new (q := 3) (toIntS_fr x.children_ (by first | exact hsm.2.1 | exact hsm | simpa using hsm)) rfl (by simp [lendAs, lendOk]) (fun _ => rfl) fun w1 _ => ?_
  simp -implicitDefEqProofs (maxSteps := 4000000) only [go_sem]
  refine call_new (q := 3) (toStringS_fr x.vars_ (by first | exact hsm.2.2.2.2.1 | exact hsm | simpa using hsm)) rfl (by simp [lendAs, lendOk]) (fun _ => rfl) fun w2 _ => ?_
  simp -implicitDefEqProofs (maxSteps := 4000000) only [go_sem]
  refine call_new (q := 3) (toBindingS_fr x.lets_ (by first | exact hsm.2.2.2.2.2 | exact hsm | simpa using hsm)) rfl (by simp [lendAs, lendOk]) (fun _ => rfl) fun w3 _ => ?_
  simp -implicitDefEqProofs (maxSteps := 4000000) only [go_sem]
  exact end_own hK (w0, w1, w2, w3) [3] trivial (by simp -implicitDefEqProofs (maxSteps := 4000000) only [go_sem]) (by simp -implicitDefEqProofs (maxSteps := 4000000) only [go_sem]) (by rfl) (by decide)
theorem toNode_dt (x : TNode) (hsm : x.sm) : Ct Try.prog 99 [.d x.E] [] (fun _ : Unit => True) (fun _ => .d x.E) (fun _ => []) :=
  Ct.datF (φ' := fun _ : Unit => True) (r := fun _ => x.E) (fun _ => ()) (toNode_fr x hsm) (fun _ _ => trivial) fun v _ => lendNode (by simp) (by simp) (by simp) (by simp)
theorem toNodeS_fr (a : List TNode) (hsm : a.length ≤ 1048576 ∧ ∀ y ∈ a, y.sm) : Ct Try.prog 82 [.d (.lst (a.map TNode.E))] [] (fun _ : Value => True) (fun v => .raw v) (fun v => [.forest [(v, .lst (a.map TNode.E))]]) := by
  obtain ⟨ha, hel⟩ := hsm
  refine ct_go tyOk Try.func82 rfl (by decide +kernel) Try.ntmps82 rfl (fun _ _ => by first | exact Nat.le_refl _ | exact Nat.zero_le _ | simp) ?_
  intro K hK
  simp -implicitDefEqProofs (maxSteps := 4000000) only [go_sem]
  refine ⟨by omega, by omega, ?_⟩
  refine loop_at tyOk [4, 8, 9, 10, 11, 12, 13, 14, 15, 16, 17, 18, 19, 20, 21] (fun q : Nat × List A × List (Value × D) => [(2, .nil), (3, .arr 0), (4, .int q.1)]) (fun q : Nat × List A × List (Value × D) => [.row 114 11 (q.2.1 ++ List.replicate (a.length - q.1) (.agg [.int 0, .int 0, .str ⟨#[]⟩, .nil, .int 0, .nil, .str ⟨#[]⟩, .str ⟨#[]⟩, .nil, .nil, .int 0])), .forest q.2.2]) (fun q : Nat × List A × List (Value × D) => q.1 ≤ a.length ∧ q.2.1.length = q.1 ∧ Opd true ((a.take q.1).map TNode.E) q.2.1 q.2.2) (fun q : Nat × List A × List (Value × D) => a.length - q.1) (0, [], []) ?_ ?_ ?_
  · exact ⟨Nat.zero_le _, rfl, .nil⟩
  · simp -implicitDefEqProofs (maxSteps := 4000000) only [go_sem, Nat.sub_zero]
    exact ⟨ole_row rfl fun x hx => by rw [List.eq_of_mem_replicate hx]; simp -implicitDefEqProofs (maxSteps := 4000000) only [go_sem], by simp [O.lel]⟩
  rintro ⟨i, L', Ls'⟩ ⟨hi, hlL, ho⟩ Lp hL
  simp only at hi hlL ho
  have hw : wr .i64 ((i : Int) + 1) = ((i + 1 : Nat) : Int) := by rw [wr_in (by omega)]; omega
  simp -implicitDefEqProofs (maxSteps := 4000000) only [go_sem, hw]
  refine ⟨fun hlt => ⟨by omega, fun x hx => ?_⟩, fun hlt => ?_⟩
  · refine call_new (q := 1) (toNode_fr x (hel x (List.mem_of_getElem? hx))) rfl (by simp [lendAs, lendOk]) (fun _ => rfl) fun v _ => ?_
    simp -implicitDefEqProofs (maxSteps := 4000000) only [go_sem, hw, hlL]
    have H : Opd true ((a.take (i + 1)).map TNode.E) (L' ++ [.agg [.int x.kind_, .int x.expr_.k, .str x.expr_.n, .raw v.1, .int x.parent_, .raw v.2.1, .str x.var_, .str x.con_, .raw v.2.2.1, .raw v.2.2.2, .int x.back_]]) (Ls' ++ [(v.1, .lst (x.expr_.a.map Ex.E)), (v.2.1, .lst (x.children_.map D.int)), (v.2.2.1, .lst (x.vars_.map D.str)), (v.2.2.2, .lst (x.lets_.map TBinding.E))]) := by
      rw [take_more hx, List.map_append]
      have h3 : COp x.E.cells [.int x.kind_, .int x.expr_.k, .str x.expr_.n, .raw v.1, .int x.parent_, .raw v.2.1, .str x.var_, .str x.con_, .raw v.2.2.1, .raw v.2.2.2, .int x.back_] [(v.1, .lst (x.expr_.a.map Ex.E)), (v.2.1, .lst (x.children_.map D.int)), (v.2.2.1, .lst (x.vars_.map D.str)), (v.2.2.2, .lst (x.lets_.map TBinding.E))] := (COp.v _ (COp.v _ (COp.v _ (COp.lst (v.1) _ (COp.v _ (COp.lst (v.2.1) _ (COp.v _ (COp.v _ (COp.lst (v.2.2.1) _ (COp.lst (v.2.2.2) _ (COp.v _ .nil)))))))))))
      have h4 : Opd true [x.E] [.agg [.int x.kind_, .int x.expr_.k, .str x.expr_.n, .raw v.1, .int x.parent_, .raw v.2.1, .str x.var_, .str x.con_, .raw v.2.2.1, .raw v.2.2.2, .int x.back_]] [(v.1, .lst (x.expr_.a.map Ex.E)), (v.2.1, .lst (x.children_.map D.int)), (v.2.2.1, .lst (x.vars_.map D.str)), (v.2.2.2, .lst (x.lets_.map TBinding.E))] := Opd.cons (ag := true) h3 .nil
      exact ho.app h4
    have hle : ∀ n m : Nat, O.le n m (.row 114 11 (L' ++ [.agg [.int x.kind_, .int x.expr_.k, .str x.expr_.n, .raw v.1, .int x.parent_, .raw v.2.1, .str x.var_, .str x.con_, .raw v.2.2.1, .raw v.2.2.2, .int x.back_]] ++ List.replicate (a.length - (i + 1)) (.agg [.int 0, .int 0, .str ⟨#[]⟩, .nil, .int 0, .nil, .str ⟨#[]⟩, .str ⟨#[]⟩, .nil, .nil, .int 0]))) (.row 114 11 (L' ++ [.agg [.int x.kind_, .int x.expr_.k, .str x.expr_.n, .raw v.1, .int x.parent_, .raw v.2.1, .str x.var_, .str x.con_, .raw v.2.2.1, .raw v.2.2.2, .int x.back_]] ++ List.replicate (a.length - (i + 1)) (.agg [.int 0, .int 0, .str ⟨#[]⟩, .nil, .int 0, .nil, .str ⟨#[]⟩, .str ⟨#[]⟩, .nil, .nil, .int 0]))) := fun n m => ole_row rfl fun y hy => by
      rcases List.mem_append.1 hy with hy | hy
      · exact H.les n m y hy
      · rw [List.eq_of_mem_replicate hy]; simp -implicitDefEqProofs (maxSteps := 4000000) only [go_sem]
    refine ⟨by omega, by omega, ?_⟩
    rw [fill_set hlL (by omega)]
    exact hL _ (i + 1, L' ++ [.agg [.int x.kind_, .int x.expr_.k, .str x.expr_.n, .raw v.1, .int x.parent_, .raw v.2.1, .str x.var_, .str x.con_, .raw v.2.2.1, .raw v.2.2.2, .int x.back_]], Ls' ++ [(v.1, .lst (x.expr_.a.map Ex.E)), (v.2.1, .lst (x.children_.map D.int)), (v.2.2.1, .lst (x.vars_.map D.str)), (v.2.2.2, .lst (x.lets_.map TBinding.E))]) ⟨by omega, by simp [hlL], H⟩ (by simp only; omega) (by simp -implicitDefEqProofs (maxSteps := 4000000) only [go_sem, hle])
  · obtain rfl : i = a.length := by omega
    rw [List.take_length] at ho
    simp -implicitDefEqProofs (maxSteps := 4000000) only [go_sem, Nat.sub_self]
    exact end_close hK (k := 0) (by simp -implicitDefEqProofs (maxSteps := 4000000) only [go_sem]) rfl (.inl ⟨1, rfl⟩) ho (fun d _ h => by cases h) fun v => ⟨v, trivial, rfl, rfl⟩
theorem markNodeS_op (a : List TNode) (v : Value) (hel : ∀ y ∈ a, y.sm) (hsm : a.length ≤ 1048576) (k : Int) (h0 : 0 ≤ k) (h1 : k + cnts (a.map TNode.E) ≤ 1099511627776) (L : List A) (Ls : List (Value × D)) (ho : Opd true (a.map TNode.E) L Ls) :
    Ct Try.prog 85 [.arr 0, .int k] [.opn v 114 11 L, .forest Ls] (fun q : Unit × List A × List (Value × D) => True ∧ Opd true (mkDs (a.map TNode.E) k) q.2.1 q.2.2) (fun _ => .int (k + cnts (a.map TNode.E))) (fun q => [.opn v 114 11 q.2.1, .forest q.2.2]) := by
  refine ct_go tyOk Try.func85 rfl (by decide +kernel) Try.ntmps85 rfl (fun _ _ => by first | exact Nat.le_refl _ | exact Nat.zero_le _ | simp) ?_
  intro K hK
  simp -implicitDefEqProofs (maxSteps := 4000000) only [go_sem]
  refine loop_at tyOk [1, 5, 6, 7, 8, 9, 10, 11, 12, 13, 14, 15, 16, 17, 18, 19, 20, 21, 22, 23, 24, 25, 26, 27, 28, 29, 30, 31, 32, 33, 34, 35, 36, 37, 38, 39, 40, 41, 42, 43, 44, 45, 46, 47, 48, 49, 50, 51, 52, 53, 54, 55, 56, 57, 58, 59, 60, 61, 62, 63, 64, 65, 66, 67, 68, 69, 70, 71, 72, 73, 74, 75, 76, 77, 78, 79, 80, 81, 82, 83, 84, 85, 86, 87, 88, 89, 90, 91, 92, 93, 94] (fun q : Nat × List A × List (Value × D) => [(0, .arr 0), (1, .int (k + cnts ((a.take q.1).map TNode.E))), (5, .int q.1)]) (fun q : Nat × List A × List (Value × D) => [.opn v 114 11 q.2.1, .forest q.2.2]) (fun q : Nat × List A × List (Value × D) => q.1 ≤ a.length ∧ Opd true (mkDs ((a.take q.1).map TNode.E) k ++ (a.map TNode.E).drop q.1) q.2.1 q.2.2) (fun q : Nat × List A × List (Value × D) => a.length - q.1) (0, L, Ls) ?_ ?_ ?_
  · exact ⟨Nat.zero_le _, by simpa [mkDs] using ho⟩
  · simp -implicitDefEqProofs (maxSteps := 4000000) only [go_sem, ho.ole, cnts, Int.add_zero, List.take_zero]
  rintro ⟨i, L', Ls'⟩ ⟨hi, ho'⟩ Lp hL
  simp only at hi ho'
  have hlen' : L'.length = a.length := by rw [← ho'.len, List.length_append, mkDs_len, List.length_map, List.length_take, List.length_drop, List.length_map]; omega
  have hwi : wr .i64 ((i : Int) + 1) = ((i + 1 : Nat) : Int) := by rw [wr_in (by omega)]; omega
  simp -implicitDefEqProofs (maxSteps := 4000000) only [go_sem, hlen']
  refine ⟨fun hlt => ?_, fun hlt => ?_⟩
  · have hi2 : i < a.length := by omega
    obtain ⟨x, hx⟩ : ∃ x, a[i]? = some x := ⟨_, List.getElem?_eq_getElem hi2⟩
    have hxE : (a.map TNode.E)[i]? = some x.E := by rw [List.getElem?_map, hx]; rfl
    have hc1 := cnts_at hxE
    have hc2 := cnts_take hxE
    rw [← List.map_take, NodeCnt] at hc1
    rw [← List.map_take, ← List.map_take, NodeCnt] at hc2
    have hxs := hel x (List.mem_of_getElem? hx)
    generalize hn : cnts ((a.take i).map TNode.E) = n at *
    have hw0 : wr .i64 (k + (n : Int) + 1) = k + (n : Int) + 1 := wr_in (by omega)
    have hw1 : wr .i64 (k + (n : Int) + 1 + 1) = k + (n : Int) + 1 + 1 := wr_in (by omega)
    have hw2 : wr .i64 (k + (n : Int) + 1 + 1 + 1) = k + (n : Int) + 1 + 1 + 1 := wr_in (by omega)
    have hw4 : wr .i64 (k + (n : Int) + 1 + 1 + 1 + (cnts (x.expr_.a.map Ex.E) : Nat) + 1) = k + (n : Int) + 1 + 1 + 1 + (cnts (x.expr_.a.map Ex.E) : Nat) + 1 := wr_in (by omega)
    have hw6 : wr .i64 (k + (n : Int) + 1 + 1 + 1 + (cnts (x.expr_.a.map Ex.E) : Nat) + 1 + (cnts (x.children_.map D.int) : Nat) + 1) = k + (n : Int) + 1 + 1 + 1 + (cnts (x.expr_.a.map Ex.E) : Nat) + 1 + (cnts (x.children_.map D.int) : Nat) + 1 := wr_in (by omega)
    have hw7 : wr .i64 (k + (n : Int) + 1 + 1 + 1 + (cnts (x.expr_.a.map Ex.E) : Nat) + 1 + (cnts (x.children_.map D.int) : Nat) + 1 + 1) = k + (n : Int) + 1 + 1 + 1 + (cnts (x.expr_.a.map Ex.E) : Nat) + 1 + (cnts (x.children_.map D.int) : Nat) + 1 + 1 := wr_in (by omega)
    have hw10 : wr .i64 (k + (n : Int) + 1 + 1 + 1 + (cnts (x.expr_.a.map Ex.E) : Nat) + 1 + (cnts (x.children_.map D.int) : Nat) + 1 + 1 + (cnts (x.vars_.map D.str) : Nat) + (cnts (x.lets_.map TBinding.E) : Nat) + 1) = k + (n : Int) + 1 + 1 + 1 + (cnts (x.expr_.a.map Ex.E) : Nat) + 1 + (cnts (x.children_.map D.int) : Nat) + 1 + 1 + (cnts (x.vars_.map D.str) : Nat) + (cnts (x.lets_.map TBinding.E) : Nat) + 1 := wr_in (by omega)
    obtain ⟨La, Lb, Lsa, Lsb, cs, Lc, rfl, rfl, hLa, ha, g0, hb⟩ := ho'.at hxE (by rw [mkDs_len, List.length_map, List.length_take]; omega)
    have g0 : COp [.v (.int .i64 x.kind_), .v (.int .i64 x.expr_.k), .v (.string x.expr_.n), .lst (x.expr_.a.map Ex.E), .v (.int .i64 x.parent_), .lst (x.children_.map D.int), .v (.string x.var_), .v (.string x.con_), .lst (x.vars_.map D.str), .lst (x.lets_.map TBinding.E), .v (.int .i64 x.back_)] cs Lc := g0
    obtain ⟨cs1, rfl, g1⟩ := COp.inv_v g0
    obtain ⟨cs2, rfl, g2⟩ := COp.inv_v g1
    obtain ⟨cs3, rfl, g3⟩ := COp.inv_v g2
    obtain ⟨r0, cs4, Lc0, rfl, rfl, g4⟩ := COp.inv_lst g3
    obtain ⟨cs5, rfl, g5⟩ := COp.inv_v g4
    obtain ⟨r1, cs6, Lc1, rfl, rfl, g6⟩ := COp.inv_lst g5
    obtain ⟨cs7, rfl, g7⟩ := COp.inv_v g6
    obtain ⟨cs8, rfl, g8⟩ := COp.inv_v g7
    obtain ⟨r2, cs9, Lc2, rfl, rfl, g9⟩ := COp.inv_lst g8
    obtain ⟨r3, cs10, Lc3, rfl, rfl, g10⟩ := COp.inv_lst g9
    obtain ⟨cs11, rfl, g11⟩ := COp.inv_v g10
    obtain ⟨rfl, rfl⟩ := COp.inv_nil g11
    have hL2 := hlen'
    rw [List.length_append, List.length_cons] at hL2
    simp -implicitDefEqProofs (maxSteps := 4000000) only [go_sem, hlen', at_mid hLa, set_mid hLa, hwi, hw0, hw1, hw2, hw4, hw6, hw7, hw10]
    try repeat (refine ⟨by omega, ?_⟩)
    refine call_p (markText_ct _ (by omega)) rfl fun _ _ => ?_
    simp -implicitDefEqProofs (maxSteps := 4000000) only [go_sem, hlen', at_mid hLa, set_mid hLa, hwi, hw0, hw1, hw2, hw4, hw6, hw7, hw10]
    try repeat (refine ⟨by omega, ?_⟩)
    refine call_trees (q := 1) (La := Lsa ++ []) (lc := [(r0, .lst (x.expr_.a.map Ex.E))]) (Lb := [(r1, .lst (x.children_.map D.int)), (r2, .lst (x.vars_.map D.str)), (r3, .lst (x.lets_.map TBinding.E))] ++ Lsb) (markExprS_ct x.expr_.a ((x.expr_.sm_def.1 (by first | exact hxs.1 | exact hxs)).2) r0 (k + (n : Int) + 1 + 1 + 1) (by omega) (by omega)) (by simp) (by simp [lendAs, lendOk]) (fun _ => rfl) fun _ _ => ?_
    simp -implicitDefEqProofs (maxSteps := 4000000) only [go_sem, hlen', at_mid hLa, set_mid hLa, hwi, hw0, hw1, hw2, hw4, hw6, hw7, hw10, List.append_assoc, List.cons_append, List.nil_append, List.append_nil]
    try repeat (refine ⟨by omega, ?_⟩)
    refine call_trees (q := 1) (La := Lsa ++ [(r0, .lst (mkDs (x.expr_.a.map Ex.E) (k + (n : Int) + 1 + 1 + 1)))]) (lc := [(r1, .lst (x.children_.map D.int))]) (Lb := [(r2, .lst (x.vars_.map D.str)), (r3, .lst (x.lets_.map TBinding.E))] ++ Lsb) (markIntS_cn x.children_ (by first | exact hxs.2.1 | exact hxs | simpa using hxs) r1 (k + (n : Int) + 1 + 1 + 1 + (cnts (x.expr_.a.map Ex.E) : Nat) + 1) (by omega) (by omega)) (by simp) (by simp [lendAs, lendOk]) (fun _ => rfl) fun _ _ => ?_
    simp -implicitDefEqProofs (maxSteps := 4000000) only [go_sem, hlen', at_mid hLa, set_mid hLa, hwi, hw0, hw1, hw2, hw4, hw6, hw7, hw10, List.append_assoc, List.cons_append, List.nil_append, List.append_nil]
    try repeat (refine ⟨by omega, ?_⟩)
    refine call_p (markText_ct _ (by omega)) rfl fun _ _ => ?_
    simp -implicitDefEqProofs (maxSteps := 4000000) only [go_sem, hlen', at_mid hLa, set_mid hLa, hwi, hw0, hw1, hw2, hw4, hw6, hw7, hw10]
    try repeat (refine ⟨by omega, ?_⟩)
    refine call_p (markText_ct _ (by omega)) rfl fun _ _ => ?_
    simp -implicitDefEqProofs (maxSteps := 4000000) only [go_sem, hlen', at_mid hLa, set_mid hLa, hwi, hw0, hw1, hw2, hw4, hw6, hw7, hw10]
    try repeat (refine ⟨by omega, ?_⟩)
    refine call_trees (q := 1) (La := Lsa ++ [(r0, .lst (mkDs (x.expr_.a.map Ex.E) (k + (n : Int) + 1 + 1 + 1))), (r1, .lst (mkDs (x.children_.map D.int) (k + (n : Int) + 1 + 1 + 1 + (cnts (x.expr_.a.map Ex.E) : Nat) + 1)))]) (lc := [(r2, .lst (x.vars_.map D.str))]) (Lb := [(r3, .lst (x.lets_.map TBinding.E))] ++ Lsb) (markStringS_cn x.vars_ (by first | exact hxs.2.2.2.2.1 | exact hxs | simpa using hxs) r2 (k + (n : Int) + 1 + 1 + 1 + (cnts (x.expr_.a.map Ex.E) : Nat) + 1 + (cnts (x.children_.map D.int) : Nat) + 1 + 1) (by omega) (by omega)) (by simp) (by simp [lendAs, lendOk]) (fun _ => rfl) fun _ _ => ?_
    simp -implicitDefEqProofs (maxSteps := 4000000) only [go_sem, hlen', at_mid hLa, set_mid hLa, hwi, hw0, hw1, hw2, hw4, hw6, hw7, hw10, List.append_assoc, List.cons_append, List.nil_append, List.append_nil]
    try repeat (refine ⟨by omega, ?_⟩)
    refine call_trees (q := 1) (La := Lsa ++ [(r0, .lst (mkDs (x.expr_.a.map Ex.E) (k + (n : Int) + 1 + 1 + 1))), (r1, .lst (mkDs (x.children_.map D.int) (k + (n : Int) + 1 + 1 + 1 + (cnts (x.expr_.a.map Ex.E) : Nat) + 1))), (r2, .lst (mkDs (x.vars_.map D.str) (k + (n : Int) + 1 + 1 + 1 + (cnts (x.expr_.a.map Ex.E) : Nat) + 1 + (cnts (x.children_.map D.int) : Nat) + 1 + 1)))]) (lc := [(r3, .lst (x.lets_.map TBinding.E))]) (Lb := [] ++ Lsb) (markBindingS_ct x.lets_ (by first | exact hxs.2.2.2.2.2 | exact hxs | simpa using hxs) r3 (k + (n : Int) + 1 + 1 + 1 + (cnts (x.expr_.a.map Ex.E) : Nat) + 1 + (cnts (x.children_.map D.int) : Nat) + 1 + 1 + (cnts (x.vars_.map D.str) : Nat)) (by omega) (by omega)) (by simp) (by simp [lendAs, lendOk]) (fun _ => rfl) fun _ _ => ?_
    simp -implicitDefEqProofs (maxSteps := 4000000) only [go_sem, hlen', at_mid hLa, set_mid hLa, hwi, hw0, hw1, hw2, hw4, hw6, hw7, hw10, List.append_assoc, List.cons_append, List.nil_append, List.append_nil]
    try repeat (refine ⟨by omega, ?_⟩)
    have H : Opd true (mkDs ((a.take (i + 1)).map TNode.E) k ++ (a.map TNode.E).drop (i + 1)) (La ++ .agg [.int (k + (n : Int)), .int (k + (n : Int) + 1), .str (mk (k + (n : Int) + 1 + 1)), .raw r0, .int (k + (n : Int) + 1 + 1 + 1 + (cnts (x.expr_.a.map Ex.E) : Nat)), .raw r1, .str (mk (k + (n : Int) + 1 + 1 + 1 + (cnts (x.expr_.a.map Ex.E) : Nat) + 1 + (cnts (x.children_.map D.int) : Nat))), .str (mk (k + (n : Int) + 1 + 1 + 1 + (cnts (x.expr_.a.map Ex.E) : Nat) + 1 + (cnts (x.children_.map D.int) : Nat) + 1)), .raw r2, .raw r3, .int (k + (n : Int) + 1 + 1 + 1 + (cnts (x.expr_.a.map Ex.E) : Nat) + 1 + (cnts (x.children_.map D.int) : Nat) + 1 + 1 + (cnts (x.vars_.map D.str) : Nat) + (cnts (x.lets_.map TBinding.E) : Nat))] :: Lb) (Lsa ++ ([(r0, .lst (mkDs (x.expr_.a.map Ex.E) (k + (n : Int) + 1 + 1 + 1))), (r1, .lst (mkDs (x.children_.map D.int) (k + (n : Int) + 1 + 1 + 1 + (cnts (x.expr_.a.map Ex.E) : Nat) + 1))), (r2, .lst (mkDs (x.vars_.map D.str) (k + (n : Int) + 1 + 1 + 1 + (cnts (x.expr_.a.map Ex.E) : Nat) + 1 + (cnts (x.children_.map D.int) : Nat) + 1 + 1))), (r3, .lst (mkDs (x.lets_.map TBinding.E) (k + (n : Int) + 1 + 1 + 1 + (cnts (x.expr_.a.map Ex.E) : Nat) + 1 + (cnts (x.children_.map D.int) : Nat) + 1 + 1 + (cnts (x.vars_.map D.str) : Nat))))] ++ Lsb)) := by
      rw [take_more hx, List.map_append, mkDs_app, hn, List.append_assoc]
      show Opd true (_ ++ (mkD x.E (k + n) :: _)) _ _
      rw [NodeMk]
      exact ha.app (Opd.cons (ag := true) (d := .agg _) (cs := [.int (k + (n : Int)), .int (k + (n : Int) + 1), .str (mk (k + (n : Int) + 1 + 1)), .raw r0, .int (k + (n : Int) + 1 + 1 + 1 + (cnts (x.expr_.a.map Ex.E) : Nat)), .raw r1, .str (mk (k + (n : Int) + 1 + 1 + 1 + (cnts (x.expr_.a.map Ex.E) : Nat) + 1 + (cnts (x.children_.map D.int) : Nat))), .str (mk (k + (n : Int) + 1 + 1 + 1 + (cnts (x.expr_.a.map Ex.E) : Nat) + 1 + (cnts (x.children_.map D.int) : Nat) + 1)), .raw r2, .raw r3, .int (k + (n : Int) + 1 + 1 + 1 + (cnts (x.expr_.a.map Ex.E) : Nat) + 1 + (cnts (x.children_.map D.int) : Nat) + 1 + 1 + (cnts (x.vars_.map D.str) : Nat) + (cnts (x.lets_.map TBinding.E) : Nat))]) (COp.v _ (COp.v _ (COp.v _ (COp.lst r0 _ (COp.v _ (COp.lst r1 _ (COp.v _ (COp.v _ (COp.lst r2 _ (COp.lst r3 _ (COp.v _ .nil))))))))))) hb)
    have hk' : k + ((cnts ((a.take (i + 1)).map TNode.E) : Nat) : Int) = k + (n : Int) + 1 + 1 + 1 + (cnts (x.expr_.a.map Ex.E) : Nat) + 1 + (cnts (x.children_.map D.int) : Nat) + 1 + 1 + (cnts (x.vars_.map D.str) : Nat) + (cnts (x.lets_.map TBinding.E) : Nat) + 1 := by rw [hc2]; omega
    exact hL _ (i + 1, La ++ .agg [.int (k + (n : Int)), .int (k + (n : Int) + 1), .str (mk (k + (n : Int) + 1 + 1)), .raw r0, .int (k + (n : Int) + 1 + 1 + 1 + (cnts (x.expr_.a.map Ex.E) : Nat)), .raw r1, .str (mk (k + (n : Int) + 1 + 1 + 1 + (cnts (x.expr_.a.map Ex.E) : Nat) + 1 + (cnts (x.children_.map D.int) : Nat))), .str (mk (k + (n : Int) + 1 + 1 + 1 + (cnts (x.expr_.a.map Ex.E) : Nat) + 1 + (cnts (x.children_.map D.int) : Nat) + 1)), .raw r2, .raw r3, .int (k + (n : Int) + 1 + 1 + 1 + (cnts (x.expr_.a.map Ex.E) : Nat) + 1 + (cnts (x.children_.map D.int) : Nat) + 1 + 1 + (cnts (x.vars_.map D.str) : Nat) + (cnts (x.lets_.map TBinding.E) : Nat))] :: Lb, Lsa ++ ([(r0, .lst (mkDs (x.expr_.a.map Ex.E) (k + (n : Int) + 1 + 1 + 1))), (r1, .lst (mkDs (x.children_.map D.int) (k + (n : Int) + 1 + 1 + 1 + (cnts (x.expr_.a.map Ex.E) : Nat) + 1))), (r2, .lst (mkDs (x.vars_.map D.str) (k + (n : Int) + 1 + 1 + 1 + (cnts (x.expr_.a.map Ex.E) : Nat) + 1 + (cnts (x.children_.map D.int) : Nat) + 1 + 1))), (r3, .lst (mkDs (x.lets_.map TBinding.E) (k + (n : Int) + 1 + 1 + 1 + (cnts (x.expr_.a.map Ex.E) : Nat) + 1 + (cnts (x.children_.map D.int) : Nat) + 1 + 1 + (cnts (x.vars_.map D.str) : Nat))))] ++ Lsb)) ⟨by omega, H⟩ (by simp only; omega) (by simp -implicitDefEqProofs (maxSteps := 4000000) only [go_sem, H.ole, hk', List.cons_append, List.nil_append])
  · obtain rfl : i = a.length := by omega
    have H : Opd true (mkDs (a.map TNode.E) k) L' Ls' := by rw [List.drop_of_length_le (by simp), List.append_nil, List.take_length] at ho'; exact ho'
    exact end_gen hK ((), L', Ls') 2 ⟨trivial, H⟩ (by simp -implicitDefEqProofs (maxSteps := 4000000) only [go_sem, H.ole, List.take_length])
theorem markNodeS_nil (k : Int) : Ct Try.prog 85 [.d (.lst []), .int k] [] (fun _ : Unit => True) (fun _ => .int k) (fun _ => []) := by
  refine ct_go tyOk Try.func85 rfl (by decide +kernel) Try.ntmps85 rfl (fun _ _ => by first | exact Nat.le_refl _ | exact Nat.zero_le _ | simp) ?_
  intro K hK
  simp -implicitDefEqProofs (maxSteps := 4000000) only [go_sem]
  refine loop_st tyOk [1, 5, 6, 7, 8, 9, 10, 11, 12, 13, 14, 15, 16, 17, 18, 19, 20, 21, 22, 23, 24, 25, 26, 27, 28, 29, 30, 31, 32, 33, 34, 35, 36, 37, 38, 39, 40, 41, 42, 43, 44, 45, 46, 47, 48, 49, 50, 51, 52, 53, 54, 55, 56, 57, 58, 59, 60, 61, 62, 63, 64, 65, 66, 67, 68, 69, 70, 71, 72, 73, 74, 75, 76, 77, 78, 79, 80, 81, 82, 83, 84, 85, 86, 87, 88, 89, 90, 91, 92, 93, 94] (fun q : Unit => [(1, .int k), (5, .int 0)]) (fun q : Unit => True) (fun q : Unit => 0) () ?_ ?_ ?_
  · trivial
  · simp -implicitDefEqProofs (maxSteps := 4000000) only [go_sem]
  rintro _ _ Lp hL
  simp -implicitDefEqProofs (maxSteps := 4000000) only [go_sem]
  exact ⟨fun h => absurd h (by omega), fun h => end_pure hK () trivial (by simp -implicitDefEqProofs (maxSteps := 4000000) only [go_sem])⟩
theorem markNodeS_ct (a : List TNode) (hsm : a.length ≤ 1048576 ∧ ∀ y ∈ a, y.sm) (v : Value) (k : Int) (h0 : 0 ≤ k) (h1 : k + cnts (a.map TNode.E) ≤ 1099511627776) :
    Ct Try.prog 85 [.raw v, .int k] [.forest [(v, .lst (a.map TNode.E))]] (fun _ : Unit => True) (fun _ => .int (k + cnts (a.map TNode.E))) (fun _ => [.forest [(v, .lst (mkDs (a.map TNode.E) k))]]) := by
  by_cases hne : a = []
  · subst hne
    have := Ct.lend (l := [(v, .lst [])]) (args := [.raw v, .int k]) (markNodeS_nil k) (by simp [lendAs, lendOk]) (fun _ => rfl)
    simpa [mkDs, cnts] using this
  · have hc : ∀ d ∈ a.map TNode.E, d.cells.length = 11 := TNode.flat a
    exact Ct.open (u := 114) (sz := 11) (ag := true) (l' := fun _ => mkDs (a.map TNode.E) k) (by simpa using hne) (fun d hd h => by cases h) hc (fun _ _ d hd h => by cases h) (markNodeS_nil k).1 rfl (fun _ => rfl)
      fun L Ls ho => markNodeS_op a v hsm.2 hsm.1 k h0 h1 L Ls ho
theorem TreeMk (x : TTree) (k : Int) : mkD x.E k = .agg [.lst (mkDs (x.nodes_.map TNode.E) (k))] := by
  show mkD (.agg [.lst (x.nodes_.map TNode.E)]) k = _
  simp [mkD, mkDs, mkV, D.cnt]
theorem TreeCnt (x : TTree) : x.E.cnt = 0 + cnts (x.nodes_.map TNode.E) := by
  show D.cnt (.agg [.lst (x.nodes_.map TNode.E)]) = _
  simp only [D.cnt, cnts]; omega
theorem lendTree {L : List (Value × D)} {x : TTree} {v0 : Value} (h0 : (v0, .lst (x.nodes_.map TNode.E)) ∈ L) : lendOk L (.agg [.raw v0]) (.d x.E) := by
  show lendOk L _ (.d (.agg [.lst (x.nodes_.map TNode.E)]))
  unfold lendOk
  refine .inr ⟨_, rfl, ?_⟩
  unfold lendDs
  refine ⟨_, _, rfl, by unfold lendOk; exact .inr ⟨_, h0, rfl⟩, ?_⟩
  unfold lendDs
  rfl
theorem lendTreeR {L : List (Value × D)} {x : TTree} {v0 : Value} : lendOk L (.agg [.raw v0]) (.agg [.raw v0]) := by
  unfold lendOk
  refine .inl ⟨_, rfl, ?_⟩
  unfold lendAs
  refine ⟨_, _, rfl, by unfold lendOk; exact .inl rfl, ?_⟩
  unfold lendAs
  rfl
theorem toTree_fr (x : TTree) (hsm : x.sm) : Ct Try.prog 47 [.d x.E] [] (fun _ : Value => True) (fun v => .agg [.raw v]) (fun v => [.forest [(v, .lst (x.nodes_.map TNode.E))]]) := by
  refine ct_go tyOk Try.func47 rfl (by decide +kernel) Try.ntmps47 rfl (fun _ _ => by first | exact Nat.le_refl _ | exact Nat.zero_le _ | simp) ?_
  intro K hK
  simp -implicitDefEqProofs (maxSteps := 4000000) only [go_sem]
  refine call_objs [] (toNodeS_fr x.nodes_ (by first | exact hsm.1 | exact hsm | simpa using hsm)) (by simp -implicitDefEqProofs (maxSteps := 4000000) only [go_sem]; simp [O.lel, O.rens, pick]) fun w0 _ => ?_
  simp -implicitDefEqProofs (maxSteps := 4000000) only [go_sem]
  exact end_own hK (w0) [3] trivial (by simp -implicitDefEqProofs (maxSteps := 4000000) only [go_sem]) (by simp -implicitDefEqProofs (maxSteps := 4000000) only [go_sem]) (by rfl) (by decide)
theorem toTree_dt (x : TTree) (hsm : x.sm) : Ct Try.prog 47 [.d x.E] [] (fun _ : Unit => True) (fun _ => .d x.E) (fun _ => []) :=
  Ct.datF (φ' := fun _ : Unit => True) (r := fun _ => x.E) (fun _ => ()) (toTree_fr x hsm) (fun _ _ => trivial) fun v _ => lendTree (by simp)
theorem markTree_ct (x : TTree) (hsm : x.sm) (v0 : Value) (k : Int) (h0 : 0 ≤ k) (h1 : k + (cnts (x.nodes_.map TNode.E) : Nat) ≤ 1099511627776) :
    Ct Try.prog 50 [.agg [.raw v0], .int k] [.forest [(v0, .lst (x.nodes_.map TNode.E))]] (fun _ : Unit => True) (fun _ => .int (k + (cnts (x.nodes_.map TNode.E) : Nat))) (fun _ => [.forest [(v0, .lst (mkDs (x.nodes_.map TNode.E) (k)))]]) := by
  refine ct_go tyOk Try.func50 rfl (by decide +kernel) Try.ntmps50 rfl (fun _ _ => by first | exact Nat.le_refl _ | exact Nat.zero_le _ | simp) ?_
  intro K hK
  simp -implicitDefEqProofs (maxSteps := 4000000) only [go_sem]
  refine call_trees (q := 0) (La := []) (lc := [(v0, .lst (x.nodes_.map TNode.E))]) (Lb := []) (markNodeS_ct x.nodes_ (by first | exact hsm.1 | exact hsm | simpa using hsm) v0 (k) (by omega) (by omega)) rfl (by simp [lendAs, lendOk]) (fun _ => rfl) fun _ _ => ?_
  simp -implicitDefEqProofs (maxSteps := 4000000) only [go_sem]
  exact end_gen hK () 1 trivial (by simp -implicitDefEqProofs (maxSteps := 4000000) only [go_sem])
end Go.Proofs.Ytphneohnocljcaa
