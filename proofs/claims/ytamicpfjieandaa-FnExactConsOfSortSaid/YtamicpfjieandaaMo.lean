/- Marks, printed by mark.py. -/
import Derived.Test.YtamicpfjieandaaMg
import Derived.Test.YtamicpfjieandaaMn
import Derived.Test.YtamicpfjieandaaAbTz
namespace Go.Proofs.Ytamicpfjieandaa
open Go Go.Ab
set_option linter.unusedVariables false
set_option linter.unusedSimpArgs false
set_option maxRecDepth 100000
set_option maxHeartbeats 4000000
theorem markIntSS_op (a : List (List Int)) (v : Value) (hel : ∀ y ∈ a, y.length ≤ 1048576) (hsm : a.length ≤ 1048576) (k : Int) (h0 : 0 ≤ k) (h1 : k + cnts (a.map (fun r => D.lst (r.map D.int))) ≤ 1099511627776) (L : List A) (Ls : List (Value × D)) (ho : Opd false (a.map (fun r => D.lst (r.map D.int))) L Ls) :
    Ct Try.prog 82 [.arr 0, .int k] [.opn v 26 1 L, .forest Ls] (fun q : Unit × List A × List (Value × D) => True ∧ Opd false (mkDs (a.map (fun r => D.lst (r.map D.int))) k) q.2.1 q.2.2) (fun _ => .int (k + cnts (a.map (fun r => D.lst (r.map D.int))))) (fun q => [.opn v 26 1 q.2.1, .forest q.2.2]) := by
  refine ct_go tyOk Try.func82 rfl (by decide +kernel) Try.ntmps82 rfl (fun _ _ => by first | exact Nat.le_refl _ | exact Nat.zero_le _ | simp) ?_
  intro K hK
  simp -implicitDefEqProofs (maxSteps := 4000000) only [go_sem]
  refine loop_at tyOk [1, 5, 6, 7, 8, 9, 10, 11, 12, 13, 14, 15, 16, 17] (fun q : Nat × List A × List (Value × D) => [(0, .arr 0), (1, .int (k + cnts ((a.take q.1).map (fun r => D.lst (r.map D.int))))), (5, .int q.1)]) (fun q : Nat × List A × List (Value × D) => [.opn v 26 1 q.2.1, .forest q.2.2]) (fun q : Nat × List A × List (Value × D) => q.1 ≤ a.length ∧ Opd false (mkDs ((a.take q.1).map (fun r => D.lst (r.map D.int))) k ++ (a.map (fun r => D.lst (r.map D.int))).drop q.1) q.2.1 q.2.2) (fun q : Nat × List A × List (Value × D) => a.length - q.1) (0, L, Ls) ?_ ?_ ?_
  · exact ⟨Nat.zero_le _, by simpa [mkDs] using ho⟩
  · simp -implicitDefEqProofs (maxSteps := 4000000) only [go_sem, ho.ole, cnts, Int.add_zero, List.take_zero]
  rintro ⟨i, L', Ls'⟩ ⟨hi, ho'⟩ Lp hL
  simp only at hi ho'
  have hlen' : L'.length = a.length := by rw [← ho'.len, List.length_append, mkDs_len, List.length_map, List.length_take, List.length_drop, List.length_map]; omega
  have hwi : wr .i64 ((i : Int) + 1) = ((i + 1 : Nat) : Int) := by rw [wr_in (by omega)]; omega
  simp -implicitDefEqProofs (maxSteps := 4000000) only [go_sem, hlen']
  refine ⟨fun hlt => ?_, fun hlt => ?_⟩
  · have hi2 : i < a.length := by omega
    obtain ⟨x, hx⟩ : ∃ x, a[i]? = some x := ⟨_, List.getElem?_eq_getElem hi2⟩
    have hxE : (a.map (fun r => D.lst (r.map D.int)))[i]? = some (.lst (x.map D.int)) := by rw [List.getElem?_map, hx]; rfl
    have hc1 := cnts_at hxE
    have hc2 := cnts_take hxE
    rw [← List.map_take] at hc1
    rw [← List.map_take, ← List.map_take] at hc2
    simp only [D.cnt] at hc1 hc2
    have hxs := hel x (List.mem_of_getElem? hx)
    generalize hn : cnts ((a.take i).map (fun r => D.lst (r.map D.int))) = n at *
    obtain ⟨La, Lb, Lsa, Lsb, cs, Lc, rfl, rfl, hLa, ha, g0, hb⟩ := ho'.at hxE (by rw [mkDs_len, List.length_map, List.length_take]; omega)
    have g0 : COp [.lst (x.map D.int)] cs Lc := g0
    obtain ⟨r0, cs1, Lc0, rfl, rfl, g1⟩ := COp.inv_lst g0
    obtain ⟨rfl, rfl⟩ := COp.inv_nil g1
    have hL2 := hlen'
    rw [List.length_append, List.length_cons] at hL2
    simp -implicitDefEqProofs (maxSteps := 4000000) only [go_sem, hlen', mkE, at_mid hLa, set_mid hLa, hwi]
    try repeat (refine ⟨by omega, ?_⟩)
    refine call_trees (q := 1) (La := Lsa) (lc := [(r0, .lst (x.map D.int))]) (Lb := Lsb) (markIntS_cn x hxs r0 (k + (n : Int)) (by omega) (by omega)) (by simp) (by simp [lendAs, lendOk]) (fun _ => rfl) fun _ _ => ?_
    simp -implicitDefEqProofs (maxSteps := 4000000) only [go_sem, hlen', mkE, at_mid hLa, set_mid hLa, hwi, List.append_assoc, List.cons_append, List.nil_append, List.append_nil]
    have H : Opd false (mkDs ((a.take (i + 1)).map (fun r => D.lst (r.map D.int))) k ++ (a.map (fun r => D.lst (r.map D.int))).drop (i + 1)) (La ++ .raw r0 :: Lb) (Lsa ++ ([(r0, .lst (mkDs (x.map D.int) (k + n)))] ++ Lsb)) := by
      rw [take_more hx, List.map_append, mkDs_app, hn, List.append_assoc]
      show Opd false (_ ++ (mkD (.lst (x.map D.int)) (k + n) :: _)) _ _
      exact ha.app (Opd.cons (ag := false) (d := .lst _) (cs := [.raw r0]) (COp.lst r0 _ .nil) hb)
    have hk' : k + ((cnts ((a.take (i + 1)).map (fun r => D.lst (r.map D.int))) : Nat) : Int) = k + (n : Int) + (cnts (x.map D.int) : Nat) := by rw [hc2]; omega
    exact hL _ (i + 1, La ++ .raw r0 :: Lb, Lsa ++ ([(r0, .lst (mkDs (x.map D.int) (k + n)))] ++ Lsb)) ⟨by omega, H⟩ (by simp only; omega) (by simp -implicitDefEqProofs (maxSteps := 4000000) only [go_sem, H.ole, hk', List.cons_append, List.nil_append])
  · obtain rfl : i = a.length := by omega
    have H : Opd false (mkDs (a.map (fun r => D.lst (r.map D.int))) k) L' Ls' := by rw [List.drop_of_length_le (by simp), List.append_nil, List.take_length] at ho'; exact ho'
    exact end_gen hK ((), L', Ls') 2 ⟨trivial, H⟩ (by simp -implicitDefEqProofs (maxSteps := 4000000) only [go_sem, H.ole, List.take_length])
theorem markIntSS_nil (k : Int) : Ct Try.prog 82 [.d (.lst []), .int k] [] (fun _ : Unit => True) (fun _ => .int k) (fun _ => []) := by
  refine ct_go tyOk Try.func82 rfl (by decide +kernel) Try.ntmps82 rfl (fun _ _ => by first | exact Nat.le_refl _ | exact Nat.zero_le _ | simp) ?_
  intro K hK
  simp -implicitDefEqProofs (maxSteps := 4000000) only [go_sem]
  refine loop_st tyOk [1, 5, 6, 7, 8, 9, 10, 11, 12, 13, 14, 15, 16, 17] (fun q : Unit => [(1, .int k), (5, .int 0)]) (fun q : Unit => True) (fun q : Unit => 0) () ?_ ?_ ?_
  · trivial
  · simp -implicitDefEqProofs (maxSteps := 4000000) only [go_sem]
  rintro _ _ Lp hL
  simp -implicitDefEqProofs (maxSteps := 4000000) only [go_sem]
  exact ⟨fun h => absurd h (by omega), fun h => end_pure hK () trivial (by simp -implicitDefEqProofs (maxSteps := 4000000) only [go_sem])⟩
theorem flatIntSS (a : List (List Int)) : ∀ d ∈ a.map (fun r => D.lst (r.map D.int)), d.cells.length = 1 := fun d hd => by obtain ⟨y, _, rfl⟩ := List.mem_map.1 hd; rfl
theorem markIntSS_ct (a : List (List Int)) (hsm : a.length ≤ 1048576 ∧ ∀ y ∈ a, y.length ≤ 1048576) (v : Value) (k : Int) (h0 : 0 ≤ k) (h1 : k + cnts (a.map (fun r => D.lst (r.map D.int))) ≤ 1099511627776) :
    Ct Try.prog 82 [.raw v, .int k] [.forest [(v, .lst (a.map (fun r => D.lst (r.map D.int))))]] (fun _ : Unit => True) (fun _ => .int (k + cnts (a.map (fun r => D.lst (r.map D.int))))) (fun _ => [.forest [(v, .lst (mkDs (a.map (fun r => D.lst (r.map D.int))) k))]]) := by
  by_cases hne : a = []
  · subst hne
    have := Ct.lend (l := [(v, .lst [])]) (args := [.raw v, .int k]) (markIntSS_nil k) (by simp [lendAs, lendOk]) (fun _ => rfl)
    simpa [mkDs, cnts] using this
  · exact Ct.open (X := Unit) (φ := fun _ => True) (ret := fun _ => .int (k + cnts (a.map (fun r => D.lst (r.map D.int))))) (v := v) (rest := [.int k]) (u := 26) (sz := 1) (ag := false) (l' := fun _ => mkDs (a.map (fun r => D.lst (r.map D.int))) k) (by simpa using hne) (fun d hd _ => flatIntSS a d hd) (flatIntSS a) (fun _ _ d hd _ => mkDs_cells (P := fun n => n = 1) (flatIntSS a) k d hd) (markIntSS_nil k).1 rfl (fun _ => rfl)
      fun L Ls ho => markIntSS_op a v hsm.2 hsm.1 k h0 h1 L Ls ho
theorem toIntSS_fr (a : List (List Int)) (hsm : a.length ≤ 1048576 ∧ ∀ y ∈ a, y.length ≤ 1048576) : Ct Try.prog 80 [.d (.lst (a.map (fun r => D.lst (r.map D.int))))] [] (fun _ : Value => True) (fun v => .raw v) (fun v => [.forest [(v, .lst (a.map (fun r => D.lst (r.map D.int))))]]) := by
  obtain ⟨ha, hel⟩ := hsm
  refine ct_go tyOk Try.func80 rfl (by decide +kernel) Try.ntmps80 rfl (fun _ _ => by first | exact Nat.le_refl _ | exact Nat.zero_le _ | simp) ?_
  intro K hK
  simp -implicitDefEqProofs (maxSteps := 4000000) only [go_sem]
  refine ⟨by omega, by omega, ?_⟩
  refine loop_at tyOk [4, 8, 9, 10, 11, 12, 13, 14, 15, 16, 17, 18, 19, 20, 21] (fun q : Nat × List A × List (Value × D) => [(2, .nil), (3, .arr 0), (4, .int q.1)]) (fun q : Nat × List A × List (Value × D) => [.row 26 1 (q.2.1 ++ List.replicate (a.length - q.1) .nil), .forest q.2.2]) (fun q : Nat × List A × List (Value × D) => q.1 ≤ a.length ∧ q.2.1.length = q.1 ∧ Opd false ((a.take q.1).map (fun r => D.lst (r.map D.int))) q.2.1 q.2.2) (fun q : Nat × List A × List (Value × D) => a.length - q.1) (0, [], []) ?_ ?_ ?_
  · exact ⟨Nat.zero_le _, rfl, .nil⟩
  · simp -implicitDefEqProofs (maxSteps := 4000000) only [go_sem, Nat.sub_zero]
    exact ⟨ole_row rfl fun x hx => by rw [List.eq_of_mem_replicate hx]; simp -implicitDefEqProofs (maxSteps := 4000000) only [go_sem], by simp [O.lel]⟩
  rintro ⟨i, L', Ls'⟩ ⟨hi, hlL, ho⟩ Lp hL
  simp only at hi hlL ho
  have hw : wr .i64 ((i : Int) + 1) = ((i + 1 : Nat) : Int) := by rw [wr_in (by omega)]; omega
  simp -implicitDefEqProofs (maxSteps := 4000000) only [go_sem, hw]
  refine ⟨fun hlt => ⟨by omega, fun x hx => ?_⟩, fun hlt => ?_⟩
  · refine call_new (q := 1) (toIntS_fr x (hel x (List.mem_of_getElem? hx))) rfl (by simp [lendAs, lendOk]) (fun _ => rfl) fun v _ => ?_
    simp -implicitDefEqProofs (maxSteps := 4000000) only [go_sem, hw, hlL]
    have H : Opd false ((a.take (i + 1)).map (fun r => D.lst (r.map D.int))) (L' ++ [.raw v]) (Ls' ++ [(v, .lst (x.map D.int))]) := by
      rw [take_more hx, List.map_append]
      have h4 : Opd false [D.lst (x.map D.int)] [.raw v] [(v, .lst (x.map D.int))] := Opd.cons (ag := false) (d := .lst _) (cs := [.raw v]) (COp.lst v _ .nil) .nil
      exact ho.app h4
    have hle : ∀ n m : Nat, O.le n m (.row 26 1 (L' ++ [.raw v] ++ List.replicate (a.length - (i + 1)) .nil)) (.row 26 1 (L' ++ [.raw v] ++ List.replicate (a.length - (i + 1)) .nil)) := fun n m => ole_row rfl fun y hy => by
      rcases List.mem_append.1 hy with hy | hy
      · exact H.les n m y hy
      · rw [List.eq_of_mem_replicate hy]; simp -implicitDefEqProofs (maxSteps := 4000000) only [go_sem]
    refine ⟨by omega, by omega, ?_⟩
    rw [fill_set hlL (by omega)]
    exact hL _ (i + 1, L' ++ [.raw v], Ls' ++ [(v, .lst (x.map D.int))]) ⟨by omega, by simp [hlL], H⟩ (by simp only; omega) (by simp -implicitDefEqProofs (maxSteps := 4000000) only [go_sem, hle])
  · obtain rfl : i = a.length := by omega
    rw [List.take_length] at ho
    simp -implicitDefEqProofs (maxSteps := 4000000) only [go_sem, Nat.sub_self]
    exact end_close hK (k := 0) (by simp -implicitDefEqProofs (maxSteps := 4000000) only [go_sem]) rfl (.inl ⟨1, rfl⟩) ho (fun d hd _ => flatIntSS a d hd) fun v => ⟨v, trivial, rfl, rfl⟩
theorem SortsMk (x : TSorts) (k : Int) : mkD x.E k = .agg [.lst (mkDs (x.cons_.map D.str) (k)), .lst (mkDs (x.of_.map D.int) (k + (cnts (x.cons_.map D.str) : Nat))), .lst (mkDs (x.args_.map (fun r => D.lst (r.map D.int))) (k + (cnts (x.cons_.map D.str) : Nat) + (cnts (x.of_.map D.int) : Nat))), .lst (mkDs (x.funs_.map D.str) (k + (cnts (x.cons_.map D.str) : Nat) + (cnts (x.of_.map D.int) : Nat) + (cnts (x.args_.map (fun r => D.lst (r.map D.int))) : Nat))), .lst (mkDs (x.params_.map (fun r => D.lst (r.map D.int))) (k + (cnts (x.cons_.map D.str) : Nat) + (cnts (x.of_.map D.int) : Nat) + (cnts (x.args_.map (fun r => D.lst (r.map D.int))) : Nat) + (cnts (x.funs_.map D.str) : Nat))), .lst (mkDs (x.results_.map D.int) (k + (cnts (x.cons_.map D.str) : Nat) + (cnts (x.of_.map D.int) : Nat) + (cnts (x.args_.map (fun r => D.lst (r.map D.int))) : Nat) + (cnts (x.funs_.map D.str) : Nat) + (cnts (x.params_.map (fun r => D.lst (r.map D.int))) : Nat))), .v (.int .i64 (k + (cnts (x.cons_.map D.str) : Nat) + (cnts (x.of_.map D.int) : Nat) + (cnts (x.args_.map (fun r => D.lst (r.map D.int))) : Nat) + (cnts (x.funs_.map D.str) : Nat) + (cnts (x.params_.map (fun r => D.lst (r.map D.int))) : Nat) + (cnts (x.results_.map D.int) : Nat)))] := by
  show mkD (.agg [.lst (x.cons_.map D.str), .lst (x.of_.map D.int), .lst (x.args_.map (fun r => D.lst (r.map D.int))), .lst (x.funs_.map D.str), .lst (x.params_.map (fun r => D.lst (r.map D.int))), .lst (x.results_.map D.int), .v (.int .i64 x.count_)]) k = _
  simp [mkD, mkDs, mkV, D.cnt]
theorem SortsCnt (x : TSorts) : x.E.cnt = 1 + cnts (x.cons_.map D.str) + cnts (x.of_.map D.int) + cnts (x.args_.map (fun r => D.lst (r.map D.int))) + cnts (x.funs_.map D.str) + cnts (x.params_.map (fun r => D.lst (r.map D.int))) + cnts (x.results_.map D.int) := by
  show D.cnt (.agg [.lst (x.cons_.map D.str), .lst (x.of_.map D.int), .lst (x.args_.map (fun r => D.lst (r.map D.int))), .lst (x.funs_.map D.str), .lst (x.params_.map (fun r => D.lst (r.map D.int))), .lst (x.results_.map D.int), .v (.int .i64 x.count_)]) = _
  simp only [D.cnt, cnts]; omega
theorem lendSorts {L : List (Value × D)} {x : TSorts} {v0 v1 v2 v3 v4 v5 : Value} (h0 : (v0, .lst (x.cons_.map D.str)) ∈ L) (h1 : (v1, .lst (x.of_.map D.int)) ∈ L) (h2 : (v2, .lst (x.args_.map (fun r => D.lst (r.map D.int)))) ∈ L) (h3 : (v3, .lst (x.funs_.map D.str)) ∈ L) (h4 : (v4, .lst (x.params_.map (fun r => D.lst (r.map D.int)))) ∈ L) (h5 : (v5, .lst (x.results_.map D.int)) ∈ L) : lendOk L (.agg [.raw v0, .raw v1, .raw v2, .raw v3, .raw v4, .raw v5, .int x.count_]) (.d x.E) := by
  show lendOk L _ (.d (.agg [.lst (x.cons_.map D.str), .lst (x.of_.map D.int), .lst (x.args_.map (fun r => D.lst (r.map D.int))), .lst (x.funs_.map D.str), .lst (x.params_.map (fun r => D.lst (r.map D.int))), .lst (x.results_.map D.int), .v (.int .i64 x.count_)]))
  unfold lendOk
  refine .inr ⟨_, rfl, ?_⟩
  unfold lendDs
  refine ⟨_, _, rfl, by unfold lendOk; exact .inr ⟨_, h0, rfl⟩, ?_⟩
  unfold lendDs
  refine ⟨_, _, rfl, by unfold lendOk; exact .inr ⟨_, h1, rfl⟩, ?_⟩
  unfold lendDs
  refine ⟨_, _, rfl, by unfold lendOk; exact .inr ⟨_, h2, rfl⟩, ?_⟩
  unfold lendDs
  refine ⟨_, _, rfl, by unfold lendOk; exact .inr ⟨_, h3, rfl⟩, ?_⟩
  unfold lendDs
  refine ⟨_, _, rfl, by unfold lendOk; exact .inr ⟨_, h4, rfl⟩, ?_⟩
  unfold lendDs
  refine ⟨_, _, rfl, by unfold lendOk; exact .inr ⟨_, h5, rfl⟩, ?_⟩
  unfold lendDs
  refine ⟨_, _, rfl, by unfold lendOk; rfl, ?_⟩
  unfold lendDs
  rfl
theorem lendSortsR {L : List (Value × D)} {x : TSorts} {v0 v1 v2 v3 v4 v5 : Value} : lendOk L (.agg [.raw v0, .raw v1, .raw v2, .raw v3, .raw v4, .raw v5, .int x.count_]) (.agg [.raw v0, .raw v1, .raw v2, .raw v3, .raw v4, .raw v5, .int x.count_]) := by
  unfold lendOk
  refine .inl ⟨_, rfl, ?_⟩
  unfold lendAs
  refine ⟨_, _, rfl, by unfold lendOk; exact .inl rfl, ?_⟩
  unfold lendAs
  refine ⟨_, _, rfl, by unfold lendOk; exact .inl rfl, ?_⟩
  unfold lendAs
  refine ⟨_, _, rfl, by unfold lendOk; exact .inl rfl, ?_⟩
  unfold lendAs
  refine ⟨_, _, rfl, by unfold lendOk; exact .inl rfl, ?_⟩
  unfold lendAs
  refine ⟨_, _, rfl, by unfold lendOk; exact .inl rfl, ?_⟩
  unfold lendAs
  refine ⟨_, _, rfl, by unfold lendOk; exact .inl rfl, ?_⟩
  unfold lendAs
  refine ⟨_, _, rfl, by unfold lendOk; rfl, ?_⟩
  unfold lendAs
  rfl
theorem toSorts_fr (x : TSorts) (hsm : x.sm) : Ct Try.prog 34 [.d x.E] [] (fun _ : Value × Value × Value × Value × Value × Value => True) (fun v => .agg [.raw v.1, .raw v.2.1, .raw v.2.2.1, .raw v.2.2.2.1, .raw v.2.2.2.2.1, .raw v.2.2.2.2.2, .int x.count_]) (fun v => [.forest [(v.1, .lst (x.cons_.map D.str)), (v.2.1, .lst (x.of_.map D.int)), (v.2.2.1, .lst (x.args_.map (fun r => D.lst (r.map D.int)))), (v.2.2.2.1, .lst (x.funs_.map D.str)), (v.2.2.2.2.1, .lst (x.params_.map (fun r => D.lst (r.map D.int)))), (v.2.2.2.2.2, .lst (x.results_.map D.int))]]) := by
  refine ct_go tyOk Try.func34 rfl (by decide +kernel) Try.ntmps34 rfl (fun _ _ => by first | exact Nat.le_refl _ | exact Nat.zero_le _ | simp) ?_
  intro K hK
  simp -implicitDefEqProofs (maxSteps := 4000000) only [go_sem]
  refine call_objs [] (toStringS_fr x.cons_ (by first | exact hsm.1 | exact hsm | simpa using hsm)) (by simp -implicitDefEqProofs (maxSteps := 4000000) only [go_sem]; simp [O.lel, O.rens, pick]) fun w0 _ => ?_
  simp -implicitDefEqProofs (maxSteps := 4000000) only [go_sem]
  refine call_new (q := 3) (toIntS_fr x.of_ (by first | exact hsm.2.1 | exact hsm | simpa using hsm)) rfl (by simp [lendAs, lendOk]) (fun _ => rfl) fun w1 _ => ?_
  simp -implicitDefEqProofs (maxSteps := 4000000) only [go_sem]
  refine call_new (q := 3) (toIntSS_fr x.args_ (by first | exact hsm.2.2.1 | exact hsm | simpa using hsm)) rfl (by simp [lendAs, lendOk]) (fun _ => rfl) fun w2 _ => ?_
  simp -implicitDefEqProofs (maxSteps := 4000000) only [go_sem]
  refine call_new (q := 3) (toStringS_fr x.funs_ (by first | exact hsm.2.2.2.1 | exact hsm | simpa using hsm)) rfl (by simp [lendAs, lendOk]) (fun _ => rfl) fun w3 _ => ?_
  simp -implicitDefEqProofs (maxSteps := 4000000) only [go_sem]
  refine call_new (q := 3) (toIntSS_fr x.params_ (by first | exact hsm.2.2.2.2.1 | exact hsm | simpa using hsm)) rfl (by simp [lendAs, lendOk]) (fun _ => rfl) fun w4 _ => ?_
  simp -implicitDefEqProofs (maxSteps := 4000000) only [go_sem]
  refine call_new (q := 3) (toIntS_fr x.results_ (by first | exact hsm.2.2.2.2.2 | exact hsm | simpa using hsm)) rfl (by simp [lendAs, lendOk]) (fun _ => rfl) fun w5 _ => ?_
  simp -implicitDefEqProofs (maxSteps := 4000000) only [go_sem]
  exact end_own hK (w0, w1, w2, w3, w4, w5) [3] trivial (by simp -implicitDefEqProofs (maxSteps := 4000000) only [go_sem]) (by simp -implicitDefEqProofs (maxSteps := 4000000) only [go_sem]) (by rfl) (by decide)
theorem toSorts_dt (x : TSorts) (hsm : x.sm) : Ct Try.prog 34 [.d x.E] [] (fun _ : Unit => True) (fun _ => .d x.E) (fun _ => []) :=
  Ct.datF (φ' := fun _ : Unit => True) (r := fun _ => x.E) (fun _ => ()) (toSorts_fr x hsm) (fun _ _ => trivial) fun v _ => lendSorts (by simp) (by simp) (by simp) (by simp) (by simp) (by simp)
theorem markSorts_ct (x : TSorts) (hsm : x.sm) (v0 v1 v2 v3 v4 v5 : Value) (k : Int) (h0 : 0 ≤ k) (h1 : k + (cnts (x.cons_.map D.str) : Nat) + (cnts (x.of_.map D.int) : Nat) + (cnts (x.args_.map (fun r => D.lst (r.map D.int))) : Nat) + (cnts (x.funs_.map D.str) : Nat) + (cnts (x.params_.map (fun r => D.lst (r.map D.int))) : Nat) + (cnts (x.results_.map D.int) : Nat) ≤ 1099511627776) :
    Ct Try.prog 37 [.agg [.raw v0, .raw v1, .raw v2, .raw v3, .raw v4, .raw v5, .int x.count_], .int k] [.forest [(v0, .lst (x.cons_.map D.str)), (v1, .lst (x.of_.map D.int)), (v2, .lst (x.args_.map (fun r => D.lst (r.map D.int)))), (v3, .lst (x.funs_.map D.str)), (v4, .lst (x.params_.map (fun r => D.lst (r.map D.int)))), (v5, .lst (x.results_.map D.int))]] (fun _ : Unit => True) (fun _ => .int (k + (cnts (x.cons_.map D.str) : Nat) + (cnts (x.of_.map D.int) : Nat) + (cnts (x.args_.map (fun r => D.lst (r.map D.int))) : Nat) + (cnts (x.funs_.map D.str) : Nat) + (cnts (x.params_.map (fun r => D.lst (r.map D.int))) : Nat) + (cnts (x.results_.map D.int) : Nat))) (fun _ => [.forest [(v0, .lst (mkDs (x.cons_.map D.str) (k))), (v1, .lst (mkDs (x.of_.map D.int) (k + (cnts (x.cons_.map D.str) : Nat)))), (v2, .lst (mkDs (x.args_.map (fun r => D.lst (r.map D.int))) (k + (cnts (x.cons_.map D.str) : Nat) + (cnts (x.of_.map D.int) : Nat)))), (v3, .lst (mkDs (x.funs_.map D.str) (k + (cnts (x.cons_.map D.str) : Nat) + (cnts (x.of_.map D.int) : Nat) + (cnts (x.args_.map (fun r => D.lst (r.map D.int))) : Nat)))), (v4, .lst (mkDs (x.params_.map (fun r => D.lst (r.map D.int))) (k + (cnts (x.cons_.map D.str) : Nat) + (cnts (x.of_.map D.int) : Nat) + (cnts (x.args_.map (fun r => D.lst (r.map D.int))) : Nat) + (cnts (x.funs_.map D.str) : Nat)))), (v5, .lst (mkDs (x.results_.map D.int) (k + (cnts (x.cons_.map D.str) : Nat) + (cnts (x.of_.map D.int) : Nat) + (cnts (x.args_.map (fun r => D.lst (r.map D.int))) : Nat) + (cnts (x.funs_.map D.str) : Nat) + (cnts (x.params_.map (fun r => D.lst (r.map D.int))) : Nat))))]]) := by
  refine ct_go tyOk Try.func37 rfl (by decide +kernel) Try.ntmps37 rfl (fun _ _ => by first | exact Nat.le_refl _ | exact Nat.zero_le _ | simp) ?_
  intro K hK
  simp -implicitDefEqProofs (maxSteps := 4000000) only [go_sem]
  refine call_trees (q := 0) (La := []) (lc := [(v0, .lst (x.cons_.map D.str))]) (Lb := [(v1, .lst (x.of_.map D.int)), (v2, .lst (x.args_.map (fun r => D.lst (r.map D.int)))), (v3, .lst (x.funs_.map D.str)), (v4, .lst (x.params_.map (fun r => D.lst (r.map D.int)))), (v5, .lst (x.results_.map D.int))]) (markStringS_cn x.cons_ (by first | exact hsm.1 | exact hsm | simpa using hsm) v0 (k) (by omega) (by omega)) rfl (by simp [lendAs, lendOk]) (fun _ => rfl) fun _ _ => ?_
  simp -implicitDefEqProofs (maxSteps := 4000000) only [go_sem]
  refine call_trees (q := 0) (La := [(v0, .lst (mkDs (x.cons_.map D.str) (k)))]) (lc := [(v1, .lst (x.of_.map D.int))]) (Lb := [(v2, .lst (x.args_.map (fun r => D.lst (r.map D.int)))), (v3, .lst (x.funs_.map D.str)), (v4, .lst (x.params_.map (fun r => D.lst (r.map D.int)))), (v5, .lst (x.results_.map D.int))]) (markIntS_cn x.of_ (by first | exact hsm.2.1 | exact hsm | simpa using hsm) v1 (k + (cnts (x.cons_.map D.str) : Nat)) (by omega) (by omega)) rfl (by simp [lendAs, lendOk]) (fun _ => rfl) fun _ _ => ?_
  simp -implicitDefEqProofs (maxSteps := 4000000) only [go_sem]
  refine call_trees (q := 0) (La := [(v0, .lst (mkDs (x.cons_.map D.str) (k))), (v1, .lst (mkDs (x.of_.map D.int) (k + (cnts (x.cons_.map D.str) : Nat))))]) (lc := [(v2, .lst (x.args_.map (fun r => D.lst (r.map D.int))))]) (Lb := [(v3, .lst (x.funs_.map D.str)), (v4, .lst (x.params_.map (fun r => D.lst (r.map D.int)))), (v5, .lst (x.results_.map D.int))]) (markIntSS_ct x.args_ (by first | exact hsm.2.2.1 | exact hsm | simpa using hsm) v2 (k + (cnts (x.cons_.map D.str) : Nat) + (cnts (x.of_.map D.int) : Nat)) (by omega) (by omega)) rfl (by simp [lendAs, lendOk]) (fun _ => rfl) fun _ _ => ?_
  simp -implicitDefEqProofs (maxSteps := 4000000) only [go_sem]
  refine call_trees (q := 0) (La := [(v0, .lst (mkDs (x.cons_.map D.str) (k))), (v1, .lst (mkDs (x.of_.map D.int) (k + (cnts (x.cons_.map D.str) : Nat)))), (v2, .lst (mkDs (x.args_.map (fun r => D.lst (r.map D.int))) (k + (cnts (x.cons_.map D.str) : Nat) + (cnts (x.of_.map D.int) : Nat))))]) (lc := [(v3, .lst (x.funs_.map D.str))]) (Lb := [(v4, .lst (x.params_.map (fun r => D.lst (r.map D.int)))), (v5, .lst (x.results_.map D.int))]) (markStringS_cn x.funs_ (by first | exact hsm.2.2.2.1 | exact hsm | simpa using hsm) v3 (k + (cnts (x.cons_.map D.str) : Nat) + (cnts (x.of_.map D.int) : Nat) + (cnts (x.args_.map (fun r => D.lst (r.map D.int))) : Nat)) (by omega) (by omega)) rfl (by simp [lendAs, lendOk]) (fun _ => rfl) fun _ _ => ?_
  simp -implicitDefEqProofs (maxSteps := 4000000) only [go_sem]
  refine call_trees (q := 0) (La := [(v0, .lst (mkDs (x.cons_.map D.str) (k))), (v1, .lst (mkDs (x.of_.map D.int) (k + (cnts (x.cons_.map D.str) : Nat)))), (v2, .lst (mkDs (x.args_.map (fun r => D.lst (r.map D.int))) (k + (cnts (x.cons_.map D.str) : Nat) + (cnts (x.of_.map D.int) : Nat)))), (v3, .lst (mkDs (x.funs_.map D.str) (k + (cnts (x.cons_.map D.str) : Nat) + (cnts (x.of_.map D.int) : Nat) + (cnts (x.args_.map (fun r => D.lst (r.map D.int))) : Nat))))]) (lc := [(v4, .lst (x.params_.map (fun r => D.lst (r.map D.int))))]) (Lb := [(v5, .lst (x.results_.map D.int))]) (markIntSS_ct x.params_ (by first | exact hsm.2.2.2.2.1 | exact hsm | simpa using hsm) v4 (k + (cnts (x.cons_.map D.str) : Nat) + (cnts (x.of_.map D.int) : Nat) + (cnts (x.args_.map (fun r => D.lst (r.map D.int))) : Nat) + (cnts (x.funs_.map D.str) : Nat)) (by omega) (by omega)) rfl (by simp [lendAs, lendOk]) (fun _ => rfl) fun _ _ => ?_
  simp -implicitDefEqProofs (maxSteps := 4000000) only [go_sem]
  refine call_trees (q := 0) (La := [(v0, .lst (mkDs (x.cons_.map D.str) (k))), (v1, .lst (mkDs (x.of_.map D.int) (k + (cnts (x.cons_.map D.str) : Nat)))), (v2, .lst (mkDs (x.args_.map (fun r => D.lst (r.map D.int))) (k + (cnts (x.cons_.map D.str) : Nat) + (cnts (x.of_.map D.int) : Nat)))), (v3, .lst (mkDs (x.funs_.map D.str) (k + (cnts (x.cons_.map D.str) : Nat) + (cnts (x.of_.map D.int) : Nat) + (cnts (x.args_.map (fun r => D.lst (r.map D.int))) : Nat)))), (v4, .lst (mkDs (x.params_.map (fun r => D.lst (r.map D.int))) (k + (cnts (x.cons_.map D.str) : Nat) + (cnts (x.of_.map D.int) : Nat) + (cnts (x.args_.map (fun r => D.lst (r.map D.int))) : Nat) + (cnts (x.funs_.map D.str) : Nat))))]) (lc := [(v5, .lst (x.results_.map D.int))]) (Lb := []) (markIntS_cn x.results_ (by first | exact hsm.2.2.2.2.2 | exact hsm | simpa using hsm) v5 (k + (cnts (x.cons_.map D.str) : Nat) + (cnts (x.of_.map D.int) : Nat) + (cnts (x.args_.map (fun r => D.lst (r.map D.int))) : Nat) + (cnts (x.funs_.map D.str) : Nat) + (cnts (x.params_.map (fun r => D.lst (r.map D.int))) : Nat)) (by omega) (by omega)) rfl (by simp [lendAs, lendOk]) (fun _ => rfl) fun _ _ => ?_
  simp -implicitDefEqProofs (maxSteps := 4000000) only [go_sem]
  exact end_gen hK () 1 trivial (by simp -implicitDefEqProofs (maxSteps := 4000000) only [go_sem])
theorem Sorts_cns (x : TSorts) (l : Int) (h0 : 0 ≤ l) (h : 0 ≤ x.sz l) : x.sz l ≤ l ∧ (x.E.cnt : Int) ≤ 1 + 16 * (l - x.sz l) := by
  rw [SortsCnt]
  unfold TSorts.sz at h ⊢
  obtain ⟨l1, e1, p1, s1⟩ := cn_step h
  rw [s1] at h ⊢
  obtain ⟨l2, e2, p2, s2⟩ := cn_step h
  rw [s2] at h ⊢
  obtain ⟨l3, e3, p3, s3⟩ := cn_step h
  rw [s3] at h ⊢
  obtain ⟨l4, e4, p4, s4⟩ := cn_step h
  rw [s4] at h ⊢
  obtain ⟨l5, e5, p5, s5⟩ := cn_step h
  rw [s5] at h ⊢
  obtain ⟨l6, e6, p6, s6⟩ := cn_step h
  rw [s6] at h ⊢
  simp only [szSeq] at h ⊢
  have f1 := cn_rows (f := (fun s l => l - (s.size : Int))) (E := D.str) (a := x.cons_) (fun y _ => cn_str y) l (by omega) (by rw [← e1]; omega)
  rw [← e1] at f1
  have f2 := cn_ints x.of_ l1 (by omega) (by rw [← e2]; omega)
  rw [← e2] at f2
  have f3 := cn_rows (f := szI) (E := (fun r => D.lst (r.map D.int))) (a := x.args_) (fun y _ => cn_irow y) l2 (by omega) (by rw [← e3]; omega)
  rw [← e3] at f3
  have f4 := cn_rows (f := (fun s l => l - (s.size : Int))) (E := D.str) (a := x.funs_) (fun y _ => cn_str y) l3 (by omega) (by rw [← e4]; omega)
  rw [← e4] at f4
  have f5 := cn_rows (f := szI) (E := (fun r => D.lst (r.map D.int))) (a := x.params_) (fun y _ => cn_irow y) l4 (by omega) (by rw [← e5]; omega)
  rw [← e5] at f5
  have f6 := cn_ints x.results_ l5 (by omega) (by rw [← e6]; omega)
  rw [← e6] at f6
  clear s1 e1 s2 e2 s3 e3 s4 e4 s5 e5 s6 e6
  omega
theorem Sorts_cn (x : TSorts) : Cn TSorts.sz TSorts.E x := fun l h0 h => by
  have := Sorts_cns x l h0 h
  exact ⟨this.1, by have := this.2; omega⟩
end Go.Proofs.Ytamicpfjieandaa
