/- Marks: expressions. -/
import Derived.Test.YtamicpfjieandaaMb
namespace Go.Proofs.Ytamicpfjieandaa
open Go Go.Ab
set_option linter.unusedVariables false
set_option linter.unusedSimpArgs false
set_option maxRecDepth 100000
set_option maxHeartbeats 4000000
theorem exMk (x : Ex) (k : Int) : mkD x.E k = .agg [.v (.int .i64 k), .v (.string (mk (k + 1))), .lst (mkDs (x.a.map Ex.E) (k + 2))] := by
  rw [x.E_open]
  have : k + 1 + 1 = k + 2 := by omega
  simp [mkD, mkDs, mkV, D.cnt, this]
theorem exCnt (x : Ex) : x.E.cnt = 2 + cnts (x.a.map Ex.E) := by rw [x.E_open]; simp only [D.cnt, cnts]; omega
theorem markExprS_op (a : List Ex) (v : Value) (hne : a ≠ []) (ih : ∀ x ∈ a, ∀ (r : Value) (k : Int), 0 ≤ k → k + cnts (x.a.map Ex.E) ≤ 1099511627776 → Ct Try.prog 56 [.raw r, .int k] [.forest [(r, .lst (x.a.map Ex.E))]] (fun _ : Unit => True) (fun _ => .int (k + cnts (x.a.map Ex.E))) (fun _ => [.forest [(r, .lst (mkDs (x.a.map Ex.E) k))]]))
    (hsm : a.length ≤ 1073741824) (k : Int) (h0 : 0 ≤ k) (h1 : k + cnts (a.map Ex.E) ≤ 1099511627776) (L : List A) (Ls : List (Value × D)) (ho : Opd true (a.map Ex.E) L Ls) :
    Ct Try.prog 56 [.arr 0, .int k] [.opn v 47 3 L, .forest Ls] (fun q : Unit × List A × List (Value × D) => True ∧ Opd true (mkDs (a.map Ex.E) k) q.2.1 q.2.2) (fun _ => .int (k + cnts (a.map Ex.E))) (fun q => [.opn v 47 3 q.2.1, .forest q.2.2]) := by
  refine ct_go tyOk Try.func56 rfl (by decide +kernel) Try.ntmps56 rfl (fun _ _ => by first | exact Nat.le_refl _ | exact Nat.zero_le _ | simp) ?_
  intro K hK
  simp -implicitDefEqProofs (maxSteps := 4000000) only [go_sem]
  refine loop_at tyOk [1, 5, 6, 7, 8, 9, 10, 11, 12, 13, 14, 15, 16, 17, 18, 19, 20, 21, 22, 23, 24, 25, 26, 27, 28, 29, 30, 31, 32, 33] (fun q : Nat × List A × List (Value × D) => [(0, .arr 0), (1, .int (k + cnts ((a.take q.1).map Ex.E))), (5, .int q.1)]) (fun q : Nat × List A × List (Value × D) => [.opn v 47 3 q.2.1, .forest q.2.2]) (fun q : Nat × List A × List (Value × D) => q.1 ≤ a.length ∧ Opd true (mkDs ((a.take q.1).map Ex.E) k ++ (a.map Ex.E).drop q.1) q.2.1 q.2.2) (fun q : Nat × List A × List (Value × D) => a.length - q.1) (0, L, Ls) ?_ ?_ ?_
  · exact ⟨Nat.zero_le _, by simpa [mkDs] using ho⟩
  · simp -implicitDefEqProofs (maxSteps := 4000000) only [go_sem, ho.ole, cnts, Int.add_zero, List.take_zero]
  rintro ⟨i, L', Ls'⟩ ⟨hi, ho'⟩ Lp hL
  simp only at hi ho'
  have hlen' : L'.length = a.length := by rw [← ho'.len, List.length_append, mkDs_len, List.length_map, List.length_take, List.length_drop, List.length_map]; omega
  have hwi : wr .i64 ((i : Int) + 1) = ((i + 1 : Nat) : Int) := by rw [wr_in (by omega)]; omega
  simp -implicitDefEqProofs (maxSteps := 4000000) only [go_sem, hlen']
  refine ⟨fun hlt => ?_, fun hlt => ?_⟩
  · have hi2 : i < a.length := by omega
    obtain ⟨x, hx⟩ : ∃ x, a[i]? = some x := ⟨_, List.getElem?_eq_getElem hi2⟩
    have hxE : (a.map Ex.E)[i]? = some x.E := by rw [List.getElem?_map, hx]; rfl
    have hc1 := cnts_at hxE
    have hc2 := cnts_take hxE
    rw [← List.map_take, exCnt] at hc1
    rw [← List.map_take, ← List.map_take, exCnt] at hc2
    generalize hn : cnts ((a.take i).map Ex.E) = n at *
    have hw1 : wr .i64 (k + (n : Int) + 1) = k + n + 1 := wr_in (by omega)
    have hw2 : wr .i64 (k + (n : Int) + 1 + 1) = k + n + 2 := by rw [wr_in (by omega)]; omega
    obtain ⟨La, Lb, Lsa, Lsb, cs, Lc, rfl, rfl, hLa, ha, g0, hb⟩ := ho'.at hxE (by rw [mkDs_len, List.length_map, List.length_take]; omega)
    rw [Ex.E_cells] at g0
    obtain ⟨cs1, rfl, g1⟩ := COp.inv_v g0
    obtain ⟨cs2, rfl, g2⟩ := COp.inv_v g1
    obtain ⟨r, cs3, Lc3, rfl, rfl, g3⟩ := COp.inv_lst g2
    obtain ⟨rfl, rfl⟩ := COp.inv_nil g3
    have hL2 := hlen'
    rw [List.length_append, List.length_cons] at hL2
    simp -implicitDefEqProofs (maxSteps := 4000000) only [go_sem, hlen', at_mid hLa, set_mid hLa, hwi, hw1]
    refine ⟨by omega, by omega, ?_⟩
    refine call_p (markText_ct _ (by omega)) rfl fun _ _ => ?_
    simp -implicitDefEqProofs (maxSteps := 4000000) only [go_sem, hlen', at_mid hLa, set_mid hLa, hwi, hw1, hw2]
    refine ⟨by omega, by omega, by omega, by omega, ?_⟩
    refine call_trees (q := 1) (La := Lsa) (lc := [(r, .lst (x.a.map Ex.E))]) (Lb := Lsb) (ih x (List.mem_of_getElem? hx) r (k + n + 2) (by omega) (by omega)) (by simp) (by simp [lendAs, lendOk]) (fun _ => rfl) fun _ _ => ?_
    simp -implicitDefEqProofs (maxSteps := 4000000) only [go_sem, hlen', at_mid hLa, set_mid hLa, hwi, hw1, hw2]
    have H : Opd true (mkDs ((a.take (i + 1)).map Ex.E) k ++ (a.map Ex.E).drop (i + 1)) (La ++ .agg [.int (k + n), .str (mk (k + n + 1)), .raw r] :: Lb) (Lsa ++ [(r, .lst (mkDs (x.a.map Ex.E) (k + n + 2)))] ++ Lsb) := by
      rw [take_more hx, List.map_append, mkDs_app, hn, List.append_assoc, List.append_assoc]
      show Opd true (_ ++ (mkD x.E (k + n) :: _)) _ _
      rw [exMk]
      exact ha.app (Opd.cons (ag := true) (d := .agg _) (cs := [.int (k + n), .str (mk (k + n + 1)), .raw r]) (COp.v _ (COp.v _ (COp.lst r _ .nil))) hb)
    have hk' : k + ((cnts ((a.take (i + 1)).map Ex.E) : Nat) : Int) = k + n + 2 + cnts (x.a.map Ex.E) := by rw [hc2]; omega
    exact hL _ (i + 1, La ++ .agg [.int (k + n), .str (mk (k + n + 1)), .raw r] :: Lb, Lsa ++ [(r, .lst (mkDs (x.a.map Ex.E) (k + n + 2)))] ++ Lsb) ⟨by omega, H⟩ (by simp only; omega) (by simp -implicitDefEqProofs (maxSteps := 4000000) only [go_sem, H.ole, hk'])
  · obtain rfl : i = a.length := by omega
    have H : Opd true (mkDs (a.map Ex.E) k) L' Ls' := by rw [List.drop_of_length_le (by simp), List.append_nil, List.take_length] at ho'; exact ho'
    exact end_gen hK ((), L', Ls') 2 ⟨trivial, H⟩ (by simp -implicitDefEqProofs (maxSteps := 4000000) only [go_sem, H.ole, List.take_length])
theorem markExprS_nil (k : Int) : Ct Try.prog 56 [.d (.lst []), .int k] [] (fun _ : Unit => True) (fun _ => .int k) (fun _ => []) := by
  refine ct_go tyOk Try.func56 rfl (by decide +kernel) Try.ntmps56 rfl (fun _ _ => by first | exact Nat.le_refl _ | exact Nat.zero_le _ | simp) ?_
  intro K hK
  simp -implicitDefEqProofs (maxSteps := 4000000) only [go_sem]
  refine loop_st tyOk [1, 5, 6, 7, 8, 9, 10, 11, 12, 13, 14, 15, 16, 17, 18, 19, 20, 21, 22, 23, 24, 25, 26, 27, 28, 29, 30, 31, 32, 33] (fun q : Unit => [(1, .int k), (5, .int 0)]) (fun q : Unit => True) (fun q : Unit => 0) () ?_ ?_ ?_
  · trivial
  · simp -implicitDefEqProofs (maxSteps := 4000000) only [go_sem]
  rintro _ _ Lp hL
  simp -implicitDefEqProofs (maxSteps := 4000000) only [go_sem]
  exact ⟨fun h => absurd h (by omega), fun h => end_pure hK () trivial (by simp -implicitDefEqProofs (maxSteps := 4000000) only [go_sem])⟩
theorem markExprS_row (a : List Ex) (ih : ∀ x ∈ a, ∀ (r : Value) (k : Int), 0 ≤ k → k + cnts (x.a.map Ex.E) ≤ 1099511627776 → Ct Try.prog 56 [.raw r, .int k] [.forest [(r, .lst (x.a.map Ex.E))]] (fun _ : Unit => True) (fun _ => .int (k + cnts (x.a.map Ex.E))) (fun _ => [.forest [(r, .lst (mkDs (x.a.map Ex.E) k))]]))
    (hsm : a.length ≤ 1073741824) (v : Value) (k : Int) (h0 : 0 ≤ k) (h1 : k + cnts (a.map Ex.E) ≤ 1099511627776) :
    Ct Try.prog 56 [.raw v, .int k] [.forest [(v, .lst (a.map Ex.E))]] (fun _ : Unit => True) (fun _ => .int (k + cnts (a.map Ex.E))) (fun _ => [.forest [(v, .lst (mkDs (a.map Ex.E) k))]]) := by
  by_cases hne : a = []
  · subst hne
    have := Ct.lend (l := [(v, .lst [])]) (args := [.raw v, .int k]) (markExprS_nil k) (by simp [lendAs, lendOk]) (fun _ => rfl)
    simpa [mkDs, cnts] using this
  · have hc : ∀ d ∈ a.map Ex.E, d.cells.length = 3 := Ex.flat a
    exact Ct.open (u := 47) (sz := 3) (ag := true) (l' := fun _ => mkDs (a.map Ex.E) k) (by simpa using hne) (fun d hd h => by cases h) hc (fun _ _ d hd h => by cases h) (markExprS_nil k).1 rfl (fun _ => rfl)
      fun L Ls ho => markExprS_op a v hne ih hsm k h0 h1 L Ls ho
theorem markE_all (e : Ex) : e.sm → ∀ (r : Value) (k : Int), 0 ≤ k → k + cnts (e.a.map Ex.E) ≤ 1099511627776 → Ct Try.prog 56 [.raw r, .int k] [.forest [(r, .lst (e.a.map Ex.E))]] (fun _ : Unit => True) (fun _ => .int (k + cnts (e.a.map Ex.E))) (fun _ => [.forest [(r, .lst (mkDs (e.a.map Ex.E) k))]]) := by
  induction e using Ex.ind2 with
  | h e ih =>
    intro h r k h0 h1
    have hs := e.sm_def.1 h
    exact markExprS_row e.a (fun x hx => ih x hx (hs.2.2 x hx)) (by omega) r k h0 h1
theorem markExprS_ct (a : List Ex) (hsm : a.length ≤ 1048576 ∧ ∀ y ∈ a, y.sm) (v : Value) (k : Int) (h0 : 0 ≤ k) (h1 : k + cnts (a.map Ex.E) ≤ 1099511627776) :
    Ct Try.prog 56 [.raw v, .int k] [.forest [(v, .lst (a.map Ex.E))]] (fun _ : Unit => True) (fun _ => .int (k + cnts (a.map Ex.E))) (fun _ => [.forest [(v, .lst (mkDs (a.map Ex.E) k))]]) :=
  markExprS_row a (fun x hx => markE_all x (hsm.2 x hx)) (by omega) v k h0 h1
theorem markExpr_ct (e : Ex) (hsm : e.sm) (v : Value) (k : Int) (h0 : 0 ≤ k) (h1 : k + cnts (e.a.map Ex.E) ≤ 1099511627776) :
    Ct Try.prog 72 [.agg [.int e.k, .str e.n, .raw v], .int k] [.forest [(v, .lst (e.a.map Ex.E))]] (fun _ : Unit => True) (fun _ => .int (k + cnts (e.a.map Ex.E))) (fun _ => [.forest [(v, .lst (mkDs (e.a.map Ex.E) k))]]) := by
  refine ct_go tyOk Try.func72 rfl (by decide +kernel) Try.ntmps72 rfl (fun _ _ => by first | exact Nat.le_refl _ | exact Nat.zero_le _ | simp) ?_
  intro K hK
  simp -implicitDefEqProofs (maxSteps := 4000000) only [go_sem]
  refine call_trees (q := 0) (La := []) (lc := [(v, .lst (e.a.map Ex.E))]) (Lb := []) (markE_all e hsm v k h0 h1) (by simp) (by simp [lendAs, lendOk]) (fun _ => rfl) fun _ _ => ?_
  simp -implicitDefEqProofs (maxSteps := 4000000) only [go_sem]
  exact end_gen hK () 1 trivial (by simp -implicitDefEqProofs (maxSteps := 4000000) only [go_sem])
end Go.Proofs.Ytamicpfjieandaa
