/- Marks: rows of texts. -/
import Derived.Test.YtamicpfjieandaaAbW
import Derived.Test.YtamicpfjieandaaAbTy
import Derived.Test.YtamicpfjieandaaMa
namespace Go.Proofs.Ytamicpfjieandaa
open Go Go.Ab
set_option linter.unusedVariables false
set_option linter.unusedSimpArgs false
set_option maxRecDepth 100000
set_option maxHeartbeats 4000000
theorem markStringS_op (l : List ByteArray) (v : Value) (hne : l ≠ []) (k : Int) (h0 : 0 ≤ k) (h1 : k + l.length ≤ 1099511627776) (L : List A) (Ls : List (Value × D)) (ho : Opd false (l.map D.str) L Ls) :
    Ct Try.prog 28 [.arr 0, .int k] [.opn v 9 1 L, .forest Ls] (fun q : Unit × List A × List (Value × D) => True ∧ Opd false (mkDs (l.map D.str) k) q.2.1 q.2.2) (fun _ => .int (k + l.length)) (fun q => [.opn v 9 1 q.2.1, .forest q.2.2]) := by
  refine ct_go tyOk Try.func28 rfl (by decide +kernel) Try.ntmps28 rfl (fun _ _ => by first | exact Nat.le_refl _ | exact Nat.zero_le _ | simp) ?_
  intro K hK
  have hlen : L.length = l.length := by rw [← ho.len, List.length_map]
  simp -implicitDefEqProofs (maxSteps := 4000000) only [go_sem]
  refine loop_at tyOk [1, 5, 6, 7, 8, 9, 10, 11, 12, 13, 14, 15, 16, 17, 18] (fun q : Nat × List A × List (Value × D) => [(0, .arr 0), (1, .int (k + q.1)), (5, .int q.1)]) (fun q : Nat × List A × List (Value × D) => [.opn v 9 1 q.2.1, .forest q.2.2]) (fun q : Nat × List A × List (Value × D) => q.1 ≤ l.length ∧ Opd false (mkDs ((l.take q.1).map D.str) k ++ (l.map D.str).drop q.1) q.2.1 q.2.2) (fun q : Nat × List A × List (Value × D) => l.length - q.1) (0, L, Ls) ?_ ?_ ?_
  · exact ⟨Nat.zero_le _, by simpa [mkDs] using ho⟩
  · simp -implicitDefEqProofs (maxSteps := 4000000) only [go_sem, ho.ole, Int.add_zero]
  rintro ⟨i, L', Ls'⟩ ⟨hi, ho'⟩ Lp hL
  simp only at hi ho'
  have hlen' : L'.length = l.length := by rw [← ho'.len, List.length_append, mkDs_len, List.length_map, List.length_take, List.length_drop, List.length_map]; omega
  have hwi : wr .i64 ((i : Int) + 1) = ((i + 1 : Nat) : Int) := by rw [wr_in (by omega)]; omega
  simp -implicitDefEqProofs (maxSteps := 4000000) only [go_sem, hlen']
  refine ⟨fun hlt => ?_, fun hlt => ?_⟩
  · refine call_p (markText_ct _ (by omega)) rfl fun _ _ => ?_
    have hi2 : i < l.length := by omega
    obtain ⟨La, Lb, Lsa, Lsb, cs, Lc, rfl, rfl, hLa, ha, hc, hb⟩ := ho'.at (i := i) (d := D.str l[i]) (by simp [hi2]) (by rw [mkDs_len, List.length_map, List.length_take]; omega)
    obtain ⟨as', rfl, hc1⟩ := COp.inv_v hc
    obtain ⟨rfl, rfl⟩ := COp.inv_nil hc1
    have hwk : wr .i64 (k + (i : Int) + 1) = k + ((i + 1 : Nat) : Int) := by rw [wr_in (by omega)]; omega
    have hL2 := hlen'
    rw [List.length_append, List.length_cons] at hL2
    simp -implicitDefEqProofs (maxSteps := 4000000) only [go_sem, hlen', at_mid hLa, set_mid hLa, hwi, hwk]
    have H : Opd false (mkDs ((l.take (i + 1)).map D.str) k ++ (l.map D.str).drop (i + 1)) (La ++ .str (mk (k + i)) :: Lb) (Lsa ++ Lsb) := by
      rw [take_more (x := l[i]) (by simp [hi2]), List.map_append, mkDs_app, cnts_str, List.length_take, Nat.min_eq_left hi, List.append_assoc]
      exact ha.app (Opd.cons (d := D.str (mk (k + i))) (show COp (D.str (mk (k + i))).cells _ _ from COp.v _ .nil) hb)
    refine ⟨by omega, by omega, ?_⟩
    exact hL _ (i + 1, La ++ .str (mk (k + i)) :: Lb, Lsa ++ Lsb) ⟨by omega, H⟩ (by simp only; omega) (by simp -implicitDefEqProofs (maxSteps := 4000000) only [go_sem, H.ole])
  · obtain rfl : i = l.length := by omega
    have H : Opd false (mkDs (l.map D.str) k) L' Ls' := by rw [List.drop_of_length_le (by simp), List.append_nil, List.take_length] at ho'; exact ho'
    exact end_gen hK ((), L', Ls') 2 ⟨trivial, H⟩ (by simp -implicitDefEqProofs (maxSteps := 4000000) only [go_sem, H.ole])
theorem markStringS_nil (k : Int) : Ct Try.prog 28 [.d (.lst []), .int k] [] (fun _ : Unit => True) (fun _ => .int k) (fun _ => []) := by
  refine ct_go tyOk Try.func28 rfl (by decide +kernel) Try.ntmps28 rfl (fun _ _ => by first | exact Nat.le_refl _ | exact Nat.zero_le _ | simp) ?_
  intro K hK
  simp -implicitDefEqProofs (maxSteps := 4000000) only [go_sem]
  refine loop_st tyOk [1, 5, 6, 7, 8, 9, 10, 11, 12, 13, 14, 15, 16, 17, 18] (fun q : Unit => [(1, .int k), (5, .int 0)]) (fun q : Unit => True) (fun q : Unit => 0) () ?_ ?_ ?_
  · trivial
  · simp -implicitDefEqProofs (maxSteps := 4000000) only [go_sem]
  rintro _ _ Lp hL
  simp -implicitDefEqProofs (maxSteps := 4000000) only [go_sem]
  exact ⟨fun h => absurd h (by omega), fun h => end_pure hK () trivial (by simp -implicitDefEqProofs (maxSteps := 4000000) only [go_sem])⟩
theorem markStringS_ct (l : List ByteArray) (v : Value) (k : Int) (h0 : 0 ≤ k) (h1 : k + l.length ≤ 1099511627776) : Ct Try.prog 28 [.raw v, .int k] [.forest [(v, .lst (l.map D.str))]] (fun _ : Unit => True) (fun _ => .int (k + l.length)) (fun _ => [.forest [(v, .lst (mkDs (l.map D.str) k))]]) := by
  by_cases hne : l = []
  · subst hne
    have := Ct.lend (l := [(v, .lst [])]) (args := [.raw v, .int k]) (markStringS_nil k) (by simp [lendAs, lendOk]) (fun _ => rfl)
    simpa [mkDs] using this
  · have hc : ∀ d ∈ l.map D.str, d.cells.length = 1 := fun d hd => by obtain ⟨y, _, rfl⟩ := List.mem_map.1 hd; rfl
    exact Ct.open (u := 9) (sz := 1) (ag := false) (l' := fun _ => mkDs (l.map D.str) k) (by simpa using hne) (fun d hd _ => hc d hd) hc (fun _ _ d hd _ => mkDs_cells (P := fun n => n = 1) hc k d hd) (markStringS_nil k).1 rfl (fun _ => rfl)
      fun L Ls ho => markStringS_op l v hne k h0 h1 L Ls ho
theorem markStringS_cn (l : List ByteArray) (hsm : l.length ≤ 1048576 ∧ ∀ y ∈ l, y.size ≤ 1048576) (v : Value) (k : Int) (h0 : 0 ≤ k) (h1 : k + cnts (l.map D.str) ≤ 1099511627776) : Ct Try.prog 28 [.raw v, .int k] [.forest [(v, .lst (l.map D.str))]] (fun _ : Unit => True) (fun _ => .int (k + cnts (l.map D.str))) (fun _ => [.forest [(v, .lst (mkDs (l.map D.str) k))]]) := by
  rw [cnts_str] at h1 ⊢
  exact markStringS_ct l v k h0 h1
theorem heldStringS_ct (l : List ByteArray) (k : Int) (h0 : 0 ≤ k) (h1 : k + l.length ≤ 1099511627776) : Ct Try.prog 29 [.d (.lst (mkDs (l.map D.str) k)), .int k] [] (fun _ : Unit => True) (fun _ => .int (k + l.length)) (fun _ => []) := by
  refine ct_go tyOk Try.func29 rfl (by decide +kernel) Try.ntmps29 rfl (fun _ _ => by first | exact Nat.le_refl _ | exact Nat.zero_le _ | simp) ?_
  intro K hK
  have hlen : (mkDs (l.map D.str) k).length = l.length := by rw [mkDs_len, List.length_map]
  have hflat : Flat 1 (mkDs (l.map D.str) k) := mkDs_cells (P := fun n => n = 1) (fun d hd => by obtain ⟨y, _, rfl⟩ := List.mem_map.1 hd; rfl) k
  simp -implicitDefEqProofs (maxSteps := 4000000) only [go_sem]
  refine loop_st tyOk [1, 4, 5, 6, 7, 8, 9, 10, 11, 12, 13, 14, 15, 16, 17, 18, 19, 20] (fun i : Nat => [(1, .int (k + i)), (5, .int i)]) (fun i : Nat => i ≤ l.length) (fun i : Nat => l.length - i) 0 ?_ ?_ ?_
  · exact Nat.zero_le _
  · simp -implicitDefEqProofs (maxSteps := 4000000) only [go_sem, Int.add_zero]
  rintro i hi Lp hL
  have hwi : wr .i64 ((i : Int) + 1) = ((i + 1 : Nat) : Int) := by rw [wr_in (by omega)]; omega
  have hwk : i < l.length → wr .i64 (k + (i : Int) + 1) = k + ((i + 1 : Nat) : Int) := fun _ => by rw [wr_in (by omega)]; omega
  have hat : i < l.length → (mkDs (l.map D.str) k)[i]? = some (.v (.string (mk (k + i)))) := fun h => by
    have := mkDs_at (a := l.map D.str) (k := k) (i := i) (d := D.str l[i]) (by simp [h])
    rw [← List.map_take, cnts_str, List.length_take, Nat.min_eq_left hi] at this
    exact this
  simp -implicitDefEqProofs (maxSteps := 4000000) only [go_sem, hlen, hflat]
  refine ⟨fun hlt => ?_, fun hlt => ?_⟩
  · have hlt' : i < l.length := by omega
    have hat := hat hlt'
    have hwk := hwk hlt'
    refine draw_rule tyOk (by kernel_rfl) [0, 1, 2, 3, 4, 5, 6] (by kernel_rfl) ?_
    simp -implicitDefEqProofs (maxSteps := 4000000) only [go_sem, hlen, hflat, hat]
    refine ⟨by omega, ?_⟩
    refine calm_p (markText_ct _ (by omega)) rfl fun _ _ => ?_
    simp -implicitDefEqProofs (maxSteps := 4000000) only [go_sem, hlen, hflat, hat, hwi, hwk]
    exact hL _ (i + 1) (by omega) (by omega) (by simp -implicitDefEqProofs (maxSteps := 4000000) only [go_sem])
  · obtain rfl : i = l.length := by omega
    exact end_pure hK () trivial (by simp -implicitDefEqProofs (maxSteps := 4000000) only [go_sem])
end Go.Proofs.Ytamicpfjieandaa
