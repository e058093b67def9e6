/- Maps of arities: the walks. -/
import Derived.Test.YtfmllefmfhefpaaVs
import Derived.Test.YtfmllefmfhefpaaAbMp
namespace Go.Proofs.Ytfmllefmfhefpaa
open Go Go.Ab
set_option linter.unusedVariables false
set_option linter.unusedSimpArgs false
set_option maxRecDepth 100000
set_option maxHeartbeats 4000000
abbrev mapO (m : List (ByteArray × Int)) : O := .map 0 0 (strM m)
abbrev mpBox : O := .box 141 [.mp 1]
attribute [go_sem] mapO mpBox
theorem le_strM {n m : Nat} (l : List (ByteArray × Int)) : O.le n m (.map 0 0 (strM l)) (.map 0 0 (strM l)) ↔ True := ⟨fun _ => trivial, fun _ => ⟨rfl, rfl, rfl⟩⟩
theorem intInfo : ∃ ie, Try.prog.info? 3 = some ie ∧ ie.zero = some (.int .i64 0) := by
  have hinfo : (Try.prog.info? 3).map (fun i => (i.zero, i.size, i.bytes)) = some (some (.int .i64 0), 1, 8) := by kernel_rfl
  obtain ⟨i0, hi, hz, hs, hb⟩ := Go.info_parts hinfo
  exact ⟨i0, hi, hz⟩
theorem adCl_ct (m : List (ByteArray × Int)) (x : Ex) (hx : x.sm) : Ct Try.prog 189 [.d x.E, .ref 0 0] [mpBox, mapO m] (fun _ : Unit => True) (fun _ => .unit) (fun _ => [mpBox, mapO (ad1 m x)]) := by
  refine ct_go tyOk Try.func189 rfl (by decide +kernel) Try.ntmps189 rfl (fun _ _ => by first | exact Nat.le_refl _ | exact Nat.zero_le _ | simp) ?_
  intro K hK
  have hlen := (x.sm_def.1 hx).2.1
  obtain ⟨ie, hie, hz⟩ := intInfo
  simp -implicitDefEqProofs (maxSteps := 4000000) only [go_sem]
  refine sem_lookup (k := 1) (m := m) (s := x.n) Try.underlying141 Try.underlying9 hie hz rfl rfl rfl ?_
  simp -implicitDefEqProofs (maxSteps := 4000000) only [go_sem]
  refine ⟨fun h1 => ⟨fun h2 => ?_, fun h2 => ?_⟩, fun h1 => ?_⟩
  · have hn : mget m x.n = none := by cases hm : mget m x.n with | none => rfl | some v => rw [hm] at h2; cases h2
    refine sem_mapUpdate (k := 1) (m := m) (s := x.n) (n := (x.a.length : Int)) Try.underlying141 Try.underlying9 rfl rfl rfl rfl hn ?_
    have had : ad1 m x = m ++ [(x.n, (x.a.length : Int))] := by rw [ad1, if_pos ⟨h1, hn⟩]
    simp -implicitDefEqProofs (maxSteps := 4000000) only [go_sem]
    exact end_gen hK () 2 trivial (by simp -implicitDefEqProofs (maxSteps := 4000000) only [go_sem, had, le_strM])
  · have had : ad1 m x = m := by rw [ad1, if_neg]; rintro ⟨_, h3⟩; rw [h3] at h2; cases h2
    exact end_gen hK () 2 trivial (by simp -implicitDefEqProofs (maxSteps := 4000000) only [go_sem, had, le_strM])
  · have had : ad1 m x = m := by rw [ad1, if_neg]; rintro ⟨h3, _⟩; exact h1 h3
    exact end_gen hK () 2 trivial (by simp -implicitDefEqProofs (maxSteps := 4000000) only [go_sem, had, le_strM])
theorem visitAd_ct (e : Ex) : e.sm → ∀ m : List (ByteArray × Int), Ct Try.prog 154 [.d e.E, .fn 189 [.ref 0 0]] [mpBox, mapO m] (fun _ : Unit => True) (fun _ => .unit) (fun _ => [mpBox, mapO ((nodes e).foldl ad1 m)]) := by
  induction e using Ex.ind2 with
  | h e ih =>
    intro he m
    refine ct_go tyOk Try.func154 rfl (by decide +kernel) Try.ntmps154 rfl (fun _ _ => by first | exact Nat.le_refl _ | exact Nat.zero_le _ | simp) ?_
    intro K hK
    have hlen := (e.sm_def.1 he).2.1
    have hx : ∀ x ∈ e.a, x.sm := (e.sm_def.1 he).2.2
    simp -implicitDefEqProofs (maxSteps := 4000000) only [go_sem]
    refine call_objs [0, 1] (adCl_ct m e he) (by simp -implicitDefEqProofs (maxSteps := 4000000) only [go_sem, le_strM]; decide) fun _ _ => ?_
    simp -implicitDefEqProofs (maxSteps := 4000000) only [go_sem]
    refine loop_at tyOk [5, 12, 13, 14, 15, 16, 17, 18, 19] (fun i : Nat => [(12, .int i)]) (fun i : Nat => [mpBox, mapO ((nodeS (e.a.take i)).foldl ad1 (ad1 m e)), .box 42 [.d (.v (.int .i64 e.k)), .d (.v (.string e.n)), .d (.lst (e.a.map Ex.E))]]) (fun i : Nat => i ≤ e.a.length) (fun i : Nat => e.a.length - i) 0 ?_ ?_ ?_
    · exact Nat.zero_le _
    · simp -implicitDefEqProofs (maxSteps := 4000000) only [go_sem, List.take_zero, nodeS, List.foldl_nil, le_strM]
    intro i hi L hL
    have hw : wr .i64 ((i : Int) + 1) = ((i + 1 : Nat) : Int) := by rw [wr_in (by omega)]; omega
    simp -implicitDefEqProofs (maxSteps := 4000000) only [go_sem]
    refine ⟨fun h => ⟨by omega, fun x hxi => ?_⟩, fun h => ?_⟩
    · refine call_objs [0, 1] (ih x (List.mem_of_getElem? hxi) (hx x (List.mem_of_getElem? hxi)) ((nodeS (e.a.take i)).foldl ad1 (ad1 m e))) (by simp -implicitDefEqProofs (maxSteps := 4000000) only [go_sem, le_strM]; decide) fun _ _ => ?_
      have hf : (nodes x).foldl ad1 ((nodeS (e.a.take i)).foldl ad1 (ad1 m e)) = (nodeS (e.a.take (i + 1))).foldl ad1 (ad1 m e) := by rw [nodeS_take hxi, List.foldl_append]
      simp -implicitDefEqProofs (maxSteps := 4000000) only [go_sem, hw, hf]
      exact hL _ (i + 1) (by omega) (by omega) (by simp -implicitDefEqProofs (maxSteps := 4000000) only [go_sem, le_strM])
    · obtain rfl : i = e.a.length := by omega
      have hf : (nodes e).foldl ad1 m = (nodeS e.a).foldl ad1 (ad1 m e) := by rw [nodes_def, List.foldl_cons]
      exact end_gen hK () 2 trivial (by simp -implicitDefEqProofs (maxSteps := 4000000) only [go_sem, List.take_length, hf, le_strM])
theorem addAr_ct (m : List (ByteArray × Int)) (e : Ex) (he : e.sm) : Ct Try.prog 151 [.mp 0, .d e.E] [mapO m] (fun _ : Unit => True) (fun _ => .unit) (fun _ => [mapO (adE m e)]) := by
  refine ct_go tyOk Try.func151 rfl (by decide +kernel) Try.ntmps151 rfl (fun _ _ => by first | exact Nat.le_refl _ | exact Nat.zero_le _ | simp) ?_
  intro K hK
  simp -implicitDefEqProofs (maxSteps := 4000000) only [go_sem]
  refine call_objs [1, 0] (visitAd_ct e he m) (by simp -implicitDefEqProofs (maxSteps := 4000000) only [go_sem, le_strM]; decide) fun _ _ => ?_
  simp -implicitDefEqProofs (maxSteps := 4000000) only [go_sem]
  exact end_gen hK () 1 trivial (by simp -implicitDefEqProofs (maxSteps := 4000000) only [go_sem, adE, le_strM])
theorem strM_nil : strM [] = [] := rfl
theorem arit_nil : arit [] [] = [] := rfl
theorem arit_more {l : List TRule} {i : Nat} {x : TRule} (h : l[i]? = some x) : arit [] (l.take (i + 1)) = ar1 (arit [] (l.take i)) x := by
  unfold arit
  rw [take_more h, List.foldl_append]; rfl
theorem arities_ct (p : TProgram) (h : p.sm) : Ct Try.prog 101 [.d p.E] [] (fun _ : Unit => True) (fun _ => .mp 0) (fun _ => [mapO (arit [] p.rules_)]) := by
  refine ct_go tyOk Try.func101 rfl (by decide +kernel) Try.ntmps101 rfl (fun _ _ => by first | exact Nat.le_refl _ | exact Nat.zero_le _ | simp) ?_
  intro K hK
  have hl : p.rules_.length ≤ 1048576 := by first | exact h.1 | exact h
  have hx : ∀ x ∈ p.rules_, x.sm := by first | exact h.2 | exact h
  obtain ⟨ie, hie, hz⟩ := intInfo
  simp -implicitDefEqProofs (maxSteps := 4000000) only [go_sem]
  refine sem_makeMap (kt := 0) (vt := 0) ?_
  simp -implicitDefEqProofs (maxSteps := 4000000) only [go_sem]
  refine loop_at tyOk [5, 6, 7, 12, 13, 14, 15, 16, 17, 18, 19, 20, 21, 22, 23, 24, 25, 26, 27, 28, 29, 30, 31, 32, 33, 34, 35, 36, 37, 38, 39, 40] (fun i : Nat => [(12, .int i)]) (fun i : Nat => [.box 29 [.d (.lst (p.rules_.map TRule.E))], mapO (arit [] (p.rules_.take i))]) (fun i : Nat => i ≤ p.rules_.length) (fun i : Nat => p.rules_.length - i) 0 ?_ ?_ ?_
  · exact Nat.zero_le _
  · simp -implicitDefEqProofs (maxSteps := 4000000) only [go_sem, List.take_zero, arit_nil, strM_nil]
  intro i hi L hL
  have hw : wr .i64 ((i : Int) + 1) = ((i + 1 : Nat) : Int) := by rw [wr_in (by omega)]; omega
  simp -implicitDefEqProofs (maxSteps := 4000000) only [go_sem]
  refine ⟨fun h => ⟨by omega, fun x hxi => ?_⟩, fun h => ?_⟩
  · have hxs := hx x (List.mem_of_getElem? hxi)
    have hbs : x.body_.sm := hxs.2.2.2.2
    have hm := arit_more hxi
    generalize hma : arit [] (p.rules_.take i) = m at *
    refine sem_lookup (k := 1) (m := m) (s := x.con_) Try.underlying141 Try.underlying9 hie hz rfl rfl rfl ?_
    simp -implicitDefEqProofs (maxSteps := 4000000) only [go_sem]
    have no : (¬ (x.con_ ≠ ⟨#[]⟩ ∧ mget m x.con_ = none)) → ar1 m x = adE m x.body_ := fun hno => by rw [ar1, if_neg hno]
    refine ⟨fun h1 => ⟨fun h2 => ?_, fun h2 => ?_⟩, fun h1 => ?_⟩
    · have hn : mget m x.con_ = none := by cases hg : mget m x.con_ with | none => rfl | some v => rw [hg] at h2; cases h2
      have hy : ar1 m x = adE (m ++ [(x.con_, (x.vars_.length : Int))]) x.body_ := by rw [ar1, if_pos ⟨h1, hn⟩]
      refine sem_mapUpdate (k := 1) (m := m) (s := x.con_) (n := (x.vars_.length : Int)) Try.underlying141 Try.underlying9 rfl rfl rfl rfl hn ?_
      simp -implicitDefEqProofs (maxSteps := 4000000) only [go_sem]
      refine call_objs [1] (addAr_ct (m ++ [(x.con_, (x.vars_.length : Int))]) x.body_ hbs) (by simp -implicitDefEqProofs (maxSteps := 4000000) only [go_sem, le_strM]; decide) fun _ _ => ?_
      simp -implicitDefEqProofs (maxSteps := 4000000) only [go_sem, hw]
      exact hL _ (i + 1) (by omega) (by omega) (by simp -implicitDefEqProofs (maxSteps := 4000000) only [go_sem, hm, hy])
    · have hy := no (by rintro ⟨_, h3⟩; rw [h3] at h2; cases h2)
      refine call_objs [1] (addAr_ct m x.body_ hbs) (by simp -implicitDefEqProofs (maxSteps := 4000000) only [go_sem, le_strM]; decide) fun _ _ => ?_
      simp -implicitDefEqProofs (maxSteps := 4000000) only [go_sem, hw]
      exact hL _ (i + 1) (by omega) (by omega) (by simp -implicitDefEqProofs (maxSteps := 4000000) only [go_sem, hm, hy])
    · have hy := no (by rintro ⟨h3, _⟩; exact h3 h1)
      refine call_objs [1] (addAr_ct m x.body_ hbs) (by simp -implicitDefEqProofs (maxSteps := 4000000) only [go_sem, le_strM]; decide) fun _ _ => ?_
      simp -implicitDefEqProofs (maxSteps := 4000000) only [go_sem, hw]
      exact hL _ (i + 1) (by omega) (by omega) (by simp -implicitDefEqProofs (maxSteps := 4000000) only [go_sem, hm, hy])
  · obtain rfl : i = p.rules_.length := by omega
    exact end_own hK () [1] trivial (by simp -implicitDefEqProofs (maxSteps := 4000000) only [go_sem]; rfl) (by simp -implicitDefEqProofs (maxSteps := 4000000) only [go_sem, List.take_length]) (by rfl) (by decide)
end Go.Proofs.Ytfmllefmfhefpaa
