/- Trees: how often a child is named; the walks. -/
import Derived.Test.YtdeabmjffccplaaAn
namespace Go.Proofs.Ytdeabmjffccplaa
open Go Go.Ab
set_option linter.unusedVariables false
set_option linter.unusedSimpArgs false
set_option maxRecDepth 100000
set_option maxHeartbeats 4000000
noncomputable def cntI (n : Int) (l : List Int) : Nat := l.countP fun y => dq y n
noncomputable def kidsOf (l : List TNode) : List Int := l.flatMap (·.children_)
noncomputable def timesT (t : TTree) (n : Int) : Nat := cntI n (kidsOf t.nodes_)
theorem cntI_app (n : Int) (a b : List Int) : cntI n (a ++ b) = cntI n a + cntI n b := List.countP_append
theorem cntI_len (n : Int) (a : List Int) : cntI n a ≤ a.length := List.countP_le_length
theorem kidsOf_more {l : List TNode} {i : Nat} {x : TNode} (h : l[i]? = some x) : kidsOf (l.take (i + 1)) = kidsOf (l.take i) ++ x.children_ := by
  rw [take_more h, kidsOf, List.flatMap_append]; simp [kidsOf]
theorem kidsOf_len : ∀ {l : List TNode}, (∀ x ∈ l, x.children_.length ≤ 1048576) → (kidsOf l).length ≤ l.length * 1048576
  | [], _ => by simp [kidsOf]
  | x :: l, h => by
    have h1 := h x List.mem_cons_self
    have h2 := kidsOf_len (l := l) fun y hy => h y (List.mem_cons_of_mem _ hy)
    simp only [kidsOf, List.flatMap_cons, List.length_append, List.length_cons] at *
    omega
theorem kids_small {t : TTree} (h : t.sm) : ∀ x ∈ t.nodes_, x.children_.length ≤ 1048576 := fun x hx => (h.2 x hx).2.1
theorem cnt_step (n : Int) {l : List TNode} {i j : Nat} {x : TNode} {y : Int} (hy : x.children_[j]? = some y) :
    cntI n (kidsOf (l.take i) ++ x.children_.take (j + 1)) = cntI n (kidsOf (l.take i) ++ x.children_.take j) + if dq y n = true then 1 else 0 := by
  rw [cntI_app, cntI_app, cntI, cntI, cntI, countP_more _ hy]; omega
theorem cnt_small {t : TTree} (h : t.sm) (n : Int) (i j : Nat) {x : TNode} (hx : x.children_.length ≤ 1048576) : cntI n (kidsOf (t.nodes_.take i) ++ x.children_.take j) ≤ 2199023255552 := by
  have h1 := cntI_len n (kidsOf (t.nodes_.take i) ++ x.children_.take j)
  have h2 := kidsOf_len (l := t.nodes_.take i) fun y hy => kids_small h y (List.mem_of_mem_take hy)
  have h3 : (t.nodes_.take i).length ≤ 1048576 := by rw [List.length_take]; have := h.1; omega
  have h4 : (x.children_.take j).length ≤ 1048576 := by rw [List.length_take]; omega
  rw [List.length_append] at h1
  have : (t.nodes_.take i).length * 1048576 ≤ 1048576 * 1048576 := Nat.mul_le_mul_right _ h3
  omega
theorem specTimes_ct (t : TTree) (n : Int) (h : t.sm) : Ct Try.prog 52 [.d t.E, .int n] [] (fun _ : Unit => True) (fun _ => .int (timesT t n)) (fun _ => []) := by
  refine ct_go tyOk Try.func52 rfl (by decide +kernel) Try.ntmps52 rfl (fun _ _ => by first | exact Nat.le_refl _ | exact Nat.zero_le _ | simp) ?_
  intro K hK
  have h1 := h.1
  simp -implicitDefEqProofs (maxSteps := 4000000) only [go_sem]
  refine loop_st tyOk [5, 6, 7, 8, 9, 10, 11, 12, 13, 14, 15, 16, 17, 18, 19, 20, 21, 22, 23, 24, 25, 26, 27, 28, 29, 30, 31, 32, 33, 34, 35, 36, 37, 38, 39] (fun i : Nat => [(6, .int i), (5, .int (cntI n (kidsOf (t.nodes_.take i))))]) (fun i : Nat => i ≤ t.nodes_.length) (fun i : Nat => t.nodes_.length - i) 0 ?_ ?_ ?_
  · omega
  · simp -implicitDefEqProofs (maxSteps := 4000000) only [go_sem]; simp [kidsOf, cntI]
  intro i hi L hL
  simp -implicitDefEqProofs (maxSteps := 4000000) only [go_sem]
  refine ⟨fun _ => ?_, fun _ => end_pure hK () trivial (by simp -implicitDefEqProofs (maxSteps := 4000000) only [go_sem]; rw [List.take_of_length_le (by omega)]; rfl)⟩
  obtain ⟨x, hx⟩ : ∃ x, t.nodes_[i]? = some x := ⟨_, List.getElem?_eq_getElem (by omega)⟩
  have hxl := kids_small h x (List.mem_of_getElem? hx)
  refine loop_st tyOk [5, 7, 15, 16, 17, 18, 19, 20, 21, 22, 23, 24, 25, 26, 27, 28, 29, 30, 31, 32, 33, 34, 35, 36, 37, 38, 39] (fun j : Nat => [(7, .int j), (5, .int (cntI n (kidsOf (t.nodes_.take i) ++ x.children_.take j)))]) (fun j : Nat => j ≤ x.children_.length) (fun j : Nat => x.children_.length - j) 0 ?_ ?_ ?_
  · omega
  · simp -implicitDefEqProofs (maxSteps := 4000000) only [go_sem, List.take_zero, List.append_nil]
  intro j hj L2 hL2
  have hs := cnt_small h n i j hxl
  simp -implicitDefEqProofs (maxSteps := 4000000) only [go_sem, hx]
  refine ⟨by omega, fun _ => ⟨by omega, by omega, fun y hy => ?_⟩, fun _ => ?_⟩
  · refine call_p (bit_ct _) rfl fun _ _ => ?_
    have hw : wr .i64 ((cntI n (kidsOf (t.nodes_.take i) ++ x.children_.take j) : Nat) + (if decide (y = n) = true then 1 else 0)) = (cntI n (kidsOf (t.nodes_.take i) ++ x.children_.take (j + 1)) : Nat) := by
      rw [dec_dq, wr_in (by split <;> omega), cnt_step n hy]; split <;> simp
    simp -implicitDefEqProofs (maxSteps := 4000000) only [go_sem, hw]
    exact hL2 _ (j + 1) (by omega) (by omega) (by simp -implicitDefEqProofs (maxSteps := 4000000) only [go_sem, wr_succ (i := j) (by omega)])
  · obtain rfl : j = x.children_.length := by omega
    exact hL _ (i + 1) (by omega) (by omega) (by simp -implicitDefEqProofs (maxSteps := 4000000) only [go_sem, wr_succ (i := i) (by omega), List.take_length, kidsOf_more hx])
/-- True or not. -/
noncomputable def dp (p : Prop) : Bool := @decide p (Classical.propDecidable p)
theorem dp_t {p : Prop} (h : p) : dp p = true := by simp [dp, h]
theorem dp_f {p : Prop} (h : ¬ p) : dp p = false := by simp [dp, h]
theorem dp_iff {p q : Prop} (h : p ↔ q) : dp p = dp q := by simp [dp, h]
/-- Numbers of children: within bounds, and rising. -/
def kidsOk (lo hi : Int) (l : List Int) : Prop := ∀ (i : Nat) (x : Int), l[i]? = some x → (lo ≤ x ∧ x ≤ hi) ∧ ∀ y, 0 < i → l[i - 1]? = some y → y < x
theorem specChildren_ct (t : TTree) (l : List Int) (h : t.sm) (hl : l.length ≤ 1048576) : Ct Try.prog 55 [.d t.E, .d (.lst (l.map D.int))] [] (fun _ : Unit => True) (fun _ => .bool (dp (kidsOk 0 (t.nodes_.length - 1) l))) (fun _ => []) := by
  refine ct_go tyOk Try.func55 rfl (by decide +kernel) Try.ntmps55 rfl (fun _ _ => by first | exact Nat.le_refl _ | exact Nat.zero_le _ | simp) ?_
  intro K hK
  have h1 := h.1
  simp -implicitDefEqProofs (maxSteps := 4000000) only [go_sem]
  refine loop_st tyOk [4, 5, 6, 7, 8, 9, 10, 11, 12, 13, 14, 15, 16, 17, 18, 19, 20, 21, 22, 23, 24, 25, 26, 27, 28, 29, 30, 31, 32, 33, 34, 35, 36, 37] (fun i : Nat => [(5, .int i)]) (fun i : Nat => i ≤ l.length ∧ ∀ (j : Nat) (x : Int), j < i → l[j]? = some x → (0 ≤ x ∧ x ≤ t.nodes_.length - 1) ∧ ∀ y, 0 < j → l[j - 1]? = some y → y < x) (fun i : Nat => l.length - i) 0 ?_ ?_ ?_
  · exact ⟨by omega, fun j x hj => by omega⟩
  · simp -implicitDefEqProofs (maxSteps := 4000000) only [go_sem]
  rintro i ⟨hi, hb⟩ L hL
  have hw : wr .i64 ((t.nodes_.length : Int) - 1) = t.nodes_.length - 1 := wr_in (by omega)
  simp -implicitDefEqProofs (maxSteps := 4000000) only [go_sem]
  refine ⟨fun _ => ?_, fun _ => end_pure hK () trivial (by simp -implicitDefEqProofs (maxSteps := 4000000) only [go_sem]; exact (dp_t fun j x hj => hb j x (by have := (List.getElem?_eq_some_iff.1 hj).1; omega) hj).symm)⟩
  refine draw_rule tyOk (by kernel_rfl) [0, 1, 2, 3, 4, 5, 6, 7, 8, 9, 10, 11, 12, 13, 14, 15, 16, 17, 18, 19, 20, 21, 22, 23, 24, 25] (by kernel_rfl) ?_
  simp -implicitDefEqProofs (maxSteps := 4000000) only [go_sem, hw]
  refine ⟨by omega, fun x hx => ?_⟩
  have hnx : (0 ≤ x ∧ x ≤ t.nodes_.length - 1) → (∀ y, 0 < i → l[i - 1]? = some y → y < x) → ∀ (j : Nat) (z : Int), j < i + 1 → l[j]? = some z → (0 ≤ z ∧ z ≤ t.nodes_.length - 1) ∧ ∀ y, 0 < j → l[j - 1]? = some y → y < z := fun a b j z hj hz => by
    rcases Nat.lt_or_ge j i with g | g
    · exact hb j z g hz
    · obtain rfl : j = i := by omega
      obtain rfl : x = z := by rw [hx] at hz; exact Option.some.inj hz
      exact ⟨a, b⟩
  refine calm_p (specIn_ct _ _ _) rfl fun _ _ => ?_
  by_cases g : 0 < i
  · have hw1 : wr .i64 ((i : Int) - 1) = ((i - 1 : Nat) : Int) := by rw [wr_in (by omega)]; omega
    obtain ⟨y, hy⟩ : ∃ y, l[i - 1]? = some y := ⟨_, List.getElem?_eq_getElem (by omega)⟩
    have hyx : y < x → ∀ y', 0 < i → l[i - 1]? = some y' → y' < x := fun h y' _ h2 => by rw [hy] at h2; cases h2; exact h
    simp -implicitDefEqProofs (maxSteps := 4000000) only [go_sem, hx, hw1, hy]
    repeat' (first
      | (with_reducible refine ⟨fun _ => ?_, fun _ => ?_⟩)
      | (with_reducible refine ⟨by omega, ?_⟩)
      | (with_reducible intro _ _))
    all_goals first
      | omega
      | exact end_pure hK () trivial (by simp -implicitDefEqProofs (maxSteps := 4000000) only [go_sem]; exact (dp_f fun hk => by have h3 := hk i x hx; have h4 := h3.2 y g hy; omega).symm)
      | exact hL _ (i + 1) ⟨by omega, hnx (by assumption) (hyx (by omega))⟩ (by omega) (by simp -implicitDefEqProofs (maxSteps := 4000000) only [go_sem, wr_succ (i := i) (by omega)])
  · simp -implicitDefEqProofs (maxSteps := 4000000) only [go_sem, hx]
    repeat' (first
      | (with_reducible refine ⟨fun _ => ?_, fun _ => ?_⟩)
      | (with_reducible refine ⟨by omega, ?_⟩)
      | (with_reducible intro _ _))
    all_goals first
      | omega
      | exact end_pure hK () trivial (by simp -implicitDefEqProofs (maxSteps := 4000000) only [go_sem]; exact (dp_f fun hk => by have h3 := hk i x hx; omega).symm)
      | exact hL _ (i + 1) ⟨by omega, hnx (by assumption) (fun y h => absurd h g)⟩ (by omega) (by simp -implicitDefEqProofs (maxSteps := 4000000) only [go_sem, wr_succ (i := i) (by omega)])
end Go.Proofs.Ytdeabmjffccplaa
