/- Trees: the program's walk. -/
import Derived.Test.YtdeabmjffccplaaTb
namespace Go.Proofs.Ytdeabmjffccplaa
open Go Go.Ab
set_option linter.unusedVariables false
set_option linter.unusedSimpArgs false
set_option maxRecDepth 100000
set_option maxHeartbeats 4000000
noncomputable def metI (n : Nat) (l : List Int) : List Int := (List.range n).map fun m : Nat => (cntI (m : Int) l : Int)
noncomputable def metD (n : Nat) (l : List Int) : List D := (metI n l).map D.int
noncomputable def metR (n : Nat) (l : List Int) : List A := (metD n l).map A.d
theorem metD_drop (n k : Nat) (l : List Int) : ((metD n l).take n).drop k = ((metI n l).drop k).map D.int := by
  rw [List.take_of_length_le (by simp [metD, metI]), metD, List.map_drop]
theorem metI_len (n : Nat) (l : List Int) : (metI n l).length = n := by simp [metI]
theorem metI_get {n m : Nat} {l : List Int} (h : m < n) : (metI n l)[m]? = some (cntI (m : Int) l : Int) := by
  rw [metI, List.getElem?_map, List.getElem?_range h]; rfl
theorem metR_len (n : Nat) (l : List Int) : (metR n l).length = n := by simp [metR, metD, metI]
theorem metD_len (n : Nat) (l : List Int) : (metD n l).length = n := by simp [metD, metI]
theorem metR_zero (n : Nat) : List.replicate n (A.d (.v (.int .i64 0))) = metR n [] := by
  apply List.ext_getElem?
  intro i
  simp only [metR, metD, metI, List.getElem?_map, List.getElem?_replicate]
  by_cases h : i < n <;> simp [h, cntI]
theorem metR_get {n : Nat} {l : List Int} {c : Int} (h0 : 0 ≤ c) (h1 : c < n) : (metR n l)[c.toNat]? = some (.d (.v (.int .i64 (cntI c l)))) := by
  have : ((c.toNat : Nat) : Int) = c := by omega
  simp [metR, metD, metI, List.getElem?_range (show c.toNat < n by omega), this]
theorem metR_set {n : Nat} {l : List Int} {c : Int} (h0 : 0 ≤ c) (h1 : c < n) {v : Int} (hv : v = (cntI c l : Int) + 1) : (metR n l).set c.toNat (.d (.v (.int .i64 v))) = metR n (l ++ [c]) := by
  apply List.ext_getElem?
  intro i
  rw [List.getElem?_set]
  simp only [metR, metD, metI, List.getElem?_map, List.length_map, List.length_range]
  by_cases hi : i < n
  · simp only [List.getElem?_range hi, Option.map_some]
    by_cases hc : c.toNat = i
    · subst hc
      have e : ((c.toNat : Nat) : Int) = c := by omega
      rw [if_pos rfl, if_pos hi]
      simp only [e, cntI_app]
      simp [cntI, dq_self, hv]
    · rw [if_neg hc]
      have e : dq c (i : Int) = false := dq_ne fun h => hc (by omega)
      simp only [cntI_app]
      simp [cntI, e]
  · have h2 : (List.range n)[i]? = none := List.getElem?_eq_none (by simp; omega)
    rw [h2]
    by_cases hc : c.toNat = i
    · omega
    · rw [if_neg hc]; rfl
theorem metR_le {n m : Nat} {u : TypeId} {sz k : Nat} {l : List Int} : O.le n m (.row u sz (metR k l)) (.row u sz (metR k l)) ↔ True := ⟨fun _ => trivial, fun _ => ole_rowd rfl⟩
theorem kidsOf_nil : kidsOf [] = [] := rfl
attribute [go_sem] metR_le metR_len kidsOf_nil
def kidI (t : TTree) (i : Nat) (l : List Int) (q : Nat) (c : Int) : Prop := (1 ≤ c ∧ c ≤ t.nodes_.length - 1) ∧ (∀ y, 0 < q → l[q - 1]? = some y → y < c) ∧ par t c = i
def nodeI (t : TTree) (i : Nat) (x : TNode) : Prop :=
  (i = 0 → x.parent_ = -1) ∧ (0 < i → 0 ≤ x.parent_ ∧ x.parent_ ≤ (i : Int) - 1) ∧ (∀ q c, x.children_[q]? = some c → kidI t i x.children_ q c) ∧ backOk t i x
def implTree (t : TTree) : Prop := (∀ i x, t.nodes_[i]? = some x → nodeI t i x) ∧ (∀ m : Nat, 1 ≤ m → m < t.nodes_.length → (timesT t m : Int) = 1) ∧ 0 < t.nodes_.length
theorem implIsTree_ct (t : TTree) (h : t.sm) : Ct Try.prog 22 [.d t.E] [] (fun _ : Unit => True) (fun _ => .bool (dp (implTree t))) (fun _ => []) := by
  refine ct_go tyOk Try.func22 rfl (by decide +kernel) Try.ntmps22 rfl (fun _ _ => by first | exact Nat.le_refl _ | exact Nat.zero_le _ | simp) ?_
  intro K hK
  have h1 := h.1
  simp -implicitDefEqProofs (maxSteps := 4000000) only [go_sem, metR_zero]
  refine ⟨by omega, by omega, ?_⟩
  refine loop_at tyOk [2, 5, 6, 7, 8, 19, 20, 21, 22, 23, 24, 25, 26, 27, 28, 29, 30, 31, 32, 33, 34, 35, 36, 37, 38, 39, 40, 41, 42, 43, 44, 45, 46, 47, 48, 49, 50, 51, 52, 53, 54, 55, 56, 57, 58, 59, 60, 61, 62, 63, 64, 65, 66, 67, 68, 69, 70, 71, 72, 73, 74, 75, 76, 77, 78, 79, 80, 81, 82, 83, 84, 85, 86, 87, 88, 89, 90, 91, 92, 93, 94, 95, 96, 97, 98, 99, 100, 101, 102, 103, 104, 105, 106, 107, 108, 109] (fun i : Nat => [(19, .int i)]) (fun i : Nat => [.box 49 [.d (.lst (t.nodes_.map TNode.E))], .row 3 1 (metR t.nodes_.length (kidsOf (t.nodes_.take i)))]) (fun i : Nat => i ≤ t.nodes_.length ∧ ∀ (j : Nat) x, j < i → t.nodes_[j]? = some x → nodeI t j x) (fun i : Nat => t.nodes_.length - i) 0 ?_ ?_ ?_
  · exact ⟨by omega, fun j x hj => by omega⟩
  · simp -implicitDefEqProofs (maxSteps := 4000000) only [go_sem]
  rintro i ⟨hi, hb⟩ L hL
  have hw1 : wr .i64 ((i : Int) - 1) = (i : Int) - 1 := wr_in (by omega)
  simp -implicitDefEqProofs (maxSteps := 4000000) only [go_sem, hw1]
  refine ⟨fun _ => ⟨by omega, fun x hx => ?_⟩, fun _ => ?_⟩
  · have hs := h.2 x (List.mem_of_getElem? hx)
    have hc := hs.2.1
    have hno : ¬ nodeI t i x → ¬ implTree t := fun a b => a (b.1 i x hx)
    have hyes : nodeI t i x → ∀ (j : Nat) z, j < i + 1 → t.nodes_[j]? = some z → nodeI t j z := fun a j z hj hz => by
      rcases Nat.lt_or_ge j i with g | g
      · exact hb j z g hz
      · obtain rfl : j = i := by omega
        obtain rfl : x = z := by rw [hx] at hz; exact Option.some.inj hz
        exact a
    have hanc : (ancR t i).length ≤ 1073741824 := by rw [ancR]; split; have := anc_len t i; omega; simp
    have hwn : wr .i64 ((t.nodes_.length : Int) - 1) = (t.nodes_.length : Int) - 1 := wr_in (by omega)
    repeat' (first
      | (with_reducible refine ⟨fun _ => ?_, fun _ => ?_⟩)
      | (with_reducible refine ⟨by omega, ?_⟩)
      | (with_reducible intro _ _)
      | (refine call_p (implIn_ct _ _ _) rfl fun _ _ => ?_; simp -implicitDefEqProofs (maxSteps := 4000000) only [go_sem, hw1])
      | (refine calm_p (implIn_ct _ _ _) rfl fun _ _ => ?_; simp -implicitDefEqProofs (maxSteps := 4000000) only [go_sem, hw1]))
    all_goals first
      | omega
      | exact end_pure hK () trivial (by simp -implicitDefEqProofs (maxSteps := 4000000) only [go_sem]; exact (dp_f (hno (by clear hK hL hyes hno hb hanc; simp only [nodeI]; grind))).symm)
      | skip
    all_goals
      have hpar : (i = 0 → x.parent_ = -1) ∧ (0 < i → 0 ≤ x.parent_ ∧ x.parent_ ≤ (i : Int) - 1) := by
        clear hK hL hyes hno hb hanc
        constructor <;> intro g <;> omega
      refine loop_at tyOk [2, 7, 8, 46, 47, 48, 49, 50, 51, 52, 53, 54, 55, 56, 57, 58, 59, 60, 61, 62, 63, 64, 65, 66, 67, 68, 69, 70, 71, 72, 73, 74, 75, 76, 77, 78, 79, 80, 81, 82, 83, 84, 85, 86] (fun j : Nat => [(46, .int j)]) (fun j : Nat => [.box 49 [.d (.lst (t.nodes_.map TNode.E))], .row 3 1 (metR t.nodes_.length (kidsOf (t.nodes_.take i) ++ x.children_.take j)), .box 84 [.d (.v (.int .i64 x.kind_)), .d (.v (.int .i64 x.expr_.k)), .d (.v (.string x.expr_.n)), .d (.lst (x.expr_.a.map Ex.E)), .d (.v (.int .i64 x.parent_)), .d (.lst (x.children_.map D.int)), .d (.v (.string x.var_)), .d (.v (.string x.con_)), .d (.lst (x.vars_.map D.str)), .d (.lst (x.lets_.map TBinding.E)), .d (.v (.int .i64 x.back_))]]) (fun j : Nat => j ≤ x.children_.length ∧ ∀ (q : Nat) c, q < j → x.children_[q]? = some c → kidI t i x.children_ q c) (fun j : Nat => x.children_.length - j) 0 ?_ ?_ ?_
      · exact ⟨by omega, fun j x hj => by omega⟩
      · simp -implicitDefEqProofs (maxSteps := 4000000) only [go_sem, List.append_nil]
      rintro j ⟨hj, hkb⟩ L2 hL2
      simp -implicitDefEqProofs (maxSteps := 4000000) only [go_sem, hwn]
      refine ⟨fun _ => ⟨by omega, fun c hcx => ?_⟩, fun _ => ?_⟩
      · have hcnt := cnt_small h c i j hc
        have hyes2 : kidI t i x.children_ j c → ∀ (q : Nat) z, q < j + 1 → x.children_[q]? = some z → kidI t i x.children_ q z := fun a q z hq hz => by
          rcases Nat.lt_or_ge q j with g | g
          · exact hkb q z g hz
          · obtain rfl : q = j := by omega
            obtain rfl : c = z := by rw [hcx] at hz; exact Option.some.inj hz
            exact a
        refine call_p (implIn_ct _ _ _) rfl fun _ _ => ?_
        by_cases hr : 1 ≤ c ∧ c ≤ (t.nodes_.length : Int) - 1
        · have hr2 : decide (1 ≤ c ∧ c ≤ (t.nodes_.length : Int) - 1) = true := decide_eq_true hr
          have hget := metR_get (n := t.nodes_.length) (l := kidsOf (t.nodes_.take i) ++ x.children_.take j) (c := c) (by omega) (by omega)
          have hset := metR_set (n := t.nodes_.length) (l := kidsOf (t.nodes_.take i) ++ x.children_.take j) (c := c) (by omega) (by omega) rfl
          have hwm : wr .i64 ((cntI c (kidsOf (t.nodes_.take i) ++ x.children_.take j) : Int) + 1) = (cntI c (kidsOf (t.nodes_.take i) ++ x.children_.take j) : Int) + 1 := wr_in (by omega)
          by_cases g : 0 < j
          · have hw3 : wr .i64 ((j : Int) - 1) = ((j - 1 : Nat) : Int) := by rw [wr_in (by omega)]; omega
            obtain ⟨y, hy⟩ : ∃ y, x.children_[j - 1]? = some y := ⟨_, List.getElem?_eq_getElem (by omega)⟩
            simp -implicitDefEqProofs (maxSteps := 4000000) only [go_sem, hr2, hw3, hy, hget, hset, hwm]
            repeat' (first
              | (with_reducible refine ⟨fun _ => ?_, fun _ => ?_⟩)
              | (with_reducible refine ⟨by omega, ?_⟩)
              | (with_reducible intro _ _))
            all_goals first
              | omega
              | exact end_pure hK () trivial (by simp -implicitDefEqProofs (maxSteps := 4000000) only [go_sem]; exact (dp_f (hno fun a => by
                  have h3 := a.2.2.1 j c hcx
                  have h4 := h3.2.2
                  have h6 := h3.2.1 y g hy
                  first | omega | (rw [par_at (by assumption)] at h4; omega))).symm)
              | exact hL2 _ (j + 1) ⟨by omega, hyes2 ⟨hr, fun y' _ hy' => by rw [hy] at hy'; cases hy'; omega, (par_at (by assumption)).trans (by assumption)⟩⟩ (by omega) (by simp -implicitDefEqProofs (maxSteps := 4000000) only [go_sem, wr_succ (i := j) (by omega), take_more hcx, ← List.append_assoc])
          · simp -implicitDefEqProofs (maxSteps := 4000000) only [go_sem, hr2, hget, hset, hwm]
            repeat' (first
              | (with_reducible refine ⟨fun _ => ?_, fun _ => ?_⟩)
              | (with_reducible refine ⟨by omega, ?_⟩)
              | (with_reducible intro _ _))
            all_goals first
              | omega
              | exact end_pure hK () trivial (by simp -implicitDefEqProofs (maxSteps := 4000000) only [go_sem]; exact (dp_f (hno fun a => by
                  have h3 := a.2.2.1 j c hcx
                  have h4 := h3.2.2
                  first | omega | (rw [par_at (by assumption)] at h4; omega))).symm)
              | exact hL2 _ (j + 1) ⟨by omega, hyes2 ⟨hr, fun y' h2 _ => absurd h2 g, (par_at (by assumption)).trans (by assumption)⟩⟩ (by omega) (by simp -implicitDefEqProofs (maxSteps := 4000000) only [go_sem, wr_succ (i := j) (by omega), take_more hcx, ← List.append_assoc])
        · have hr2 : decide (1 ≤ c ∧ c ≤ (t.nodes_.length : Int) - 1) = false := decide_eq_false hr
          simp -implicitDefEqProofs (maxSteps := 4000000) only [go_sem, hr2]
          exact end_pure hK () trivial (by simp -implicitDefEqProofs (maxSteps := 4000000) only [go_sem]; exact (dp_f (hno fun a => hr (a.2.2.1 j c hcx).1)).symm)
      · have hkids : ∀ q c, x.children_[q]? = some c → kidI t i x.children_ q c := fun q c hq => hkb q c (by have := (List.getElem?_eq_some_iff.1 hq).1; omega) hq
        obtain rfl : j = x.children_.length := by omega
        repeat' (first
          | (with_reducible refine ⟨fun _ => ?_, fun _ => ?_⟩)
          | (with_reducible refine ⟨by omega, ?_⟩)
          | (with_reducible intro _ _)
          | (refine call_p ((implAnc_ct _ _ h).dat) rfl fun _ _ => ?_; simp -implicitDefEqProofs (maxSteps := 4000000) only [go_sem])
          | (refine calm_p ((implAnc_ct _ _ h).dat) rfl fun _ _ => ?_; simp -implicitDefEqProofs (maxSteps := 4000000) only [go_sem])
          | (refine call_p (sHasI_ct _ _ hanc) rfl fun _ _ => ?_; simp -implicitDefEqProofs (maxSteps := 4000000) only [go_sem])
          | (refine calm_p (sHasI_ct _ _ hanc) rfl fun _ _ => ?_; simp -implicitDefEqProofs (maxSteps := 4000000) only [go_sem])
          | (refine draw_rule tyOk (by kernel_rfl) [0, 1, 2, 3, 4, 5, 6, 7, 8, 9, 10, 11, 12, 13, 14, 16, 17, 15, 18, 19, 20, 21] (by decide +kernel) ?_; simp -implicitDefEqProofs (maxSteps := 4000000) only [go_sem]))
        all_goals first
          | omega
          | exact end_pure hK () trivial (by simp -implicitDefEqProofs (maxSteps := 4000000) only [go_sem]; exact (dp_f (hno (by clear hK hL hyes hno hb hanc hL2; simp only [nodeI, backOk]; grind))).symm)
          | exact hL _ (i + 1) ⟨by omega, hyes ⟨hpar.1, hpar.2, hkids, by clear hK hL hyes hno hb hanc hL2; simp only [backOk]; grind⟩⟩ (by omega) (by simp -implicitDefEqProofs (maxSteps := 4000000) only [go_sem, wr_succ (i := i) (by omega), kidsOf_more hx, List.take_length])
  · obtain rfl : i = t.nodes_.length := by omega
    have hall : ∀ i x, t.nodes_[i]? = some x → nodeI t i x := fun j x hj => hb j x (by have := (List.getElem?_eq_some_iff.1 hj).1; omega) hj
    have hlo : (if (t.nodes_.length : Int) < 1 then (t.nodes_.length : Int) else 1) = ((min 1 t.nodes_.length : Nat) : Int) := by split <;> omega
    rw [List.take_length]
    refine sem_pub tyOk (k := 1) (q := metD t.nodes_.length (kidsOf t.nodes_)) rfl (toEs_map _) ?_
    simp -implicitDefEqProofs (maxSteps := 4000000) only [go_sem, hlo, metD_len, metD_drop]
    have hM : ((metI t.nodes_.length (kidsOf t.nodes_)).drop (min 1 t.nodes_.length)).length = t.nodes_.length - min 1 t.nodes_.length := by rw [List.length_drop, metI_len]
    refine ⟨by omega, flat_int _, ?_⟩
    refine loop_st tyOk [2, 10, 115, 116, 117, 118, 119, 120, 121] (fun q : Nat => [(115, .int q)]) (fun q : Nat => q ≤ t.nodes_.length - min 1 t.nodes_.length ∧ ∀ m, min 1 t.nodes_.length ≤ m → m < min 1 t.nodes_.length + q → (timesT t m : Int) = 1) (fun q : Nat => t.nodes_.length - min 1 t.nodes_.length - q) 0 ?_ ?_ ?_
    · exact ⟨by omega, fun m h1 h2 => by omega⟩
    · simp -implicitDefEqProofs (maxSteps := 4000000) only [go_sem]
    rintro q ⟨hq, hqb⟩ L2 hL2
    simp -implicitDefEqProofs (maxSteps := 4000000) only [go_sem, hM]
    refine ⟨fun _ => ⟨by omega, fun e he => ?_⟩, fun _ => end_pure hK () trivial ?_⟩
    · rw [List.getElem?_drop, metI_get (by omega)] at he
      obtain rfl := Option.some.inj he
      refine ⟨fun g => end_pure hK () trivial (by simp -implicitDefEqProofs (maxSteps := 4000000) only [go_sem]; exact (dp_f fun hk => g (hk.2.1 _ (by omega) (by omega))).symm), fun g => ?_⟩
      refine hL2 _ (q + 1) ⟨by omega, fun m h1 h2 => ?_⟩ (by omega) (by simp -implicitDefEqProofs (maxSteps := 4000000) only [go_sem, wr_succ (i := q) (by omega), hM])
      rcases Nat.lt_or_ge m (min 1 t.nodes_.length + q) with g2 | g2
      · exact hqb m h1 g2
      · obtain rfl : m = min 1 t.nodes_.length + q := by omega
        exact g
    · simp -implicitDefEqProofs (maxSteps := 4000000) only [go_sem]
      rcases Nat.eq_zero_or_pos t.nodes_.length with g | g
      · rw [dp_f fun hk => by have := hk.2.2; omega]; simp [g]
      · rw [dp_t ⟨hall, fun m h1 h2 => hqb m (by omega) (by omega), g⟩]; simp; omega
/-- The law: both tell the same. -/
theorem cnt_two {n : Int} {a b : List Int} (h : cntI n (a ++ b) = 1) (h1 : n ∈ b) : n ∉ a := fun h2 => by
  have e1 : 0 < cntI n a := List.countP_pos_iff.2 ⟨n, h2, dq_self n⟩
  have e2 : 0 < cntI n b := List.countP_pos_iff.2 ⟨n, h1, dq_self n⟩
  rw [cntI_app] at h; omega
theorem kidsOf_app (a b : List TNode) : kidsOf (a ++ b) = kidsOf a ++ kidsOf b := by simp [kidsOf]
theorem kids_in {l : List TNode} {i : Nat} {x : TNode} {c : Int} (h : l[i]? = some x) (hc : c ∈ x.children_) : c ∈ kidsOf l := by
  rw [kidsOf, List.mem_flatMap]; exact ⟨x, List.mem_of_getElem? h, hc⟩
/-- Named once: named by one node. -/
theorem one_owner {l : List TNode} {i j : Nat} {x y : TNode} {c : Int} (h : cntI c (kidsOf l) = 1) (hx : l[i]? = some x) (hy : l[j]? = some y) (h1 : c ∈ x.children_) (h2 : c ∈ y.children_) : i = j := by
  have key : ∀ {i j : Nat} {x y : TNode}, l[i]? = some x → l[j]? = some y → c ∈ x.children_ → c ∈ y.children_ → ¬ i < j := fun {i j x y} hx hy h1 h2 hij => by
    have e : l = l.take j ++ l.drop j := (List.take_append_drop j l).symm
    rw [e, kidsOf_app] at h
    refine cnt_two h (kids_in (i := 0) (x := y) (by rw [List.getElem?_drop]; simpa using hy) h2) (kids_in (i := i) (x := x) (by rw [List.getElem?_take, if_pos hij]; exact hx) h1)
  have := key hx hy h1 h2
  have := key hy hx h2 h1
  omega
theorem tree_law (t : TTree) : specTree t ↔ implTree t := by
  constructor
  · rintro ⟨h0, h1, h2, h3⟩
    refine ⟨fun i x hx => ?_, fun m hm1 hm2 => ?_, by omega⟩
    · obtain ⟨a, b, c⟩ := h3 i x hx
      refine ⟨fun hi => by subst hi; exact h1 x hx, fun hi => (a hi).1, fun q z hz => ?_, c⟩
      have hb := b q z hz
      have hzm : z ∈ x.children_ := List.mem_of_getElem? hz
      have hz0 : z ≠ 0 := fun e => by
        subst e
        have : 0 < timesT t 0 := List.countP_pos_iff.2 ⟨0, kids_in hx hzm, dq_self _⟩
        omega
      refine ⟨by omega, hb.2, ?_⟩
      obtain ⟨y, hy⟩ : ∃ y, t.nodes_[z.toNat]? = some y := ⟨_, List.getElem?_eq_getElem (by omega)⟩
      obtain ⟨a', _, _⟩ := h3 z.toNat y hy
      obtain ⟨r1, r2, r3⟩ := a' (by omega)
      have ez : ((z.toNat : Nat) : Int) = z := by omega
      rw [ez] at r1 r2 r3
      obtain ⟨p, hp⟩ : ∃ p, t.nodes_[y.parent_.toNat]? = some p := ⟨_, List.getElem?_eq_getElem (by have := (List.getElem?_eq_some_iff.1 hy).1; omega)⟩
      have := one_owner (c := z) (by rw [timesT] at r2; omega) hx hp hzm (r3 p hp)
      rw [par_at hy]; omega
    · obtain ⟨y, hy⟩ : ∃ y, t.nodes_[m]? = some y := ⟨_, List.getElem?_eq_getElem hm2⟩
      exact ((h3 m y hy).1 (by omega)).2.1
  · rintro ⟨h1, h2, h3⟩
    have hmem : ∀ c, c ∈ kidsOf t.nodes_ → ∃ (i q : Nat) (x : TNode), t.nodes_[i]? = some x ∧ x.children_[q]? = some c := fun c hc => by
      rw [kidsOf, List.mem_flatMap] at hc
      obtain ⟨x, hx, hc⟩ := hc
      obtain ⟨i, hi⟩ := List.mem_iff_getElem?.1 hx
      obtain ⟨q, hq⟩ := List.mem_iff_getElem?.1 hc
      exact ⟨i, q, x, hi, hq⟩
    refine ⟨by omega, fun x hx => (h1 0 x hx).1 rfl, ?_, fun k x hx => ?_⟩
    · rcases Nat.eq_zero_or_pos (timesT t 0) with g | g
      · omega
      · obtain ⟨c, hc, e⟩ := List.countP_pos_iff.1 g
        obtain rfl := dq_t.1 e
        obtain ⟨i, q, x, hi, hq⟩ := hmem _ hc
        have := ((h1 i x hi).2.2.1 q _ hq).1
        omega
    · obtain ⟨a, b, c, d⟩ := h1 k x hx
      refine ⟨fun hk => ⟨b hk, ?_, fun p hp => ?_⟩, fun q z hz => ?_, d⟩
      · exact h2 k (by omega) (List.getElem?_eq_some_iff.1 hx).1
      · have e := h2 k (by omega) (List.getElem?_eq_some_iff.1 hx).1
        have g : 0 < timesT t k := by omega
        obtain ⟨c', hc, e'⟩ := List.countP_pos_iff.1 g
        obtain rfl := dq_t.1 e'
        obtain ⟨i, q, y, hi, hq⟩ := hmem _ hc
        have h5 := ((h1 i y hi).2.2.1 q _ hq).2.2
        rw [par_at (x := x) (by simpa using hx)] at h5
        have : x.parent_.toNat = i := by omega
        rw [this, hi] at hp
        cases hp
        exact List.mem_of_getElem? hq
      · have h5 := c q z hz
        exact ⟨by have := h5.1; omega, h5.2.1⟩
theorem implIsTree_ct' (t : TTree) (h : t.sm) : Ct Try.prog 22 [.d t.E] [] (fun _ : Unit => True) (fun _ => .bool (dp (specTree t))) (fun _ => []) := by
  rw [dp_iff (tree_law t)]; exact implIsTree_ct t h
end Go.Proofs.Ytdeabmjffccplaa
