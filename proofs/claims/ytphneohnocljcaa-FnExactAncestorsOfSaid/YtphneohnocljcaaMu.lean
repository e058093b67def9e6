/- How many marks a tree takes. -/
import Derived.Test.YtphneohnocljcaaMt
namespace Go.Proofs.Ytphneohnocljcaa
open Go Go.Ab
set_option linter.unusedVariables false
set_option linter.unusedSimpArgs false
theorem seq_cnt8 {α : Type} {f : α → Int → Int} {E : α → D} : ∀ {a : List α}, (∀ x ∈ a, ∀ l : Int, 0 ≤ l → 0 ≤ f x l → f x l ≤ l ∧ ((E x).cnt : Int) ≤ 8 + 8 * (l - f x l)) → ∀ l : Int, 0 ≤ l → 0 ≤ szSeq (a.map f) l → szSeq (a.map f) l ≤ l ∧ (cnts (a.map E) : Int) ≤ 8 * a.length + 8 * (l - szSeq (a.map f) l)
  | [], _, l, h0, h => by simp [szSeq, cnts]
  | x :: a, hx, l, h0, h => by
    simp only [List.map_cons, szSeq] at h ⊢
    by_cases c : f x l < 0
    · rw [if_pos c] at h; omega
    rw [if_neg c] at h ⊢
    obtain ⟨h1, h2⟩ := hx x List.mem_cons_self l h0 (by omega)
    obtain ⟨h3, h4⟩ := seq_cnt8 (fun y hy => hx y (List.mem_cons_of_mem _ hy)) (f x l) (by omega) h
    simp only [cnts, List.length_cons]
    omega
theorem rows_cnt8 {α : Type} {f : α → Int → Int} {E : α → D} {a : List α} (hx : ∀ x ∈ a, ∀ l : Int, 0 ≤ l → 0 ≤ f x l → f x l ≤ l ∧ ((E x).cnt : Int) ≤ 8 + 8 * (l - f x l)) (l : Int) (h0 : 0 ≤ l) (h : 0 ≤ szL f a l) : szL f a l ≤ l ∧ (cnts (a.map E) : Int) ≤ 8 * (l - szL f a l) := by
  unfold szL at h ⊢
  by_cases c : l - (a.length : Int) < 0
  · rw [if_pos c] at h; omega
  rw [if_neg c] at h ⊢
  have := seq_cnt8 hx (l - a.length) (by omega) h
  omega
theorem str_len8 (a : List ByteArray) (l : Int) (h0 : 0 ≤ l) (h : 0 ≤ szL (fun s l => l - (s.size : Int)) a l) : szL (fun s l => l - (s.size : Int)) a l ≤ l ∧ (a.length : Int) ≤ l - szL (fun s l => l - (s.size : Int)) a l := by
  unfold szL at h ⊢
  by_cases c : l - (a.length : Int) < 0
  · rw [if_pos c] at h; omega
  rw [if_neg c] at h ⊢
  have := szSeq_le (fs := a.map fun s l => l - (s.size : Int)) (fun g hg l h => by obtain ⟨s, _, rfl⟩ := List.mem_map.1 hg; exact szB_le s l) (l - a.length) (by omega)
  omega
theorem seq_step8 {f : Int → Int} {r : List (Int → Int)} {l : Int} (h : 0 ≤ szSeq (f :: r) l) : ∃ m : Int, m = f l ∧ 0 ≤ m ∧ szSeq (f :: r) l = szSeq r m := by
  simp only [szSeq] at h ⊢
  by_cases c : f l < 0
  · rw [if_pos c] at h; omega
  · exact ⟨_, rfl, by omega, if_neg c⟩
theorem int_len8 (a : List Int) (l : Int) (h0 : 0 ≤ l) (h : 0 ≤ szI a l) : szI a l ≤ l ∧ (a.length : Int) ≤ l - szI a l := by
  unfold szI at h ⊢
  by_cases c : l - (a.length : Int) < 0
  · rw [if_pos c] at h; omega
  rw [if_neg c] at h ⊢
  omega
theorem Binding_cnt8 (x : TBinding) (l : Int) (h0 : 0 ≤ l) (h : 0 ≤ x.sz l) : x.sz l ≤ l ∧ (x.E.cnt : Int) ≤ 8 + 8 * (l - x.sz l) := by
  rw [BindingCnt]
  try simp only [cnts_str, cnts_int]
  have hn := cnt_nd x.value_
  rw [exCnt] at hn
  unfold TBinding.sz at h ⊢
  obtain ⟨l1, e1, p1, s1⟩ := seq_step8 h
  rw [s1] at h ⊢
  obtain ⟨l2, e2, p2, s2⟩ := seq_step8 h
  rw [s2] at h ⊢
  simp only [szSeq] at h ⊢
  have f1 : l1 ≤ l := by rw [e1]; show l - (_ : Int) ≤ _; omega
  have f2 := szE_nd x.value_ l1 (by omega) (by rw [← e2]; omega)
  have g2 := szE_le x.value_ l1 (by omega)
  rw [← e2] at f2 g2
  clear s1 e1 s2 e2
  omega
theorem Node_cnt8 (x : TNode) (l : Int) (h0 : 0 ≤ l) (h : 0 ≤ x.sz l) : x.sz l ≤ l ∧ (x.E.cnt : Int) ≤ 8 + 8 * (l - x.sz l) := by
  rw [NodeCnt]
  try simp only [cnts_str, cnts_int]
  have hn := cnt_nd x.expr_
  rw [exCnt] at hn
  unfold TNode.sz at h ⊢
  obtain ⟨l1, e1, p1, s1⟩ := seq_step8 h
  rw [s1] at h ⊢
  obtain ⟨l2, e2, p2, s2⟩ := seq_step8 h
  rw [s2] at h ⊢
  obtain ⟨l3, e3, p3, s3⟩ := seq_step8 h
  rw [s3] at h ⊢
  obtain ⟨l4, e4, p4, s4⟩ := seq_step8 h
  rw [s4] at h ⊢
  obtain ⟨l5, e5, p5, s5⟩ := seq_step8 h
  rw [s5] at h ⊢
  obtain ⟨l6, e6, p6, s6⟩ := seq_step8 h
  rw [s6] at h ⊢
  simp only [szSeq] at h ⊢
  have f1 := szE_nd x.expr_ l (by omega) (by rw [← e1]; omega)
  have g1 := szE_le x.expr_ l (by omega)
  rw [← e1] at f1 g1
  have f2 := int_len8 x.children_ l1 (by omega) (by rw [← e2]; omega)
  rw [← e2] at f2
  have f3 : l3 ≤ l2 := by rw [e3]; show l2 - (_ : Int) ≤ _; omega
  have f4 : l4 ≤ l3 := by rw [e4]; show l3 - (_ : Int) ≤ _; omega
  have f5 := str_len8 x.vars_ l4 (by omega) (by rw [← e5]; omega)
  rw [← e5] at f5
  have f6 := rows_cnt8 (E := TBinding.E) (a := x.lets_) (fun y _ l h0 h => Binding_cnt8 y l h0 h) l5 (by omega) (by rw [← e6]; omega)
  rw [← e6] at f6
  clear s1 e1 s2 e2 s3 e3 s4 e4 s5 e5 s6 e6
  omega
theorem Tree_cnt8 (x : TTree) (l : Int) (h0 : 0 ≤ l) (h : 0 ≤ x.sz l) : (cnts (x.nodes_.map TNode.E) : Int) ≤ 8 * l := by
  simp only [TTree.sz, szSeq] at h
  by_cases c1 : szL TNode.sz x.nodes_ l < 0
  · rw [if_pos c1] at h; omega
  have := rows_cnt8 (E := TNode.E) (a := x.nodes_) (fun y _ l h0 h => Node_cnt8 y l h0 h) l h0 (by omega)
  omega
end Go.Proofs.Ytphneohnocljcaa
