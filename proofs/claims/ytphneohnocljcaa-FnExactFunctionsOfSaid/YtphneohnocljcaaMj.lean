/- How many marks a program takes. -/
import Derived.Test.YtphneohnocljcaaMr
namespace Go.Proofs.Ytphneohnocljcaa
open Go Go.Ab
set_option linter.unusedVariables false
set_option linter.unusedSimpArgs false
theorem seq_cnt {α : Type} {f : α → Int → Int} {E : α → D} : ∀ {a : List α}, (∀ x ∈ a, ∀ l : Int, 0 ≤ l → 0 ≤ f x l → f x l ≤ l ∧ ((E x).cnt : Int) ≤ 4 + 4 * (l - f x l)) → ∀ l : Int, 0 ≤ l → 0 ≤ szSeq (a.map f) l → szSeq (a.map f) l ≤ l ∧ (cnts (a.map E) : Int) ≤ 4 * a.length + 4 * (l - szSeq (a.map f) l)
  | [], _, l, h0, h => by simp [szSeq, cnts]
  | x :: a, hx, l, h0, h => by
    simp only [List.map_cons, szSeq] at h ⊢
    by_cases c : f x l < 0
    · rw [if_pos c] at h; omega
    rw [if_neg c] at h ⊢
    obtain ⟨h1, h2⟩ := hx x List.mem_cons_self l h0 (by omega)
    obtain ⟨h3, h4⟩ := seq_cnt (fun y hy => hx y (List.mem_cons_of_mem _ hy)) (f x l) (by omega) h
    simp only [cnts, List.length_cons]
    omega
theorem rows_cnt {α : Type} {f : α → Int → Int} {E : α → D} {a : List α} (hx : ∀ x ∈ a, ∀ l : Int, 0 ≤ l → 0 ≤ f x l → f x l ≤ l ∧ ((E x).cnt : Int) ≤ 4 + 4 * (l - f x l)) (l : Int) (h0 : 0 ≤ l) (h : 0 ≤ szL f a l) : szL f a l ≤ l ∧ (cnts (a.map E) : Int) ≤ 4 * (l - szL f a l) := by
  unfold szL at h ⊢
  by_cases c : l - (a.length : Int) < 0
  · rw [if_pos c] at h; omega
  rw [if_neg c] at h ⊢
  have := seq_cnt hx (l - a.length) (by omega) h
  omega
theorem str_len (a : List ByteArray) (l : Int) (h0 : 0 ≤ l) (h : 0 ≤ szL (fun s l => l - (s.size : Int)) a l) : szL (fun s l => l - (s.size : Int)) a l ≤ l ∧ (a.length : Int) ≤ l - szL (fun s l => l - (s.size : Int)) a l := by
  unfold szL at h ⊢
  by_cases c : l - (a.length : Int) < 0
  · rw [if_pos c] at h; omega
  rw [if_neg c] at h ⊢
  have := szSeq_le (fs := a.map fun s l => l - (s.size : Int)) (fun g hg l h => by obtain ⟨s, _, rfl⟩ := List.mem_map.1 hg; exact szB_le s l) (l - a.length) (by omega)
  omega
theorem seq_step {f : Int → Int} {r : List (Int → Int)} {l : Int} (h : 0 ≤ szSeq (f :: r) l) : ∃ m : Int, m = f l ∧ 0 ≤ m ∧ szSeq (f :: r) l = szSeq r m := by
  simp only [szSeq] at h ⊢
  by_cases c : f l < 0
  · rw [if_pos c] at h; omega
  · exact ⟨_, rfl, by omega, if_neg c⟩
theorem Rule_cnt (x : TRule) (l : Int) (h0 : 0 ≤ l) (h : 0 ≤ x.sz l) : x.sz l ≤ l ∧ (x.E.cnt : Int) ≤ 4 + 4 * (l - x.sz l) := by
  rw [RuleCnt, cnts_str, cnts_str]
  have hn := cnt_nd x.body_
  rw [exCnt] at hn
  unfold TRule.sz at h ⊢
  obtain ⟨l1, e1, p1, s1⟩ := seq_step h
  rw [s1] at h ⊢
  obtain ⟨l2, e2, p2, s2⟩ := seq_step h
  rw [s2] at h ⊢
  obtain ⟨l3, e3, p3, s3⟩ := seq_step h
  rw [s3] at h ⊢
  obtain ⟨l4, e4, p4, s4⟩ := seq_step h
  rw [s4] at h ⊢
  obtain ⟨l5, e5, p5, s5⟩ := seq_step h
  rw [s5] at h ⊢
  simp only [szSeq] at h ⊢

  have h3 := str_len x.vars_ l2 (by omega) (by rw [← e3]; omega)
  rw [← e3] at h3
  have h4 := str_len x.params_ l3 (by omega) (by rw [← e4]; omega)
  rw [← e4] at h4
  have h5 := szE_nd x.body_ l4 (by omega) (by rw [← e5]; omega)
  have h6 := szE_le x.body_ l4 (by omega)
  rw [← e5] at h5 h6
  clear s1 s2 s3 s4 s5 e3 e4 e5
  omega
theorem Program_cnt (x : TProgram) (l : Int) (h0 : 0 ≤ l) (h : 0 ≤ x.sz l) : (cnts (x.rules_.map TRule.E) : Int) ≤ 4 * l := by
  simp only [TProgram.sz, szSeq] at h
  by_cases c1 : szL TRule.sz x.rules_ l < 0
  · rw [if_pos c1] at h; omega
  have := rows_cnt (E := TRule.E) (a := x.rules_) (fun y _ l h0 h => Rule_cnt y l h0 h) l h0 (by omega)
  omega
end Go.Proofs.Ytphneohnocljcaa
