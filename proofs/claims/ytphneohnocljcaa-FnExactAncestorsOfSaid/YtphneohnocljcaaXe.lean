/- What arguments hold, as plain data. Printed by gen.py. -/
import Derived.Test.YtphneohnocljcaaAbW
import Derived.Test.YtphneohnocljcaaAbY
namespace Go.Proofs.Ytphneohnocljcaa
open Go Go.Ab
set_option linter.unusedVariables false
theorem of_Expr {x : D} (h : TDx Try.prog 24 x) : ∃ v : Ex, x = v.E ∧ v.ok := ex_of Try.underlying24 Try.underlying22 Try.underlying3 Try.underlying9 rfl rfl rfl _ x (Nat.lt_succ_self _) h
theorem cells_Expr {l : List D} (h : TD Try.prog 24 l) : ∃ v : Ex, l = [.v (.int .i64 v.k), .v (.string v.n), .lst (v.a.map Ex.E)] ∧ v.ok := by
  obtain ⟨v, e, hv⟩ := of_Expr (.agg _ _ l Try.underlying24 h)
  rw [v.E_open] at e
  exact ⟨v, by injection e, hv⟩
theorem sl_String {m : List D} (h : ∀ x ∈ m, TDx Try.prog 9 x) : ∃ a : List ByteArray, m = a.map D.str ∧ ∀ y ∈ a, y.size ≤ 9223372036854775807 :=
  choose_row D.str (fun y : ByteArray => y.size ≤ 9223372036854775807) m fun x hx => by
    obtain ⟨s, h1, h2⟩ := (h x hx).str_ Try.underlying9
    exact ⟨s, h1, by simpa [maxLen] using h2⟩
theorem cells_Rule {l : List D} (h : TD Try.prog 52 l) : ∃ v : TRule, l = v.E.cells ∧ v.ok := by
  have hf := h.st_ Try.underlying52
  obtain ⟨l0, r0, rfl, t0, hf⟩ := TDf.cons_ hf
  obtain ⟨l1, r1, rfl, t1, hf⟩ := TDf.cons_ hf
  obtain ⟨l2, r2, rfl, t2, hf⟩ := TDf.cons_ hf
  obtain ⟨l3, r3, rfl, t3, hf⟩ := TDf.cons_ hf
  obtain ⟨l4, r4, rfl, t4, hf⟩ := TDf.cons_ hf
  obtain rfl := hf.nil_
  obtain ⟨v0, rfl, s0⟩ := t0.str_ Try.underlying9
  obtain ⟨v1, rfl, s1⟩ := t1.str_ Try.underlying9
  obtain ⟨m2, rfl, n2, e2⟩ := t2.slc_ Try.underlying26
  obtain ⟨v2, rfl, s2⟩ := sl_String e2
  obtain ⟨m3, rfl, n3, e3⟩ := t3.slc_ Try.underlying26
  obtain ⟨v3, rfl, s3⟩ := sl_String e3
  obtain ⟨v4, rfl, s4⟩ := cells_Expr t4
  exact ⟨⟨v0, v1, v2, v3, v4⟩, rfl, ⟨by simpa [maxLen] using s0, by simpa [maxLen] using s1, ⟨by simpa [maxLen] using n2, s2⟩, ⟨by simpa [maxLen] using n3, s3⟩, s4⟩⟩
theorem of_Rule {x : D} (h : TDx Try.prog 52 x) : ∃ v : TRule, x = v.E ∧ v.ok := by
  obtain ⟨l, rfl, hf⟩ := h.ag Try.underlying52
  obtain ⟨v, rfl, hv⟩ := cells_Rule hf
  exact ⟨v, rfl, hv⟩
theorem sl_Rule {m : List D} (h : ∀ x ∈ m, TDx Try.prog 52 x) : ∃ a : List TRule, m = a.map TRule.E ∧ ∀ y ∈ a, y.ok :=
  choose_row TRule.E (fun y : TRule => y.ok) m fun x hx => by
    exact of_Rule (h x hx)
theorem cells_Program {l : List D} (h : TD Try.prog 39 l) : ∃ v : TProgram, l = v.E.cells ∧ v.ok := by
  have hf := h.st_ Try.underlying39
  obtain ⟨l0, r0, rfl, t0, hf⟩ := TDf.cons_ hf
  obtain rfl := hf.nil_
  obtain ⟨m0, rfl, n0, e0⟩ := t0.slc_ Try.underlying37
  obtain ⟨v0, rfl, s0⟩ := sl_Rule e0
  exact ⟨⟨v0⟩, rfl, ⟨by simpa [maxLen] using n0, s0⟩⟩
theorem of_Program {x : D} (h : TDx Try.prog 39 x) : ∃ v : TProgram, x = v.E ∧ v.ok := by
  obtain ⟨l, rfl, hf⟩ := h.ag Try.underlying39
  obtain ⟨v, rfl, hv⟩ := cells_Program hf
  exact ⟨v, rfl, hv⟩
theorem sl_Int {m : List D} (h : ∀ x ∈ m, TDx Try.prog 3 x) : ∃ a : List Int, m = a.map D.int ∧ ∀ y ∈ a, True :=
  choose_row D.int (fun y : Int => True) m fun x hx => by
    obtain ⟨s, h1, _⟩ := (h x hx).int_ Try.underlying3
    exact ⟨s, h1, trivial⟩
theorem sl_IntS {m : List D} (h : ∀ x ∈ m, TDx Try.prog 61 x) : ∃ a : List (List Int), m = a.map (fun r => D.lst (r.map D.int)) ∧ ∀ y ∈ a, y.length ≤ 9223372036854775807 :=
  choose_row (fun r => D.lst (r.map D.int)) (fun y : List Int => y.length ≤ 9223372036854775807) m fun x hx => by
    obtain ⟨q, rfl, h1, h2⟩ := (h x hx).slc_ Try.underlying61
    obtain ⟨a, rfl, h3⟩ := sl_Int h2
    exact ⟨a, rfl, by simpa [maxLen] using h1⟩
theorem cells_Sorts {l : List D} (h : TD Try.prog 64 l) : ∃ v : TSorts, l = v.E.cells ∧ v.ok := by
  have hf := h.st_ Try.underlying64
  obtain ⟨l0, r0, rfl, t0, hf⟩ := TDf.cons_ hf
  obtain ⟨l1, r1, rfl, t1, hf⟩ := TDf.cons_ hf
  obtain ⟨l2, r2, rfl, t2, hf⟩ := TDf.cons_ hf
  obtain ⟨l3, r3, rfl, t3, hf⟩ := TDf.cons_ hf
  obtain ⟨l4, r4, rfl, t4, hf⟩ := TDf.cons_ hf
  obtain ⟨l5, r5, rfl, t5, hf⟩ := TDf.cons_ hf
  obtain ⟨l6, r6, rfl, t6, hf⟩ := TDf.cons_ hf
  obtain rfl := hf.nil_
  obtain ⟨m0, rfl, n0, e0⟩ := t0.slc_ Try.underlying26
  obtain ⟨v0, rfl, s0⟩ := sl_String e0
  obtain ⟨m1, rfl, n1, e1⟩ := t1.slc_ Try.underlying61
  obtain ⟨v1, rfl, s1⟩ := sl_Int e1
  obtain ⟨m2, rfl, n2, e2⟩ := t2.slc_ Try.underlying62
  obtain ⟨v2, rfl, s2⟩ := sl_IntS e2
  obtain ⟨m3, rfl, n3, e3⟩ := t3.slc_ Try.underlying26
  obtain ⟨v3, rfl, s3⟩ := sl_String e3
  obtain ⟨m4, rfl, n4, e4⟩ := t4.slc_ Try.underlying62
  obtain ⟨v4, rfl, s4⟩ := sl_IntS e4
  obtain ⟨m5, rfl, n5, e5⟩ := t5.slc_ Try.underlying61
  obtain ⟨v5, rfl, s5⟩ := sl_Int e5
  obtain ⟨v6, rfl, _⟩ := t6.int_ Try.underlying3
  exact ⟨⟨v0, v1, v2, v3, v4, v5, v6⟩, rfl, ⟨⟨by simpa [maxLen] using n0, s0⟩, by simpa [maxLen] using n1, ⟨by simpa [maxLen] using n2, s2⟩, ⟨by simpa [maxLen] using n3, s3⟩, ⟨by simpa [maxLen] using n4, s4⟩, by simpa [maxLen] using n5⟩⟩
theorem of_Sorts {x : D} (h : TDx Try.prog 64 x) : ∃ v : TSorts, x = v.E ∧ v.ok := by
  obtain ⟨l, rfl, hf⟩ := h.ag Try.underlying64
  obtain ⟨v, rfl, hv⟩ := cells_Sorts hf
  exact ⟨v, rfl, hv⟩
theorem cells_Binding {l : List D} (h : TD Try.prog 144 l) : ∃ v : TBinding, l = v.E.cells ∧ v.ok := by
  have hf := h.st_ Try.underlying144
  obtain ⟨l0, r0, rfl, t0, hf⟩ := TDf.cons_ hf
  obtain ⟨l1, r1, rfl, t1, hf⟩ := TDf.cons_ hf
  obtain rfl := hf.nil_
  obtain ⟨v0, rfl, s0⟩ := t0.str_ Try.underlying9
  obtain ⟨v1, rfl, s1⟩ := cells_Expr t1
  exact ⟨⟨v0, v1⟩, rfl, ⟨by simpa [maxLen] using s0, s1⟩⟩
theorem of_Binding {x : D} (h : TDx Try.prog 144 x) : ∃ v : TBinding, x = v.E ∧ v.ok := by
  obtain ⟨l, rfl, hf⟩ := h.ag Try.underlying144
  obtain ⟨v, rfl, hv⟩ := cells_Binding hf
  exact ⟨v, rfl, hv⟩
theorem sl_Binding {m : List D} (h : ∀ x ∈ m, TDx Try.prog 144 x) : ∃ a : List TBinding, m = a.map TBinding.E ∧ ∀ y ∈ a, y.ok :=
  choose_row TBinding.E (fun y : TBinding => y.ok) m fun x hx => by
    exact of_Binding (h x hx)
theorem cells_Node {l : List D} (h : TD Try.prog 131 l) : ∃ v : TNode, l = v.E.cells ∧ v.ok := by
  have hf := h.st_ Try.underlying131
  obtain ⟨l0, r0, rfl, t0, hf⟩ := TDf.cons_ hf
  obtain ⟨l1, r1, rfl, t1, hf⟩ := TDf.cons_ hf
  obtain ⟨l2, r2, rfl, t2, hf⟩ := TDf.cons_ hf
  obtain ⟨l3, r3, rfl, t3, hf⟩ := TDf.cons_ hf
  obtain ⟨l4, r4, rfl, t4, hf⟩ := TDf.cons_ hf
  obtain ⟨l5, r5, rfl, t5, hf⟩ := TDf.cons_ hf
  obtain ⟨l6, r6, rfl, t6, hf⟩ := TDf.cons_ hf
  obtain ⟨l7, r7, rfl, t7, hf⟩ := TDf.cons_ hf
  obtain ⟨l8, r8, rfl, t8, hf⟩ := TDf.cons_ hf
  obtain rfl := hf.nil_
  obtain ⟨v0, rfl, _⟩ := t0.int_ Try.underlying3
  obtain ⟨v1, rfl, s1⟩ := cells_Expr t1
  obtain ⟨v2, rfl, _⟩ := t2.int_ Try.underlying3
  obtain ⟨m3, rfl, n3, e3⟩ := t3.slc_ Try.underlying61
  obtain ⟨v3, rfl, s3⟩ := sl_Int e3
  obtain ⟨v4, rfl, s4⟩ := t4.str_ Try.underlying9
  obtain ⟨v5, rfl, s5⟩ := t5.str_ Try.underlying9
  obtain ⟨m6, rfl, n6, e6⟩ := t6.slc_ Try.underlying26
  obtain ⟨v6, rfl, s6⟩ := sl_String e6
  obtain ⟨m7, rfl, n7, e7⟩ := t7.slc_ Try.underlying129
  obtain ⟨v7, rfl, s7⟩ := sl_Binding e7
  obtain ⟨v8, rfl, _⟩ := t8.int_ Try.underlying3
  exact ⟨⟨v0, v1, v2, v3, v4, v5, v6, v7, v8⟩, rfl, ⟨s1, by simpa [maxLen] using n3, by simpa [maxLen] using s4, by simpa [maxLen] using s5, ⟨by simpa [maxLen] using n6, s6⟩, ⟨by simpa [maxLen] using n7, s7⟩⟩⟩
theorem of_Node {x : D} (h : TDx Try.prog 131 x) : ∃ v : TNode, x = v.E ∧ v.ok := by
  obtain ⟨l, rfl, hf⟩ := h.ag Try.underlying131
  obtain ⟨v, rfl, hv⟩ := cells_Node hf
  exact ⟨v, rfl, hv⟩
theorem sl_Node {m : List D} (h : ∀ x ∈ m, TDx Try.prog 131 x) : ∃ a : List TNode, m = a.map TNode.E ∧ ∀ y ∈ a, y.ok :=
  choose_row TNode.E (fun y : TNode => y.ok) m fun x hx => by
    exact of_Node (h x hx)
theorem cells_Tree {l : List D} (h : TD Try.prog 77 l) : ∃ v : TTree, l = v.E.cells ∧ v.ok := by
  have hf := h.st_ Try.underlying77
  obtain ⟨l0, r0, rfl, t0, hf⟩ := TDf.cons_ hf
  obtain rfl := hf.nil_
  obtain ⟨m0, rfl, n0, e0⟩ := t0.slc_ Try.underlying75
  obtain ⟨v0, rfl, s0⟩ := sl_Node e0
  exact ⟨⟨v0⟩, rfl, ⟨by simpa [maxLen] using n0, s0⟩⟩
theorem of_Tree {x : D} (h : TDx Try.prog 77 x) : ∃ v : TTree, x = v.E ∧ v.ok := by
  obtain ⟨l, rfl, hf⟩ := h.ag Try.underlying77
  obtain ⟨v, rfl, hv⟩ := cells_Tree hf
  exact ⟨v, rfl, hv⟩
end Go.Proofs.Ytphneohnocljcaa
