/- What arguments hold, as plain data. Printed by gen.py. -/
import Derived.Test.YtamicpfjieandaaAbW
import Derived.Test.YtamicpfjieandaaAbPs
namespace Go.Proofs.Ytamicpfjieandaa
open Go Go.Ab
set_option linter.unusedVariables false
theorem of_Expr {x : D} (h : TDx Try.prog 40 x) : ∃ v : Ex, x = v.E ∧ v.ok := ex_of Try.underlying40 Try.underlying38 Try.underlying3 Try.underlying9 rfl rfl rfl _ x (Nat.lt_succ_self _) h
theorem cells_Expr {l : List D} (h : TD Try.prog 40 l) : ∃ v : Ex, l = [.v (.int .i64 v.k), .v (.string v.n), .lst (v.a.map Ex.E)] ∧ v.ok := by
  obtain ⟨v, e, hv⟩ := of_Expr (.agg _ _ l Try.underlying40 h)
  rw [v.E_open] at e
  exact ⟨v, by injection e, hv⟩
theorem sl_String {m : List D} (h : ∀ x ∈ m, TDx Try.prog 9 x) : ∃ a : List ByteArray, m = a.map D.str ∧ ∀ y ∈ a, y.size ≤ 9223372036854775807 :=
  choose_row D.str (fun y : ByteArray => y.size ≤ 9223372036854775807) m fun x hx => by
    obtain ⟨s, h1, h2⟩ := (h x hx).str_ Try.underlying9
    exact ⟨s, h1, by simpa [maxLen] using h2⟩
theorem cells_Rule {l : List D} (h : TD Try.prog 42 l) : ∃ v : TRule, l = v.E.cells ∧ v.ok := by
  have hf := h.st_ Try.underlying42
  obtain ⟨l0, r0, rfl, t0, hf⟩ := TDf.cons_ hf
  obtain ⟨l1, r1, rfl, t1, hf⟩ := TDf.cons_ hf
  obtain ⟨l2, r2, rfl, t2, hf⟩ := TDf.cons_ hf
  obtain ⟨l3, r3, rfl, t3, hf⟩ := TDf.cons_ hf
  obtain ⟨l4, r4, rfl, t4, hf⟩ := TDf.cons_ hf
  obtain rfl := hf.nil_
  obtain ⟨v0, rfl, s0⟩ := t0.str_ Try.underlying9
  obtain ⟨v1, rfl, s1⟩ := t1.str_ Try.underlying9
  obtain ⟨m2, rfl, n2, e2⟩ := t2.slc_ Try.underlying37
  obtain ⟨v2, rfl, s2⟩ := sl_String e2
  obtain ⟨m3, rfl, n3, e3⟩ := t3.slc_ Try.underlying37
  obtain ⟨v3, rfl, s3⟩ := sl_String e3
  obtain ⟨v4, rfl, s4⟩ := cells_Expr t4
  exact ⟨⟨v0, v1, v2, v3, v4⟩, rfl, ⟨by simpa [maxLen] using s0, by simpa [maxLen] using s1, ⟨by simpa [maxLen] using n2, s2⟩, ⟨by simpa [maxLen] using n3, s3⟩, s4⟩⟩
theorem of_Rule {x : D} (h : TDx Try.prog 42 x) : ∃ v : TRule, x = v.E ∧ v.ok := by
  obtain ⟨l, rfl, hf⟩ := h.ag Try.underlying42
  obtain ⟨v, rfl, hv⟩ := cells_Rule hf
  exact ⟨v, rfl, hv⟩
theorem sl_Rule {m : List D} (h : ∀ x ∈ m, TDx Try.prog 42 x) : ∃ a : List TRule, m = a.map TRule.E ∧ ∀ y ∈ a, y.ok :=
  choose_row TRule.E (fun y : TRule => y.ok) m fun x hx => by
    exact of_Rule (h x hx)
theorem cells_Program {l : List D} (h : TD Try.prog 24 l) : ∃ v : TProgram, l = v.E.cells ∧ v.ok := by
  have hf := h.st_ Try.underlying24
  obtain ⟨l0, r0, rfl, t0, hf⟩ := TDf.cons_ hf
  obtain rfl := hf.nil_
  obtain ⟨m0, rfl, n0, e0⟩ := t0.slc_ Try.underlying22
  obtain ⟨v0, rfl, s0⟩ := sl_Rule e0
  exact ⟨⟨v0⟩, rfl, ⟨by simpa [maxLen] using n0, s0⟩⟩
theorem of_Program {x : D} (h : TDx Try.prog 24 x) : ∃ v : TProgram, x = v.E ∧ v.ok := by
  obtain ⟨l, rfl, hf⟩ := h.ag Try.underlying24
  obtain ⟨v, rfl, hv⟩ := cells_Program hf
  exact ⟨v, rfl, hv⟩
theorem sl_Int {m : List D} (h : ∀ x ∈ m, TDx Try.prog 3 x) : ∃ a : List Int, m = a.map D.int ∧ ∀ y ∈ a, True :=
  choose_row D.int (fun y : Int => True) m fun x hx => by
    obtain ⟨s, h1, _⟩ := (h x hx).int_ Try.underlying3
    exact ⟨s, h1, trivial⟩
theorem sl_IntS {m : List D} (h : ∀ x ∈ m, TDx Try.prog 26 x) : ∃ a : List (List Int), m = a.map (fun r => D.lst (r.map D.int)) ∧ ∀ y ∈ a, y.length ≤ 9223372036854775807 :=
  choose_row (fun r => D.lst (r.map D.int)) (fun y : List Int => y.length ≤ 9223372036854775807) m fun x hx => by
    obtain ⟨q, rfl, h1, h2⟩ := (h x hx).slc_ Try.underlying26
    obtain ⟨a, rfl, h3⟩ := sl_Int h2
    exact ⟨a, rfl, by simpa [maxLen] using h1⟩
theorem cells_Sorts {l : List D} (h : TD Try.prog 60 l) : ∃ v : TSorts, l = v.E.cells ∧ v.ok := by
  have hf := h.st_ Try.underlying60
  obtain ⟨l0, r0, rfl, t0, hf⟩ := TDf.cons_ hf
  obtain ⟨l1, r1, rfl, t1, hf⟩ := TDf.cons_ hf
  obtain ⟨l2, r2, rfl, t2, hf⟩ := TDf.cons_ hf
  obtain ⟨l3, r3, rfl, t3, hf⟩ := TDf.cons_ hf
  obtain ⟨l4, r4, rfl, t4, hf⟩ := TDf.cons_ hf
  obtain ⟨l5, r5, rfl, t5, hf⟩ := TDf.cons_ hf
  obtain ⟨l6, r6, rfl, t6, hf⟩ := TDf.cons_ hf
  obtain rfl := hf.nil_
  obtain ⟨m0, rfl, n0, e0⟩ := t0.slc_ Try.underlying37
  obtain ⟨v0, rfl, s0⟩ := sl_String e0
  obtain ⟨m1, rfl, n1, e1⟩ := t1.slc_ Try.underlying26
  obtain ⟨v1, rfl, s1⟩ := sl_Int e1
  obtain ⟨m2, rfl, n2, e2⟩ := t2.slc_ Try.underlying58
  obtain ⟨v2, rfl, s2⟩ := sl_IntS e2
  obtain ⟨m3, rfl, n3, e3⟩ := t3.slc_ Try.underlying37
  obtain ⟨v3, rfl, s3⟩ := sl_String e3
  obtain ⟨m4, rfl, n4, e4⟩ := t4.slc_ Try.underlying58
  obtain ⟨v4, rfl, s4⟩ := sl_IntS e4
  obtain ⟨m5, rfl, n5, e5⟩ := t5.slc_ Try.underlying26
  obtain ⟨v5, rfl, s5⟩ := sl_Int e5
  obtain ⟨v6, rfl, _⟩ := t6.int_ Try.underlying3
  exact ⟨⟨v0, v1, v2, v3, v4, v5, v6⟩, rfl, ⟨⟨by simpa [maxLen] using n0, s0⟩, by simpa [maxLen] using n1, ⟨by simpa [maxLen] using n2, s2⟩, ⟨by simpa [maxLen] using n3, s3⟩, ⟨by simpa [maxLen] using n4, s4⟩, by simpa [maxLen] using n5⟩⟩
theorem of_Sorts {x : D} (h : TDx Try.prog 60 x) : ∃ v : TSorts, x = v.E ∧ v.ok := by
  obtain ⟨l, rfl, hf⟩ := h.ag Try.underlying60
  obtain ⟨v, rfl, hv⟩ := cells_Sorts hf
  exact ⟨v, rfl, hv⟩
theorem cells_Shape {l : List D} (h : TD Try.prog 112 l) : ∃ v : TShape, l = v.E.cells ∧ v.ok := by
  have hf := h.st_ Try.underlying112
  obtain ⟨l0, r0, rfl, t0, hf⟩ := TDf.cons_ hf
  obtain ⟨l1, r1, rfl, t1, hf⟩ := TDf.cons_ hf
  obtain rfl := hf.nil_
  obtain ⟨v0, rfl, s0⟩ := t0.str_ Try.underlying9
  obtain ⟨v1, rfl, _⟩ := t1.int_ Try.underlying3
  exact ⟨⟨v0, v1⟩, rfl, by unfold TShape.ok; simpa [maxLen] using s0⟩
theorem of_Shape {x : D} (h : TDx Try.prog 112 x) : ∃ v : TShape, x = v.E ∧ v.ok := by
  obtain ⟨l, rfl, hf⟩ := h.ag Try.underlying112
  obtain ⟨v, rfl, hv⟩ := cells_Shape hf
  exact ⟨v, rfl, hv⟩
end Go.Proofs.Ytamicpfjieandaa
