/- What arguments hold, as plain data. Printed by gen.py. -/
import Derived.Test.YtfmllefmfhefpaaAbW
import Derived.Test.YtfmllefmfhefpaaAbPs
namespace Go.Proofs.Ytfmllefmfhefpaa
open Go Go.Ab
set_option linter.unusedVariables false
theorem of_Expr {x : D} (h : TDx Try.prog 35 x) : ∃ v : Ex, x = v.E ∧ v.ok := ex_of Try.underlying35 Try.underlying33 Try.underlying3 Try.underlying9 rfl rfl rfl _ x (Nat.lt_succ_self _) h
theorem cells_Expr {l : List D} (h : TD Try.prog 35 l) : ∃ v : Ex, l = [.v (.int .i64 v.k), .v (.string v.n), .lst (v.a.map Ex.E)] ∧ v.ok := by
  obtain ⟨v, e, hv⟩ := of_Expr (.agg _ _ l Try.underlying35 h)
  rw [v.E_open] at e
  exact ⟨v, by injection e, hv⟩
theorem sl_String {m : List D} (h : ∀ x ∈ m, TDx Try.prog 9 x) : ∃ a : List ByteArray, m = a.map D.str ∧ ∀ y ∈ a, y.size ≤ 9223372036854775807 :=
  choose_row D.str (fun y : ByteArray => y.size ≤ 9223372036854775807) m fun x hx => by
    obtain ⟨s, h1, h2⟩ := (h x hx).str_ Try.underlying9
    exact ⟨s, h1, by simpa [maxLen] using h2⟩
theorem cells_Rule {l : List D} (h : TD Try.prog 136 l) : ∃ v : TRule, l = v.E.cells ∧ v.ok := by
  have hf := h.st_ Try.underlying136
  obtain ⟨l0, r0, rfl, t0, hf⟩ := TDf.cons_ hf
  obtain ⟨l1, r1, rfl, t1, hf⟩ := TDf.cons_ hf
  obtain ⟨l2, r2, rfl, t2, hf⟩ := TDf.cons_ hf
  obtain ⟨l3, r3, rfl, t3, hf⟩ := TDf.cons_ hf
  obtain ⟨l4, r4, rfl, t4, hf⟩ := TDf.cons_ hf
  obtain rfl := hf.nil_
  obtain ⟨v0, rfl, s0⟩ := t0.str_ Try.underlying9
  obtain ⟨v1, rfl, s1⟩ := t1.str_ Try.underlying9
  obtain ⟨m2, rfl, n2, e2⟩ := t2.slc_ Try.underlying53
  obtain ⟨v2, rfl, s2⟩ := sl_String e2
  obtain ⟨m3, rfl, n3, e3⟩ := t3.slc_ Try.underlying53
  obtain ⟨v3, rfl, s3⟩ := sl_String e3
  obtain ⟨v4, rfl, s4⟩ := cells_Expr t4
  exact ⟨⟨v0, v1, v2, v3, v4⟩, rfl, ⟨by simpa [maxLen] using s0, by simpa [maxLen] using s1, ⟨by simpa [maxLen] using n2, s2⟩, ⟨by simpa [maxLen] using n3, s3⟩, s4⟩⟩
theorem of_Rule {x : D} (h : TDx Try.prog 136 x) : ∃ v : TRule, x = v.E ∧ v.ok := by
  obtain ⟨l, rfl, hf⟩ := h.ag Try.underlying136
  obtain ⟨v, rfl, hv⟩ := cells_Rule hf
  exact ⟨v, rfl, hv⟩
theorem sl_Rule {m : List D} (h : ∀ x ∈ m, TDx Try.prog 136 x) : ∃ a : List TRule, m = a.map TRule.E ∧ ∀ y ∈ a, y.ok :=
  choose_row TRule.E (fun y : TRule => y.ok) m fun x hx => by
    exact of_Rule (h x hx)
theorem cells_Program {l : List D} (h : TD Try.prog 24 l) : ∃ v : TProgram, l = v.E.cells ∧ v.ok := by
  have hf := h.st_ Try.underlying24
  obtain ⟨l0, r0, rfl, t0, hf⟩ := TDf.cons_ hf
  obtain rfl := hf.nil_
  obtain ⟨m0, rfl, n0, e0⟩ := t0.slc_ Try.underlying22
  obtain ⟨v0, rfl, s0⟩ := sl_Rule e0
  exact ⟨⟨v0⟩, rfl, ⟨by simpa [maxLen] using n0, s0⟩⟩
theorem of_Program {x : D} (h : TDx Try.prog 24 x) : ∃ v : TProgram, x = v.E ∧ v.ok := by
  obtain ⟨l, rfl, hf⟩ := h.ag Try.underlying24
  obtain ⟨v, rfl, hv⟩ := cells_Program hf
  exact ⟨v, rfl, hv⟩
theorem cells_Residual {l : List D} (h : TD Try.prog 37 l) : ∃ v : TResidual, l = v.E.cells ∧ v.ok := by
  have hf := h.st_ Try.underlying37
  obtain ⟨l0, r0, rfl, t0, hf⟩ := TDf.cons_ hf
  obtain ⟨l1, r1, rfl, t1, hf⟩ := TDf.cons_ hf
  obtain rfl := hf.nil_
  obtain ⟨v0, rfl, s0⟩ := cells_Program t0
  obtain ⟨v1, rfl, s1⟩ := cells_Expr t1
  exact ⟨⟨v0, v1⟩, rfl, ⟨s0, s1⟩⟩
theorem of_Residual {x : D} (h : TDx Try.prog 37 x) : ∃ v : TResidual, x = v.E ∧ v.ok := by
  obtain ⟨l, rfl, hf⟩ := h.ag Try.underlying37
  obtain ⟨v, rfl, hv⟩ := cells_Residual hf
  exact ⟨v, rfl, hv⟩
end Go.Proofs.Ytfmllefmfhefpaa
