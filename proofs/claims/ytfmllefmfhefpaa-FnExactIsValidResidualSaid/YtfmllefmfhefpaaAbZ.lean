/- The program's types, in plain Lean. Printed by gen.py. -/
import Derived.Test.YtfmllefmfhefpaaAbX
namespace Go.Ab
open Go
set_option linter.unusedVariables false
set_option linter.unusedSimpArgs false
/-- Measures, one behind the other. -/
def szSeq : List (Int → Int) → Int → Int
  | [], l => l
  | f :: r, l => if f l < 0 then -1 else szSeq r (f l)
def szL {α : Type} (f : α → Int → Int) (a : List α) (l : Int) : Int := if l - a.length < 0 then -1 else szSeq (a.map f) (l - a.length)
def szI (a : List Int) (l : Int) : Int := if l - a.length < 0 then -1 else l - a.length
theorem szSeq_le : ∀ {fs : List (Int → Int)}, (∀ f ∈ fs, ∀ l : Int, 0 ≤ l → f l ≤ l) → ∀ l : Int, 0 ≤ l → -1 ≤ szSeq fs l ∧ szSeq fs l ≤ l
  | [], _, l, h0 => by simp only [szSeq]; omega
  | f :: r, h, l, h0 => by
    have hf := h f List.mem_cons_self l h0
    simp only [szSeq]
    split
    · omega
    · have := szSeq_le (fun g hg => h g (List.mem_cons_of_mem _ hg)) (f l) (by omega)
      omega
theorem szSeq_small {B : Int} : ∀ {fs : List (Int → Int)}, (∀ f ∈ fs, ∀ l : Int, 0 ≤ l → f l ≤ l) → ∀ l : Int, 0 ≤ l → l ≤ B → 0 ≤ szSeq fs l → ∀ f ∈ fs, ∃ m : Int, 0 ≤ m ∧ m ≤ B ∧ 0 ≤ f m
  | [], _, l, _, _, _, f, hf => by cases hf
  | g :: r, h, l, h0, h1, hs, f, hf => by
    have hg := h g List.mem_cons_self l h0
    simp only [szSeq] at hs
    split at hs
    · omega
    · rcases List.mem_cons.1 hf with rfl | hf
      · exact ⟨l, h0, h1, by omega⟩
      · exact szSeq_small (fun g hg => h g (List.mem_cons_of_mem _ hg)) (g l) (by omega) (by omega) hs f hf
theorem szL_le {α : Type} {f : α → Int → Int} {a : List α} (h : ∀ x ∈ a, ∀ l : Int, 0 ≤ l → f x l ≤ l) (l : Int) (h0 : 0 ≤ l) : -1 ≤ szL f a l ∧ szL f a l ≤ l := by
  unfold szL
  split
  · omega
  · have := szSeq_le (fs := a.map f) (fun g hg => by obtain ⟨x, hx, rfl⟩ := List.mem_map.1 hg; exact h x hx) (l - a.length) (by omega)
    omega
theorem szL_small {α : Type} {f : α → Int → Int} {sm : α → Prop} {a : List α} (h : ∀ x ∈ a, ∀ l : Int, 0 ≤ l → f x l ≤ l) (hs : ∀ x ∈ a, ∀ l : Int, 0 ≤ l → l ≤ 1048576 → 0 ≤ f x l → sm x) (l : Int) (h0 : 0 ≤ l) (h1 : l ≤ 1048576) (h2 : 0 ≤ szL f a l) :
    a.length ≤ 1048576 ∧ ∀ x ∈ a, sm x := by
  unfold szL at h2
  split at h2
  · omega
  · refine ⟨by omega, fun x hx => ?_⟩
    obtain ⟨m, m0, m1, m2⟩ := szSeq_small (B := 1048576) (fs := a.map f) (fun g hg => by obtain ⟨x, hx, rfl⟩ := List.mem_map.1 hg; exact h x hx) (l - a.length) (by omega) (by omega) h2 (f x) (List.mem_map.2 ⟨x, hx, rfl⟩)
    exact hs x hx m m0 m1 m2
theorem szB_le (s : ByteArray) (l : Int) : l - (s.size : Int) ≤ l := by omega
theorem szB_small (s : ByteArray) (l : Int) (h1 : l ≤ 1048576) (h2 : 0 ≤ l - (s.size : Int)) : s.size ≤ 1048576 := by omega
theorem szI_le (a : List Int) (l : Int) (h0 : 0 ≤ l) : -1 ≤ szI a l ∧ szI a l ≤ l := by unfold szI; split <;> omega
theorem szI_small (a : List Int) (l : Int) (h0 : 0 ≤ l) (h1 : l ≤ 1048576) (h2 : 0 ≤ szI a l) : a.length ≤ 1048576 := by unfold szI at h2; split at h2 <;> omega
theorem szS_le (a : List Ex) (l : Int) (h0 : 0 ≤ l) : -1 ≤ szS a l ∧ szS a l ≤ l := by
  unfold szS
  split
  · omega
  · have := szR_le (fun e he l h0 => szE_le e l h0) (a := a) (l - a.length) (by omega)
    omega
theorem szS_small (a : List Ex) (l : Int) (h0 : 0 ≤ l) (h1 : l ≤ 1048576) (h2 : 0 ≤ szS a l) : a.length ≤ 1048576 ∧ ∀ y ∈ a, y.sm := by
  unfold szS at h2
  split at h2
  · omega
  · exact ⟨by omega, szR_sm (fun e he l h0 h1 hs => szE_sm e l h0 h1 hs) _ (by omega) (by omega) h2⟩
structure TRule where
  name_ : ByteArray
  con_ : ByteArray
  vars_ : List ByteArray
  params_ : List ByteArray
  body_ : Ex
def TRule.E (x : TRule) : D := .agg [.v (.string x.name_), .v (.string x.con_), .lst (x.vars_.map D.str), .lst (x.params_.map D.str), .v (.int .i64 x.body_.k), .v (.string x.body_.n), .lst (x.body_.a.map Ex.E)]
theorem TRule.E_fold (x : TRule) : D.agg [.v (.string x.name_), .v (.string x.con_), .lst (x.vars_.map D.str), .lst (x.params_.map D.str), .v (.int .i64 x.body_.k), .v (.string x.body_.n), .lst (x.body_.a.map Ex.E)] = x.E := rfl
theorem TRule.E_cells (x : TRule) : x.E.cells = [.v (.string x.name_), .v (.string x.con_), .lst (x.vars_.map D.str), .lst (x.params_.map D.str), .v (.int .i64 x.body_.k), .v (.string x.body_.n), .lst (x.body_.a.map Ex.E)] := rfl
theorem TRule.acells (x : TRule) : (A.d x.E).cells? = some [.d (.v (.string x.name_)), .d (.v (.string x.con_)), .d (.lst (x.vars_.map D.str)), .d (.lst (x.params_.map D.str)), .d (.v (.int .i64 x.body_.k)), .d (.v (.string x.body_.n)), .d (.lst (x.body_.a.map Ex.E))] := rfl
theorem TRule.flat (l : List TRule) : Flat 7 (l.map TRule.E) := fun y hy => by obtain ⟨x, _, rfl⟩ := List.mem_map.1 hy; rfl
attribute [go_sem] TRule.E_fold TRule.E_cells TRule.acells TRule.flat
theorem TRule.ext_iff' {a b : TRule} : a = b ↔ a.name_ = b.name_ ∧ a.con_ = b.con_ ∧ a.vars_ = b.vars_ ∧ a.params_ = b.params_ ∧ a.body_ = b.body_ := by cases a; cases b; simp
def TRule.ok (x : TRule) : Prop := x.name_.size ≤ 9223372036854775807 ∧ x.con_.size ≤ 9223372036854775807 ∧ (x.vars_.length ≤ 9223372036854775807 ∧ ∀ y ∈ x.vars_, y.size ≤ 9223372036854775807) ∧ (x.params_.length ≤ 9223372036854775807 ∧ ∀ y ∈ x.params_, y.size ≤ 9223372036854775807) ∧ x.body_.ok
def TRule.sm (x : TRule) : Prop := x.name_.size ≤ 1048576 ∧ x.con_.size ≤ 1048576 ∧ (x.vars_.length ≤ 1048576 ∧ ∀ y ∈ x.vars_, y.size ≤ 1048576) ∧ (x.params_.length ≤ 1048576 ∧ ∀ y ∈ x.params_, y.size ≤ 1048576) ∧ x.body_.sm
def TRule.sz (x : TRule) : Int → Int := szSeq [fun l => l - (x.name_.size : Int), fun l => l - (x.con_.size : Int), (szL (fun s l => l - (s.size : Int))) x.vars_, (szL (fun s l => l - (s.size : Int))) x.params_, szE x.body_]
theorem TRule.sz_steps (x : TRule) : ∀ f ∈ ([(fun l => l - (x.name_.size : Int) : Int → Int), (fun l => l - (x.con_.size : Int) : Int → Int), ((szL (fun s l => l - (s.size : Int))) x.vars_ : Int → Int), ((szL (fun s l => l - (s.size : Int))) x.params_ : Int → Int), (szE x.body_ : Int → Int)] : List (Int → Int)), ∀ l : Int, 0 ≤ l → f l ≤ l := by
  intro f hf
  rcases List.mem_cons.1 hf with rfl | hf
  · exact (fun l h => szB_le x.name_ l)
  rcases List.mem_cons.1 hf with rfl | hf
  · exact (fun l h => szB_le x.con_ l)
  rcases List.mem_cons.1 hf with rfl | hf
  · exact (fun l h => (szL_le (fun y _ => (fun l h => szB_le y l)) l h).2)
  rcases List.mem_cons.1 hf with rfl | hf
  · exact (fun l h => (szL_le (fun y _ => (fun l h => szB_le y l)) l h).2)
  rcases List.mem_cons.1 hf with rfl | hf
  · exact (fun l h => (szE_le x.body_ l h).2)
  cases hf
theorem TRule.sz_le (x : TRule) (l : Int) (h0 : 0 ≤ l) : -1 ≤ x.sz l ∧ x.sz l ≤ l := szSeq_le x.sz_steps l h0
theorem TRule.sz_small (x : TRule) (l : Int) (h0 : 0 ≤ l) (h1 : l ≤ 1048576) (h2 : 0 ≤ x.sz l) : x.sm := by
  have h := szSeq_small (B := 1048576) x.sz_steps l h0 h1 h2
  obtain ⟨m0, a0, b0, c0⟩ := h _ (List.mem_cons_self)
  obtain ⟨m1, a1, b1, c1⟩ := h _ (List.mem_cons_of_mem _ (List.mem_cons_self))
  obtain ⟨m2, a2, b2, c2⟩ := h _ (List.mem_cons_of_mem _ (List.mem_cons_of_mem _ (List.mem_cons_self)))
  obtain ⟨m3, a3, b3, c3⟩ := h _ (List.mem_cons_of_mem _ (List.mem_cons_of_mem _ (List.mem_cons_of_mem _ (List.mem_cons_self))))
  obtain ⟨m4, a4, b4, c4⟩ := h _ (List.mem_cons_of_mem _ (List.mem_cons_of_mem _ (List.mem_cons_of_mem _ (List.mem_cons_of_mem _ (List.mem_cons_self)))))
  exact ⟨(fun l h0 h1 h2 => szB_small x.name_ l h1 h2) m0 a0 b0 c0, (fun l h0 h1 h2 => szB_small x.con_ l h1 h2) m1 a1 b1 c1, (fun l h0 h1 h2 => szL_small (sm := fun y => y.size ≤ 1048576) (fun y _ => (fun l h => szB_le y l)) (fun y _ => (fun l h0 h1 h2 => szB_small y l h1 h2)) l h0 h1 h2) m2 a2 b2 c2, (fun l h0 h1 h2 => szL_small (sm := fun y => y.size ≤ 1048576) (fun y _ => (fun l h => szB_le y l)) (fun y _ => (fun l h0 h1 h2 => szB_small y l h1 h2)) l h0 h1 h2) m3 a3 b3 c3, (fun l h0 h1 h2 => szE_sm x.body_ l h0 h1 h2) m4 a4 b4 c4⟩
structure TProgram where
  rules_ : List TRule
def TProgram.E (x : TProgram) : D := .agg [.lst (x.rules_.map TRule.E)]
theorem TProgram.E_fold (x : TProgram) : D.agg [.lst (x.rules_.map TRule.E)] = x.E := rfl
theorem TProgram.E_cells (x : TProgram) : x.E.cells = [.lst (x.rules_.map TRule.E)] := rfl
theorem TProgram.acells (x : TProgram) : (A.d x.E).cells? = some [.d (.lst (x.rules_.map TRule.E))] := rfl
theorem TProgram.flat (l : List TProgram) : Flat 1 (l.map TProgram.E) := fun y hy => by obtain ⟨x, _, rfl⟩ := List.mem_map.1 hy; rfl
attribute [go_sem] TProgram.E_fold TProgram.E_cells TProgram.acells TProgram.flat
theorem TProgram.ext_iff' {a b : TProgram} : a = b ↔ a.rules_ = b.rules_ := by cases a; cases b; simp
def TProgram.ok (x : TProgram) : Prop := (x.rules_.length ≤ 9223372036854775807 ∧ ∀ y ∈ x.rules_, y.ok)
def TProgram.sm (x : TProgram) : Prop := (x.rules_.length ≤ 1048576 ∧ ∀ y ∈ x.rules_, y.sm)
def TProgram.sz (x : TProgram) : Int → Int := szSeq [(szL TRule.sz) x.rules_]
theorem TProgram.sz_steps (x : TProgram) : ∀ f ∈ ([((szL TRule.sz) x.rules_ : Int → Int)] : List (Int → Int)), ∀ l : Int, 0 ≤ l → f l ≤ l := by
  intro f hf
  rcases List.mem_cons.1 hf with rfl | hf
  · exact (fun l h => (szL_le (fun y _ => (fun l h => (y.sz_le l h).2)) l h).2)
  cases hf
theorem TProgram.sz_le (x : TProgram) (l : Int) (h0 : 0 ≤ l) : -1 ≤ x.sz l ∧ x.sz l ≤ l := szSeq_le x.sz_steps l h0
theorem TProgram.sz_small (x : TProgram) (l : Int) (h0 : 0 ≤ l) (h1 : l ≤ 1048576) (h2 : 0 ≤ x.sz l) : x.sm := by
  have h := szSeq_small (B := 1048576) x.sz_steps l h0 h1 h2
  obtain ⟨m0, a0, b0, c0⟩ := h _ (List.mem_cons_self)
  exact (fun l h0 h1 h2 => szL_small (sm := fun y => y.sm) (fun y _ => (fun l h => (y.sz_le l h).2)) (fun y _ => (fun l h0 h1 h2 => y.sz_small l h0 h1 h2)) l h0 h1 h2) m0 a0 b0 c0
structure TBinding where
  name_ : ByteArray
  value_ : Ex
def TBinding.E (x : TBinding) : D := .agg [.v (.string x.name_), .v (.int .i64 x.value_.k), .v (.string x.value_.n), .lst (x.value_.a.map Ex.E)]
theorem TBinding.E_fold (x : TBinding) : D.agg [.v (.string x.name_), .v (.int .i64 x.value_.k), .v (.string x.value_.n), .lst (x.value_.a.map Ex.E)] = x.E := rfl
theorem TBinding.E_cells (x : TBinding) : x.E.cells = [.v (.string x.name_), .v (.int .i64 x.value_.k), .v (.string x.value_.n), .lst (x.value_.a.map Ex.E)] := rfl
theorem TBinding.acells (x : TBinding) : (A.d x.E).cells? = some [.d (.v (.string x.name_)), .d (.v (.int .i64 x.value_.k)), .d (.v (.string x.value_.n)), .d (.lst (x.value_.a.map Ex.E))] := rfl
theorem TBinding.flat (l : List TBinding) : Flat 4 (l.map TBinding.E) := fun y hy => by obtain ⟨x, _, rfl⟩ := List.mem_map.1 hy; rfl
attribute [go_sem] TBinding.E_fold TBinding.E_cells TBinding.acells TBinding.flat
theorem TBinding.ext_iff' {a b : TBinding} : a = b ↔ a.name_ = b.name_ ∧ a.value_ = b.value_ := by cases a; cases b; simp
def TBinding.ok (x : TBinding) : Prop := x.name_.size ≤ 9223372036854775807 ∧ x.value_.ok
def TBinding.sm (x : TBinding) : Prop := x.name_.size ≤ 1048576 ∧ x.value_.sm
def TBinding.sz (x : TBinding) : Int → Int := szSeq [fun l => l - (x.name_.size : Int), szE x.value_]
theorem TBinding.sz_steps (x : TBinding) : ∀ f ∈ ([(fun l => l - (x.name_.size : Int) : Int → Int), (szE x.value_ : Int → Int)] : List (Int → Int)), ∀ l : Int, 0 ≤ l → f l ≤ l := by
  intro f hf
  rcases List.mem_cons.1 hf with rfl | hf
  · exact (fun l h => szB_le x.name_ l)
  rcases List.mem_cons.1 hf with rfl | hf
  · exact (fun l h => (szE_le x.value_ l h).2)
  cases hf
theorem TBinding.sz_le (x : TBinding) (l : Int) (h0 : 0 ≤ l) : -1 ≤ x.sz l ∧ x.sz l ≤ l := szSeq_le x.sz_steps l h0
theorem TBinding.sz_small (x : TBinding) (l : Int) (h0 : 0 ≤ l) (h1 : l ≤ 1048576) (h2 : 0 ≤ x.sz l) : x.sm := by
  have h := szSeq_small (B := 1048576) x.sz_steps l h0 h1 h2
  obtain ⟨m0, a0, b0, c0⟩ := h _ (List.mem_cons_self)
  obtain ⟨m1, a1, b1, c1⟩ := h _ (List.mem_cons_of_mem _ (List.mem_cons_self))
  exact ⟨(fun l h0 h1 h2 => szB_small x.name_ l h1 h2) m0 a0 b0 c0, (fun l h0 h1 h2 => szE_sm x.value_ l h0 h1 h2) m1 a1 b1 c1⟩
structure TGeneral where
  term_ : Ex
  first_ : List TBinding
  second_ : List TBinding
def TGeneral.E (x : TGeneral) : D := .agg [.v (.int .i64 x.term_.k), .v (.string x.term_.n), .lst (x.term_.a.map Ex.E), .lst (x.first_.map TBinding.E), .lst (x.second_.map TBinding.E)]
theorem TGeneral.E_fold (x : TGeneral) : D.agg [.v (.int .i64 x.term_.k), .v (.string x.term_.n), .lst (x.term_.a.map Ex.E), .lst (x.first_.map TBinding.E), .lst (x.second_.map TBinding.E)] = x.E := rfl
theorem TGeneral.E_cells (x : TGeneral) : x.E.cells = [.v (.int .i64 x.term_.k), .v (.string x.term_.n), .lst (x.term_.a.map Ex.E), .lst (x.first_.map TBinding.E), .lst (x.second_.map TBinding.E)] := rfl
theorem TGeneral.acells (x : TGeneral) : (A.d x.E).cells? = some [.d (.v (.int .i64 x.term_.k)), .d (.v (.string x.term_.n)), .d (.lst (x.term_.a.map Ex.E)), .d (.lst (x.first_.map TBinding.E)), .d (.lst (x.second_.map TBinding.E))] := rfl
theorem TGeneral.flat (l : List TGeneral) : Flat 5 (l.map TGeneral.E) := fun y hy => by obtain ⟨x, _, rfl⟩ := List.mem_map.1 hy; rfl
attribute [go_sem] TGeneral.E_fold TGeneral.E_cells TGeneral.acells TGeneral.flat
theorem TGeneral.ext_iff' {a b : TGeneral} : a = b ↔ a.term_ = b.term_ ∧ a.first_ = b.first_ ∧ a.second_ = b.second_ := by cases a; cases b; simp
def TGeneral.ok (x : TGeneral) : Prop := x.term_.ok ∧ (x.first_.length ≤ 9223372036854775807 ∧ ∀ y ∈ x.first_, y.ok) ∧ (x.second_.length ≤ 9223372036854775807 ∧ ∀ y ∈ x.second_, y.ok)
def TGeneral.sm (x : TGeneral) : Prop := x.term_.sm ∧ (x.first_.length ≤ 1048576 ∧ ∀ y ∈ x.first_, y.sm) ∧ (x.second_.length ≤ 1048576 ∧ ∀ y ∈ x.second_, y.sm)
def TGeneral.sz (x : TGeneral) : Int → Int := szSeq [szE x.term_, (szL TBinding.sz) x.first_, (szL TBinding.sz) x.second_]
theorem TGeneral.sz_steps (x : TGeneral) : ∀ f ∈ ([(szE x.term_ : Int → Int), ((szL TBinding.sz) x.first_ : Int → Int), ((szL TBinding.sz) x.second_ : Int → Int)] : List (Int → Int)), ∀ l : Int, 0 ≤ l → f l ≤ l := by
  intro f hf
  rcases List.mem_cons.1 hf with rfl | hf
  · exact (fun l h => (szE_le x.term_ l h).2)
  rcases List.mem_cons.1 hf with rfl | hf
  · exact (fun l h => (szL_le (fun y _ => (fun l h => (y.sz_le l h).2)) l h).2)
  rcases List.mem_cons.1 hf with rfl | hf
  · exact (fun l h => (szL_le (fun y _ => (fun l h => (y.sz_le l h).2)) l h).2)
  cases hf
theorem TGeneral.sz_le (x : TGeneral) (l : Int) (h0 : 0 ≤ l) : -1 ≤ x.sz l ∧ x.sz l ≤ l := szSeq_le x.sz_steps l h0
theorem TGeneral.sz_small (x : TGeneral) (l : Int) (h0 : 0 ≤ l) (h1 : l ≤ 1048576) (h2 : 0 ≤ x.sz l) : x.sm := by
  have h := szSeq_small (B := 1048576) x.sz_steps l h0 h1 h2
  obtain ⟨m0, a0, b0, c0⟩ := h _ (List.mem_cons_self)
  obtain ⟨m1, a1, b1, c1⟩ := h _ (List.mem_cons_of_mem _ (List.mem_cons_self))
  obtain ⟨m2, a2, b2, c2⟩ := h _ (List.mem_cons_of_mem _ (List.mem_cons_of_mem _ (List.mem_cons_self)))
  exact ⟨(fun l h0 h1 h2 => szE_sm x.term_ l h0 h1 h2) m0 a0 b0 c0, (fun l h0 h1 h2 => szL_small (sm := fun y => y.sm) (fun y _ => (fun l h => (y.sz_le l h).2)) (fun y _ => (fun l h0 h1 h2 => y.sz_small l h0 h1 h2)) l h0 h1 h2) m1 a1 b1 c1, (fun l h0 h1 h2 => szL_small (sm := fun y => y.sm) (fun y _ => (fun l h => (y.sz_le l h).2)) (fun y _ => (fun l h0 h1 h2 => y.sz_small l h0 h1 h2)) l h0 h1 h2) m2 a2 b2 c2⟩
structure TBranch where
  expr_ : Ex
  var_ : ByteArray
  con_ : ByteArray
  vars_ : List ByteArray
def TBranch.E (x : TBranch) : D := .agg [.v (.int .i64 x.expr_.k), .v (.string x.expr_.n), .lst (x.expr_.a.map Ex.E), .v (.string x.var_), .v (.string x.con_), .lst (x.vars_.map D.str)]
theorem TBranch.E_fold (x : TBranch) : D.agg [.v (.int .i64 x.expr_.k), .v (.string x.expr_.n), .lst (x.expr_.a.map Ex.E), .v (.string x.var_), .v (.string x.con_), .lst (x.vars_.map D.str)] = x.E := rfl
theorem TBranch.E_cells (x : TBranch) : x.E.cells = [.v (.int .i64 x.expr_.k), .v (.string x.expr_.n), .lst (x.expr_.a.map Ex.E), .v (.string x.var_), .v (.string x.con_), .lst (x.vars_.map D.str)] := rfl
theorem TBranch.acells (x : TBranch) : (A.d x.E).cells? = some [.d (.v (.int .i64 x.expr_.k)), .d (.v (.string x.expr_.n)), .d (.lst (x.expr_.a.map Ex.E)), .d (.v (.string x.var_)), .d (.v (.string x.con_)), .d (.lst (x.vars_.map D.str))] := rfl
theorem TBranch.flat (l : List TBranch) : Flat 6 (l.map TBranch.E) := fun y hy => by obtain ⟨x, _, rfl⟩ := List.mem_map.1 hy; rfl
attribute [go_sem] TBranch.E_fold TBranch.E_cells TBranch.acells TBranch.flat
theorem TBranch.ext_iff' {a b : TBranch} : a = b ↔ a.expr_ = b.expr_ ∧ a.var_ = b.var_ ∧ a.con_ = b.con_ ∧ a.vars_ = b.vars_ := by cases a; cases b; simp
def TBranch.ok (x : TBranch) : Prop := x.expr_.ok ∧ x.var_.size ≤ 9223372036854775807 ∧ x.con_.size ≤ 9223372036854775807 ∧ (x.vars_.length ≤ 9223372036854775807 ∧ ∀ y ∈ x.vars_, y.size ≤ 9223372036854775807)
def TBranch.sm (x : TBranch) : Prop := x.expr_.sm ∧ x.var_.size ≤ 1048576 ∧ x.con_.size ≤ 1048576 ∧ (x.vars_.length ≤ 1048576 ∧ ∀ y ∈ x.vars_, y.size ≤ 1048576)
def TBranch.sz (x : TBranch) : Int → Int := szSeq [szE x.expr_, fun l => l - (x.var_.size : Int), fun l => l - (x.con_.size : Int), (szL (fun s l => l - (s.size : Int))) x.vars_]
theorem TBranch.sz_steps (x : TBranch) : ∀ f ∈ ([(szE x.expr_ : Int → Int), (fun l => l - (x.var_.size : Int) : Int → Int), (fun l => l - (x.con_.size : Int) : Int → Int), ((szL (fun s l => l - (s.size : Int))) x.vars_ : Int → Int)] : List (Int → Int)), ∀ l : Int, 0 ≤ l → f l ≤ l := by
  intro f hf
  rcases List.mem_cons.1 hf with rfl | hf
  · exact (fun l h => (szE_le x.expr_ l h).2)
  rcases List.mem_cons.1 hf with rfl | hf
  · exact (fun l h => szB_le x.var_ l)
  rcases List.mem_cons.1 hf with rfl | hf
  · exact (fun l h => szB_le x.con_ l)
  rcases List.mem_cons.1 hf with rfl | hf
  · exact (fun l h => (szL_le (fun y _ => (fun l h => szB_le y l)) l h).2)
  cases hf
theorem TBranch.sz_le (x : TBranch) (l : Int) (h0 : 0 ≤ l) : -1 ≤ x.sz l ∧ x.sz l ≤ l := szSeq_le x.sz_steps l h0
theorem TBranch.sz_small (x : TBranch) (l : Int) (h0 : 0 ≤ l) (h1 : l ≤ 1048576) (h2 : 0 ≤ x.sz l) : x.sm := by
  have h := szSeq_small (B := 1048576) x.sz_steps l h0 h1 h2
  obtain ⟨m0, a0, b0, c0⟩ := h _ (List.mem_cons_self)
  obtain ⟨m1, a1, b1, c1⟩ := h _ (List.mem_cons_of_mem _ (List.mem_cons_self))
  obtain ⟨m2, a2, b2, c2⟩ := h _ (List.mem_cons_of_mem _ (List.mem_cons_of_mem _ (List.mem_cons_self)))
  obtain ⟨m3, a3, b3, c3⟩ := h _ (List.mem_cons_of_mem _ (List.mem_cons_of_mem _ (List.mem_cons_of_mem _ (List.mem_cons_self))))
  exact ⟨(fun l h0 h1 h2 => szE_sm x.expr_ l h0 h1 h2) m0 a0 b0 c0, (fun l h0 h1 h2 => szB_small x.var_ l h1 h2) m1 a1 b1 c1, (fun l h0 h1 h2 => szB_small x.con_ l h1 h2) m2 a2 b2 c2, (fun l h0 h1 h2 => szL_small (sm := fun y => y.size ≤ 1048576) (fun y _ => (fun l h => szB_le y l)) (fun y _ => (fun l h0 h1 h2 => szB_small y l h1 h2)) l h0 h1 h2) m3 a3 b3 c3⟩
structure TNode where
  kind_ : Int
  expr_ : Ex
  parent_ : Int
  children_ : List Int
  var_ : ByteArray
  con_ : ByteArray
  vars_ : List ByteArray
  lets_ : List TBinding
  back_ : Int
def TNode.E (x : TNode) : D := .agg [.v (.int .i64 x.kind_), .v (.int .i64 x.expr_.k), .v (.string x.expr_.n), .lst (x.expr_.a.map Ex.E), .v (.int .i64 x.parent_), .lst (x.children_.map D.int), .v (.string x.var_), .v (.string x.con_), .lst (x.vars_.map D.str), .lst (x.lets_.map TBinding.E), .v (.int .i64 x.back_)]
theorem TNode.E_fold (x : TNode) : D.agg [.v (.int .i64 x.kind_), .v (.int .i64 x.expr_.k), .v (.string x.expr_.n), .lst (x.expr_.a.map Ex.E), .v (.int .i64 x.parent_), .lst (x.children_.map D.int), .v (.string x.var_), .v (.string x.con_), .lst (x.vars_.map D.str), .lst (x.lets_.map TBinding.E), .v (.int .i64 x.back_)] = x.E := rfl
theorem TNode.E_cells (x : TNode) : x.E.cells = [.v (.int .i64 x.kind_), .v (.int .i64 x.expr_.k), .v (.string x.expr_.n), .lst (x.expr_.a.map Ex.E), .v (.int .i64 x.parent_), .lst (x.children_.map D.int), .v (.string x.var_), .v (.string x.con_), .lst (x.vars_.map D.str), .lst (x.lets_.map TBinding.E), .v (.int .i64 x.back_)] := rfl
theorem TNode.acells (x : TNode) : (A.d x.E).cells? = some [.d (.v (.int .i64 x.kind_)), .d (.v (.int .i64 x.expr_.k)), .d (.v (.string x.expr_.n)), .d (.lst (x.expr_.a.map Ex.E)), .d (.v (.int .i64 x.parent_)), .d (.lst (x.children_.map D.int)), .d (.v (.string x.var_)), .d (.v (.string x.con_)), .d (.lst (x.vars_.map D.str)), .d (.lst (x.lets_.map TBinding.E)), .d (.v (.int .i64 x.back_))] := rfl
theorem TNode.flat (l : List TNode) : Flat 11 (l.map TNode.E) := fun y hy => by obtain ⟨x, _, rfl⟩ := List.mem_map.1 hy; rfl
attribute [go_sem] TNode.E_fold TNode.E_cells TNode.acells TNode.flat
theorem TNode.ext_iff' {a b : TNode} : a = b ↔ a.kind_ = b.kind_ ∧ a.expr_ = b.expr_ ∧ a.parent_ = b.parent_ ∧ a.children_ = b.children_ ∧ a.var_ = b.var_ ∧ a.con_ = b.con_ ∧ a.vars_ = b.vars_ ∧ a.lets_ = b.lets_ ∧ a.back_ = b.back_ := by cases a; cases b; simp
def TNode.ok (x : TNode) : Prop := x.expr_.ok ∧ x.children_.length ≤ 9223372036854775807 ∧ x.var_.size ≤ 9223372036854775807 ∧ x.con_.size ≤ 9223372036854775807 ∧ (x.vars_.length ≤ 9223372036854775807 ∧ ∀ y ∈ x.vars_, y.size ≤ 9223372036854775807) ∧ (x.lets_.length ≤ 9223372036854775807 ∧ ∀ y ∈ x.lets_, y.ok)
def TNode.sm (x : TNode) : Prop := x.expr_.sm ∧ x.children_.length ≤ 1048576 ∧ x.var_.size ≤ 1048576 ∧ x.con_.size ≤ 1048576 ∧ (x.vars_.length ≤ 1048576 ∧ ∀ y ∈ x.vars_, y.size ≤ 1048576) ∧ (x.lets_.length ≤ 1048576 ∧ ∀ y ∈ x.lets_, y.sm)
def TNode.sz (x : TNode) : Int → Int := szSeq [szE x.expr_, szI x.children_, fun l => l - (x.var_.size : Int), fun l => l - (x.con_.size : Int), (szL (fun s l => l - (s.size : Int))) x.vars_, (szL TBinding.sz) x.lets_]
theorem TNode.sz_steps (x : TNode) : ∀ f ∈ ([(szE x.expr_ : Int → Int), (szI x.children_ : Int → Int), (fun l => l - (x.var_.size : Int) : Int → Int), (fun l => l - (x.con_.size : Int) : Int → Int), ((szL (fun s l => l - (s.size : Int))) x.vars_ : Int → Int), ((szL TBinding.sz) x.lets_ : Int → Int)] : List (Int → Int)), ∀ l : Int, 0 ≤ l → f l ≤ l := by
  intro f hf
  rcases List.mem_cons.1 hf with rfl | hf
  · exact (fun l h => (szE_le x.expr_ l h).2)
  rcases List.mem_cons.1 hf with rfl | hf
  · exact (fun l h => (szI_le x.children_ l h).2)
  rcases List.mem_cons.1 hf with rfl | hf
  · exact (fun l h => szB_le x.var_ l)
  rcases List.mem_cons.1 hf with rfl | hf
  · exact (fun l h => szB_le x.con_ l)
  rcases List.mem_cons.1 hf with rfl | hf
  · exact (fun l h => (szL_le (fun y _ => (fun l h => szB_le y l)) l h).2)
  rcases List.mem_cons.1 hf with rfl | hf
  · exact (fun l h => (szL_le (fun y _ => (fun l h => (y.sz_le l h).2)) l h).2)
  cases hf
theorem TNode.sz_le (x : TNode) (l : Int) (h0 : 0 ≤ l) : -1 ≤ x.sz l ∧ x.sz l ≤ l := szSeq_le x.sz_steps l h0
theorem TNode.sz_small (x : TNode) (l : Int) (h0 : 0 ≤ l) (h1 : l ≤ 1048576) (h2 : 0 ≤ x.sz l) : x.sm := by
  have h := szSeq_small (B := 1048576) x.sz_steps l h0 h1 h2
  obtain ⟨m0, a0, b0, c0⟩ := h _ (List.mem_cons_self)
  obtain ⟨m1, a1, b1, c1⟩ := h _ (List.mem_cons_of_mem _ (List.mem_cons_self))
  obtain ⟨m2, a2, b2, c2⟩ := h _ (List.mem_cons_of_mem _ (List.mem_cons_of_mem _ (List.mem_cons_self)))
  obtain ⟨m3, a3, b3, c3⟩ := h _ (List.mem_cons_of_mem _ (List.mem_cons_of_mem _ (List.mem_cons_of_mem _ (List.mem_cons_self))))
  obtain ⟨m4, a4, b4, c4⟩ := h _ (List.mem_cons_of_mem _ (List.mem_cons_of_mem _ (List.mem_cons_of_mem _ (List.mem_cons_of_mem _ (List.mem_cons_self)))))
  obtain ⟨m5, a5, b5, c5⟩ := h _ (List.mem_cons_of_mem _ (List.mem_cons_of_mem _ (List.mem_cons_of_mem _ (List.mem_cons_of_mem _ (List.mem_cons_of_mem _ (List.mem_cons_self))))))
  exact ⟨(fun l h0 h1 h2 => szE_sm x.expr_ l h0 h1 h2) m0 a0 b0 c0, (fun l h0 h1 h2 => szI_small x.children_ l h0 h1 h2) m1 a1 b1 c1, (fun l h0 h1 h2 => szB_small x.var_ l h1 h2) m2 a2 b2 c2, (fun l h0 h1 h2 => szB_small x.con_ l h1 h2) m3 a3 b3 c3, (fun l h0 h1 h2 => szL_small (sm := fun y => y.size ≤ 1048576) (fun y _ => (fun l h => szB_le y l)) (fun y _ => (fun l h0 h1 h2 => szB_small y l h1 h2)) l h0 h1 h2) m4 a4 b4 c4, (fun l h0 h1 h2 => szL_small (sm := fun y => y.sm) (fun y _ => (fun l h => (y.sz_le l h).2)) (fun y _ => (fun l h0 h1 h2 => y.sz_small l h0 h1 h2)) l h0 h1 h2) m5 a5 b5 c5⟩
structure TTree where
  nodes_ : List TNode
def TTree.E (x : TTree) : D := .agg [.lst (x.nodes_.map TNode.E)]
theorem TTree.E_fold (x : TTree) : D.agg [.lst (x.nodes_.map TNode.E)] = x.E := rfl
theorem TTree.E_cells (x : TTree) : x.E.cells = [.lst (x.nodes_.map TNode.E)] := rfl
theorem TTree.acells (x : TTree) : (A.d x.E).cells? = some [.d (.lst (x.nodes_.map TNode.E))] := rfl
theorem TTree.flat (l : List TTree) : Flat 1 (l.map TTree.E) := fun y hy => by obtain ⟨x, _, rfl⟩ := List.mem_map.1 hy; rfl
attribute [go_sem] TTree.E_fold TTree.E_cells TTree.acells TTree.flat
theorem TTree.ext_iff' {a b : TTree} : a = b ↔ a.nodes_ = b.nodes_ := by cases a; cases b; simp
def TTree.ok (x : TTree) : Prop := (x.nodes_.length ≤ 9223372036854775807 ∧ ∀ y ∈ x.nodes_, y.ok)
def TTree.sm (x : TTree) : Prop := (x.nodes_.length ≤ 1048576 ∧ ∀ y ∈ x.nodes_, y.sm)
def TTree.sz (x : TTree) : Int → Int := szSeq [(szL TNode.sz) x.nodes_]
theorem TTree.sz_steps (x : TTree) : ∀ f ∈ ([((szL TNode.sz) x.nodes_ : Int → Int)] : List (Int → Int)), ∀ l : Int, 0 ≤ l → f l ≤ l := by
  intro f hf
  rcases List.mem_cons.1 hf with rfl | hf
  · exact (fun l h => (szL_le (fun y _ => (fun l h => (y.sz_le l h).2)) l h).2)
  cases hf
theorem TTree.sz_le (x : TTree) (l : Int) (h0 : 0 ≤ l) : -1 ≤ x.sz l ∧ x.sz l ≤ l := szSeq_le x.sz_steps l h0
theorem TTree.sz_small (x : TTree) (l : Int) (h0 : 0 ≤ l) (h1 : l ≤ 1048576) (h2 : 0 ≤ x.sz l) : x.sm := by
  have h := szSeq_small (B := 1048576) x.sz_steps l h0 h1 h2
  obtain ⟨m0, a0, b0, c0⟩ := h _ (List.mem_cons_self)
  exact (fun l h0 h1 h2 => szL_small (sm := fun y => y.sm) (fun y _ => (fun l h => (y.sz_le l h).2)) (fun y _ => (fun l h0 h1 h2 => y.sz_small l h0 h1 h2)) l h0 h1 h2) m0 a0 b0 c0
structure TResidual where
  program_ : TProgram
  start_ : Ex
def TResidual.E (x : TResidual) : D := .agg [.lst (x.program_.rules_.map TRule.E), .v (.int .i64 x.start_.k), .v (.string x.start_.n), .lst (x.start_.a.map Ex.E)]
theorem TResidual.E_fold (x : TResidual) : D.agg [.lst (x.program_.rules_.map TRule.E), .v (.int .i64 x.start_.k), .v (.string x.start_.n), .lst (x.start_.a.map Ex.E)] = x.E := rfl
theorem TResidual.E_cells (x : TResidual) : x.E.cells = [.lst (x.program_.rules_.map TRule.E), .v (.int .i64 x.start_.k), .v (.string x.start_.n), .lst (x.start_.a.map Ex.E)] := rfl
theorem TResidual.acells (x : TResidual) : (A.d x.E).cells? = some [.d (.lst (x.program_.rules_.map TRule.E)), .d (.v (.int .i64 x.start_.k)), .d (.v (.string x.start_.n)), .d (.lst (x.start_.a.map Ex.E))] := rfl
theorem TResidual.flat (l : List TResidual) : Flat 4 (l.map TResidual.E) := fun y hy => by obtain ⟨x, _, rfl⟩ := List.mem_map.1 hy; rfl
attribute [go_sem] TResidual.E_fold TResidual.E_cells TResidual.acells TResidual.flat
theorem TResidual.ext_iff' {a b : TResidual} : a = b ↔ a.program_ = b.program_ ∧ a.start_ = b.start_ := by cases a; cases b; simp
def TResidual.ok (x : TResidual) : Prop := x.program_.ok ∧ x.start_.ok
def TResidual.sm (x : TResidual) : Prop := x.program_.sm ∧ x.start_.sm
def TResidual.sz (x : TResidual) : Int → Int := szSeq [TProgram.sz x.program_, szE x.start_]
theorem TResidual.sz_steps (x : TResidual) : ∀ f ∈ ([(TProgram.sz x.program_ : Int → Int), (szE x.start_ : Int → Int)] : List (Int → Int)), ∀ l : Int, 0 ≤ l → f l ≤ l := by
  intro f hf
  rcases List.mem_cons.1 hf with rfl | hf
  · exact (fun l h => (x.program_.sz_le l h).2)
  rcases List.mem_cons.1 hf with rfl | hf
  · exact (fun l h => (szE_le x.start_ l h).2)
  cases hf
theorem TResidual.sz_le (x : TResidual) (l : Int) (h0 : 0 ≤ l) : -1 ≤ x.sz l ∧ x.sz l ≤ l := szSeq_le x.sz_steps l h0
theorem TResidual.sz_small (x : TResidual) (l : Int) (h0 : 0 ≤ l) (h1 : l ≤ 1048576) (h2 : 0 ≤ x.sz l) : x.sm := by
  have h := szSeq_small (B := 1048576) x.sz_steps l h0 h1 h2
  obtain ⟨m0, a0, b0, c0⟩ := h _ (List.mem_cons_self)
  obtain ⟨m1, a1, b1, c1⟩ := h _ (List.mem_cons_of_mem _ (List.mem_cons_self))
  exact ⟨(fun l h0 h1 h2 => x.program_.sz_small l h0 h1 h2) m0 a0 b0 c0, (fun l h0 h1 h2 => szE_sm x.start_ l h0 h1 h2) m1 a1 b1 c1⟩
structure TShape where
  name_ : ByteArray
  arity_ : Int
def TShape.E (x : TShape) : D := .agg [.v (.string x.name_), .v (.int .i64 x.arity_)]
theorem TShape.E_fold (x : TShape) : D.agg [.v (.string x.name_), .v (.int .i64 x.arity_)] = x.E := rfl
theorem TShape.E_cells (x : TShape) : x.E.cells = [.v (.string x.name_), .v (.int .i64 x.arity_)] := rfl
theorem TShape.acells (x : TShape) : (A.d x.E).cells? = some [.d (.v (.string x.name_)), .d (.v (.int .i64 x.arity_))] := rfl
theorem TShape.flat (l : List TShape) : Flat 2 (l.map TShape.E) := fun y hy => by obtain ⟨x, _, rfl⟩ := List.mem_map.1 hy; rfl
attribute [go_sem] TShape.E_fold TShape.E_cells TShape.acells TShape.flat
theorem TShape.ext_iff' {a b : TShape} : a = b ↔ a.name_ = b.name_ ∧ a.arity_ = b.arity_ := by cases a; cases b; simp
def TShape.ok (x : TShape) : Prop := x.name_.size ≤ 9223372036854775807
def TShape.sm (x : TShape) : Prop := x.name_.size ≤ 1048576
def TShape.sz (x : TShape) : Int → Int := szSeq [fun l => l - (x.name_.size : Int)]
theorem TShape.sz_steps (x : TShape) : ∀ f ∈ ([(fun l => l - (x.name_.size : Int) : Int → Int)] : List (Int → Int)), ∀ l : Int, 0 ≤ l → f l ≤ l := by
  intro f hf
  rcases List.mem_cons.1 hf with rfl | hf
  · exact (fun l h => szB_le x.name_ l)
  cases hf
theorem TShape.sz_le (x : TShape) (l : Int) (h0 : 0 ≤ l) : -1 ≤ x.sz l ∧ x.sz l ≤ l := szSeq_le x.sz_steps l h0
theorem TShape.sz_small (x : TShape) (l : Int) (h0 : 0 ≤ l) (h1 : l ≤ 1048576) (h2 : 0 ≤ x.sz l) : x.sm := by
  have h := szSeq_small (B := 1048576) x.sz_steps l h0 h1 h2
  obtain ⟨m0, a0, b0, c0⟩ := h _ (List.mem_cons_self)
  exact (fun l h0 h1 h2 => szB_small x.name_ l h1 h2) m0 a0 b0 c0
structure TComparison where
  cases_ : Int
  same_ : Int
  open_ : Int
  source_ : Int
  target_ : Int
def TComparison.E (x : TComparison) : D := .agg [.v (.int .i64 x.cases_), .v (.int .i64 x.same_), .v (.int .i64 x.open_), .v (.int .i64 x.source_), .v (.int .i64 x.target_)]
theorem TComparison.E_fold (x : TComparison) : D.agg [.v (.int .i64 x.cases_), .v (.int .i64 x.same_), .v (.int .i64 x.open_), .v (.int .i64 x.source_), .v (.int .i64 x.target_)] = x.E := rfl
theorem TComparison.E_cells (x : TComparison) : x.E.cells = [.v (.int .i64 x.cases_), .v (.int .i64 x.same_), .v (.int .i64 x.open_), .v (.int .i64 x.source_), .v (.int .i64 x.target_)] := rfl
theorem TComparison.acells (x : TComparison) : (A.d x.E).cells? = some [.d (.v (.int .i64 x.cases_)), .d (.v (.int .i64 x.same_)), .d (.v (.int .i64 x.open_)), .d (.v (.int .i64 x.source_)), .d (.v (.int .i64 x.target_))] := rfl
theorem TComparison.flat (l : List TComparison) : Flat 5 (l.map TComparison.E) := fun y hy => by obtain ⟨x, _, rfl⟩ := List.mem_map.1 hy; rfl
attribute [go_sem] TComparison.E_fold TComparison.E_cells TComparison.acells TComparison.flat
theorem TComparison.ext_iff' {a b : TComparison} : a = b ↔ a.cases_ = b.cases_ ∧ a.same_ = b.same_ ∧ a.open_ = b.open_ ∧ a.source_ = b.source_ ∧ a.target_ = b.target_ := by cases a; cases b; simp
def TComparison.ok (x : TComparison) : Prop := True
def TComparison.sm (x : TComparison) : Prop := True
def TComparison.sz (x : TComparison) : Int → Int := szSeq []
theorem TComparison.sz_steps (x : TComparison) : ∀ f ∈ ([] : List (Int → Int)), ∀ l : Int, 0 ≤ l → f l ≤ l := by
  intro f hf
  cases hf
theorem TComparison.sz_le (x : TComparison) (l : Int) (h0 : 0 ≤ l) : -1 ≤ x.sz l ∧ x.sz l ≤ l := szSeq_le x.sz_steps l h0
theorem TComparison.sz_small (x : TComparison) (l : Int) (h0 : 0 ≤ l) (h1 : l ≤ 1048576) (h2 : 0 ≤ x.sz l) : x.sm := by
  trivial
structure TSorts where
  cons_ : List ByteArray
  of_ : List Int
  args_ : List (List Int)
  funs_ : List ByteArray
  params_ : List (List Int)
  results_ : List Int
  count_ : Int
def TSorts.E (x : TSorts) : D := .agg [.lst (x.cons_.map D.str), .lst (x.of_.map D.int), .lst (x.args_.map (fun r => D.lst (r.map D.int))), .lst (x.funs_.map D.str), .lst (x.params_.map (fun r => D.lst (r.map D.int))), .lst (x.results_.map D.int), .v (.int .i64 x.count_)]
theorem TSorts.E_fold (x : TSorts) : D.agg [.lst (x.cons_.map D.str), .lst (x.of_.map D.int), .lst (x.args_.map (fun r => D.lst (r.map D.int))), .lst (x.funs_.map D.str), .lst (x.params_.map (fun r => D.lst (r.map D.int))), .lst (x.results_.map D.int), .v (.int .i64 x.count_)] = x.E := rfl
theorem TSorts.E_cells (x : TSorts) : x.E.cells = [.lst (x.cons_.map D.str), .lst (x.of_.map D.int), .lst (x.args_.map (fun r => D.lst (r.map D.int))), .lst (x.funs_.map D.str), .lst (x.params_.map (fun r => D.lst (r.map D.int))), .lst (x.results_.map D.int), .v (.int .i64 x.count_)] := rfl
theorem TSorts.acells (x : TSorts) : (A.d x.E).cells? = some [.d (.lst (x.cons_.map D.str)), .d (.lst (x.of_.map D.int)), .d (.lst (x.args_.map (fun r => D.lst (r.map D.int)))), .d (.lst (x.funs_.map D.str)), .d (.lst (x.params_.map (fun r => D.lst (r.map D.int)))), .d (.lst (x.results_.map D.int)), .d (.v (.int .i64 x.count_))] := rfl
theorem TSorts.flat (l : List TSorts) : Flat 7 (l.map TSorts.E) := fun y hy => by obtain ⟨x, _, rfl⟩ := List.mem_map.1 hy; rfl
attribute [go_sem] TSorts.E_fold TSorts.E_cells TSorts.acells TSorts.flat
theorem TSorts.ext_iff' {a b : TSorts} : a = b ↔ a.cons_ = b.cons_ ∧ a.of_ = b.of_ ∧ a.args_ = b.args_ ∧ a.funs_ = b.funs_ ∧ a.params_ = b.params_ ∧ a.results_ = b.results_ ∧ a.count_ = b.count_ := by cases a; cases b; simp
def TSorts.ok (x : TSorts) : Prop := (x.cons_.length ≤ 9223372036854775807 ∧ ∀ y ∈ x.cons_, y.size ≤ 9223372036854775807) ∧ x.of_.length ≤ 9223372036854775807 ∧ (x.args_.length ≤ 9223372036854775807 ∧ ∀ y ∈ x.args_, y.length ≤ 9223372036854775807) ∧ (x.funs_.length ≤ 9223372036854775807 ∧ ∀ y ∈ x.funs_, y.size ≤ 9223372036854775807) ∧ (x.params_.length ≤ 9223372036854775807 ∧ ∀ y ∈ x.params_, y.length ≤ 9223372036854775807) ∧ x.results_.length ≤ 9223372036854775807
def TSorts.sm (x : TSorts) : Prop := (x.cons_.length ≤ 1048576 ∧ ∀ y ∈ x.cons_, y.size ≤ 1048576) ∧ x.of_.length ≤ 1048576 ∧ (x.args_.length ≤ 1048576 ∧ ∀ y ∈ x.args_, y.length ≤ 1048576) ∧ (x.funs_.length ≤ 1048576 ∧ ∀ y ∈ x.funs_, y.size ≤ 1048576) ∧ (x.params_.length ≤ 1048576 ∧ ∀ y ∈ x.params_, y.length ≤ 1048576) ∧ x.results_.length ≤ 1048576
def TSorts.sz (x : TSorts) : Int → Int := szSeq [(szL (fun s l => l - (s.size : Int))) x.cons_, szI x.of_, (szL szI) x.args_, (szL (fun s l => l - (s.size : Int))) x.funs_, (szL szI) x.params_, szI x.results_]
theorem TSorts.sz_steps (x : TSorts) : ∀ f ∈ ([((szL (fun s l => l - (s.size : Int))) x.cons_ : Int → Int), (szI x.of_ : Int → Int), ((szL szI) x.args_ : Int → Int), ((szL (fun s l => l - (s.size : Int))) x.funs_ : Int → Int), ((szL szI) x.params_ : Int → Int), (szI x.results_ : Int → Int)] : List (Int → Int)), ∀ l : Int, 0 ≤ l → f l ≤ l := by
  intro f hf
  rcases List.mem_cons.1 hf with rfl | hf
  · exact (fun l h => (szL_le (fun y _ => (fun l h => szB_le y l)) l h).2)
  rcases List.mem_cons.1 hf with rfl | hf
  · exact (fun l h => (szI_le x.of_ l h).2)
  rcases List.mem_cons.1 hf with rfl | hf
  · exact (fun l h => (szL_le (fun y _ => (fun l h => (szI_le y l h).2)) l h).2)
  rcases List.mem_cons.1 hf with rfl | hf
  · exact (fun l h => (szL_le (fun y _ => (fun l h => szB_le y l)) l h).2)
  rcases List.mem_cons.1 hf with rfl | hf
  · exact (fun l h => (szL_le (fun y _ => (fun l h => (szI_le y l h).2)) l h).2)
  rcases List.mem_cons.1 hf with rfl | hf
  · exact (fun l h => (szI_le x.results_ l h).2)
  cases hf
theorem TSorts.sz_le (x : TSorts) (l : Int) (h0 : 0 ≤ l) : -1 ≤ x.sz l ∧ x.sz l ≤ l := szSeq_le x.sz_steps l h0
theorem TSorts.sz_small (x : TSorts) (l : Int) (h0 : 0 ≤ l) (h1 : l ≤ 1048576) (h2 : 0 ≤ x.sz l) : x.sm := by
  have h := szSeq_small (B := 1048576) x.sz_steps l h0 h1 h2
  obtain ⟨m0, a0, b0, c0⟩ := h _ (List.mem_cons_self)
  obtain ⟨m1, a1, b1, c1⟩ := h _ (List.mem_cons_of_mem _ (List.mem_cons_self))
  obtain ⟨m2, a2, b2, c2⟩ := h _ (List.mem_cons_of_mem _ (List.mem_cons_of_mem _ (List.mem_cons_self)))
  obtain ⟨m3, a3, b3, c3⟩ := h _ (List.mem_cons_of_mem _ (List.mem_cons_of_mem _ (List.mem_cons_of_mem _ (List.mem_cons_self))))
  obtain ⟨m4, a4, b4, c4⟩ := h _ (List.mem_cons_of_mem _ (List.mem_cons_of_mem _ (List.mem_cons_of_mem _ (List.mem_cons_of_mem _ (List.mem_cons_self)))))
  obtain ⟨m5, a5, b5, c5⟩ := h _ (List.mem_cons_of_mem _ (List.mem_cons_of_mem _ (List.mem_cons_of_mem _ (List.mem_cons_of_mem _ (List.mem_cons_of_mem _ (List.mem_cons_self))))))
  exact ⟨(fun l h0 h1 h2 => szL_small (sm := fun y => y.size ≤ 1048576) (fun y _ => (fun l h => szB_le y l)) (fun y _ => (fun l h0 h1 h2 => szB_small y l h1 h2)) l h0 h1 h2) m0 a0 b0 c0, (fun l h0 h1 h2 => szI_small x.of_ l h0 h1 h2) m1 a1 b1 c1, (fun l h0 h1 h2 => szL_small (sm := fun y => y.length ≤ 1048576) (fun y _ => (fun l h => (szI_le y l h).2)) (fun y _ => (fun l h0 h1 h2 => szI_small y l h0 h1 h2)) l h0 h1 h2) m2 a2 b2 c2, (fun l h0 h1 h2 => szL_small (sm := fun y => y.size ≤ 1048576) (fun y _ => (fun l h => szB_le y l)) (fun y _ => (fun l h0 h1 h2 => szB_small y l h1 h2)) l h0 h1 h2) m3 a3 b3 c3, (fun l h0 h1 h2 => szL_small (sm := fun y => y.length ≤ 1048576) (fun y _ => (fun l h => (szI_le y l h).2)) (fun y _ => (fun l h0 h1 h2 => szI_small y l h0 h1 h2)) l h0 h1 h2) m4 a4 b4 c4, (fun l h0 h1 h2 => szI_small x.results_ l h0 h1 h2) m5 a5 b5 c5⟩
structure TTyping where
  name_ : ByteArray
  sort_ : Int
def TTyping.E (x : TTyping) : D := .agg [.v (.string x.name_), .v (.int .i64 x.sort_)]
theorem TTyping.E_fold (x : TTyping) : D.agg [.v (.string x.name_), .v (.int .i64 x.sort_)] = x.E := rfl
theorem TTyping.E_cells (x : TTyping) : x.E.cells = [.v (.string x.name_), .v (.int .i64 x.sort_)] := rfl
theorem TTyping.acells (x : TTyping) : (A.d x.E).cells? = some [.d (.v (.string x.name_)), .d (.v (.int .i64 x.sort_))] := rfl
theorem TTyping.flat (l : List TTyping) : Flat 2 (l.map TTyping.E) := fun y hy => by obtain ⟨x, _, rfl⟩ := List.mem_map.1 hy; rfl
attribute [go_sem] TTyping.E_fold TTyping.E_cells TTyping.acells TTyping.flat
theorem TTyping.ext_iff' {a b : TTyping} : a = b ↔ a.name_ = b.name_ ∧ a.sort_ = b.sort_ := by cases a; cases b; simp
def TTyping.ok (x : TTyping) : Prop := x.name_.size ≤ 9223372036854775807
def TTyping.sm (x : TTyping) : Prop := x.name_.size ≤ 1048576
def TTyping.sz (x : TTyping) : Int → Int := szSeq [fun l => l - (x.name_.size : Int)]
theorem TTyping.sz_steps (x : TTyping) : ∀ f ∈ ([(fun l => l - (x.name_.size : Int) : Int → Int)] : List (Int → Int)), ∀ l : Int, 0 ≤ l → f l ≤ l := by
  intro f hf
  rcases List.mem_cons.1 hf with rfl | hf
  · exact (fun l h => szB_le x.name_ l)
  cases hf
theorem TTyping.sz_le (x : TTyping) (l : Int) (h0 : 0 ≤ l) : -1 ≤ x.sz l ∧ x.sz l ≤ l := szSeq_le x.sz_steps l h0
theorem TTyping.sz_small (x : TTyping) (l : Int) (h0 : 0 ≤ l) (h1 : l ≤ 1048576) (h2 : 0 ≤ x.sz l) : x.sm := by
  have h := szSeq_small (B := 1048576) x.sz_steps l h0 h1 h2
  obtain ⟨m0, a0, b0, c0⟩ := h _ (List.mem_cons_self)
  exact (fun l h0 h1 h2 => szB_small x.name_ l h1 h2) m0 a0 b0 c0
structure TVerdict where
  code_ : Int
  case_ : List TBinding
def TVerdict.E (x : TVerdict) : D := .agg [.v (.int .i64 x.code_), .lst (x.case_.map TBinding.E)]
theorem TVerdict.E_fold (x : TVerdict) : D.agg [.v (.int .i64 x.code_), .lst (x.case_.map TBinding.E)] = x.E := rfl
theorem TVerdict.E_cells (x : TVerdict) : x.E.cells = [.v (.int .i64 x.code_), .lst (x.case_.map TBinding.E)] := rfl
theorem TVerdict.acells (x : TVerdict) : (A.d x.E).cells? = some [.d (.v (.int .i64 x.code_)), .d (.lst (x.case_.map TBinding.E))] := rfl
theorem TVerdict.flat (l : List TVerdict) : Flat 2 (l.map TVerdict.E) := fun y hy => by obtain ⟨x, _, rfl⟩ := List.mem_map.1 hy; rfl
attribute [go_sem] TVerdict.E_fold TVerdict.E_cells TVerdict.acells TVerdict.flat
theorem TVerdict.ext_iff' {a b : TVerdict} : a = b ↔ a.code_ = b.code_ ∧ a.case_ = b.case_ := by cases a; cases b; simp
def TVerdict.ok (x : TVerdict) : Prop := (x.case_.length ≤ 9223372036854775807 ∧ ∀ y ∈ x.case_, y.ok)
def TVerdict.sm (x : TVerdict) : Prop := (x.case_.length ≤ 1048576 ∧ ∀ y ∈ x.case_, y.sm)
def TVerdict.sz (x : TVerdict) : Int → Int := szSeq [(szL TBinding.sz) x.case_]
theorem TVerdict.sz_steps (x : TVerdict) : ∀ f ∈ ([((szL TBinding.sz) x.case_ : Int → Int)] : List (Int → Int)), ∀ l : Int, 0 ≤ l → f l ≤ l := by
  intro f hf
  rcases List.mem_cons.1 hf with rfl | hf
  · exact (fun l h => (szL_le (fun y _ => (fun l h => (y.sz_le l h).2)) l h).2)
  cases hf
theorem TVerdict.sz_le (x : TVerdict) (l : Int) (h0 : 0 ≤ l) : -1 ≤ x.sz l ∧ x.sz l ≤ l := szSeq_le x.sz_steps l h0
theorem TVerdict.sz_small (x : TVerdict) (l : Int) (h0 : 0 ≤ l) (h1 : l ≤ 1048576) (h2 : 0 ≤ x.sz l) : x.sm := by
  have h := szSeq_small (B := 1048576) x.sz_steps l h0 h1 h2
  obtain ⟨m0, a0, b0, c0⟩ := h _ (List.mem_cons_self)
  exact (fun l h0 h1 h2 => szL_small (sm := fun y => y.sm) (fun y _ => (fun l h => (y.sz_le l h).2)) (fun y _ => (fun l h0 h1 h2 => y.sz_small l h0 h1 h2)) l h0 h1 h2) m0 a0 b0 c0
structure TVariant where
  policy_ : Int
  residual_ : TResidual
  rules_ : Int
  steps_ : Int
def TVariant.E (x : TVariant) : D := .agg [.v (.int .i64 x.policy_), .lst (x.residual_.program_.rules_.map TRule.E), .v (.int .i64 x.residual_.start_.k), .v (.string x.residual_.start_.n), .lst (x.residual_.start_.a.map Ex.E), .v (.int .i64 x.rules_), .v (.int .i64 x.steps_)]
theorem TVariant.E_fold (x : TVariant) : D.agg [.v (.int .i64 x.policy_), .lst (x.residual_.program_.rules_.map TRule.E), .v (.int .i64 x.residual_.start_.k), .v (.string x.residual_.start_.n), .lst (x.residual_.start_.a.map Ex.E), .v (.int .i64 x.rules_), .v (.int .i64 x.steps_)] = x.E := rfl
theorem TVariant.E_cells (x : TVariant) : x.E.cells = [.v (.int .i64 x.policy_), .lst (x.residual_.program_.rules_.map TRule.E), .v (.int .i64 x.residual_.start_.k), .v (.string x.residual_.start_.n), .lst (x.residual_.start_.a.map Ex.E), .v (.int .i64 x.rules_), .v (.int .i64 x.steps_)] := rfl
theorem TVariant.acells (x : TVariant) : (A.d x.E).cells? = some [.d (.v (.int .i64 x.policy_)), .d (.lst (x.residual_.program_.rules_.map TRule.E)), .d (.v (.int .i64 x.residual_.start_.k)), .d (.v (.string x.residual_.start_.n)), .d (.lst (x.residual_.start_.a.map Ex.E)), .d (.v (.int .i64 x.rules_)), .d (.v (.int .i64 x.steps_))] := rfl
theorem TVariant.flat (l : List TVariant) : Flat 7 (l.map TVariant.E) := fun y hy => by obtain ⟨x, _, rfl⟩ := List.mem_map.1 hy; rfl
attribute [go_sem] TVariant.E_fold TVariant.E_cells TVariant.acells TVariant.flat
theorem TVariant.ext_iff' {a b : TVariant} : a = b ↔ a.policy_ = b.policy_ ∧ a.residual_ = b.residual_ ∧ a.rules_ = b.rules_ ∧ a.steps_ = b.steps_ := by cases a; cases b; simp
def TVariant.ok (x : TVariant) : Prop := x.residual_.ok
def TVariant.sm (x : TVariant) : Prop := x.residual_.sm
def TVariant.sz (x : TVariant) : Int → Int := szSeq [TResidual.sz x.residual_]
theorem TVariant.sz_steps (x : TVariant) : ∀ f ∈ ([(TResidual.sz x.residual_ : Int → Int)] : List (Int → Int)), ∀ l : Int, 0 ≤ l → f l ≤ l := by
  intro f hf
  rcases List.mem_cons.1 hf with rfl | hf
  · exact (fun l h => (x.residual_.sz_le l h).2)
  cases hf
theorem TVariant.sz_le (x : TVariant) (l : Int) (h0 : 0 ≤ l) : -1 ≤ x.sz l ∧ x.sz l ≤ l := szSeq_le x.sz_steps l h0
theorem TVariant.sz_small (x : TVariant) (l : Int) (h0 : 0 ≤ l) (h1 : l ≤ 1048576) (h2 : 0 ≤ x.sz l) : x.sm := by
  have h := szSeq_small (B := 1048576) x.sz_steps l h0 h1 h2
  obtain ⟨m0, a0, b0, c0⟩ := h _ (List.mem_cons_self)
  exact (fun l h0 h1 h2 => x.residual_.sz_small l h0 h1 h2) m0 a0 b0 c0
structure TEvent where
  node_ : Int
  action_ : Int
  other_ : Int
  nodes_ : Int
def TEvent.E (x : TEvent) : D := .agg [.v (.int .i64 x.node_), .v (.int .i64 x.action_), .v (.int .i64 x.other_), .v (.int .i64 x.nodes_)]
theorem TEvent.E_fold (x : TEvent) : D.agg [.v (.int .i64 x.node_), .v (.int .i64 x.action_), .v (.int .i64 x.other_), .v (.int .i64 x.nodes_)] = x.E := rfl
theorem TEvent.E_cells (x : TEvent) : x.E.cells = [.v (.int .i64 x.node_), .v (.int .i64 x.action_), .v (.int .i64 x.other_), .v (.int .i64 x.nodes_)] := rfl
theorem TEvent.acells (x : TEvent) : (A.d x.E).cells? = some [.d (.v (.int .i64 x.node_)), .d (.v (.int .i64 x.action_)), .d (.v (.int .i64 x.other_)), .d (.v (.int .i64 x.nodes_))] := rfl
theorem TEvent.flat (l : List TEvent) : Flat 4 (l.map TEvent.E) := fun y hy => by obtain ⟨x, _, rfl⟩ := List.mem_map.1 hy; rfl
attribute [go_sem] TEvent.E_fold TEvent.E_cells TEvent.acells TEvent.flat
theorem TEvent.ext_iff' {a b : TEvent} : a = b ↔ a.node_ = b.node_ ∧ a.action_ = b.action_ ∧ a.other_ = b.other_ ∧ a.nodes_ = b.nodes_ := by cases a; cases b; simp
def TEvent.ok (x : TEvent) : Prop := True
def TEvent.sm (x : TEvent) : Prop := True
def TEvent.sz (x : TEvent) : Int → Int := szSeq []
theorem TEvent.sz_steps (x : TEvent) : ∀ f ∈ ([] : List (Int → Int)), ∀ l : Int, 0 ≤ l → f l ≤ l := by
  intro f hf
  cases hf
theorem TEvent.sz_le (x : TEvent) (l : Int) (h0 : 0 ≤ l) : -1 ≤ x.sz l ∧ x.sz l ≤ l := szSeq_le x.sz_steps l h0
theorem TEvent.sz_small (x : TEvent) (l : Int) (h0 : 0 ≤ l) (h1 : l ≤ 1048576) (h2 : 0 ≤ x.sz l) : x.sm := by
  trivial
structure TEntry where
  goal_ : Ex
  uses_ : List ByteArray
  done_ : Bool
  residual_ : TResidual
def TEntry.E (x : TEntry) : D := .agg [.v (.int .i64 x.goal_.k), .v (.string x.goal_.n), .lst (x.goal_.a.map Ex.E), .lst (x.uses_.map D.str), .v (.bool x.done_), .lst (x.residual_.program_.rules_.map TRule.E), .v (.int .i64 x.residual_.start_.k), .v (.string x.residual_.start_.n), .lst (x.residual_.start_.a.map Ex.E)]
theorem TEntry.E_fold (x : TEntry) : D.agg [.v (.int .i64 x.goal_.k), .v (.string x.goal_.n), .lst (x.goal_.a.map Ex.E), .lst (x.uses_.map D.str), .v (.bool x.done_), .lst (x.residual_.program_.rules_.map TRule.E), .v (.int .i64 x.residual_.start_.k), .v (.string x.residual_.start_.n), .lst (x.residual_.start_.a.map Ex.E)] = x.E := rfl
theorem TEntry.E_cells (x : TEntry) : x.E.cells = [.v (.int .i64 x.goal_.k), .v (.string x.goal_.n), .lst (x.goal_.a.map Ex.E), .lst (x.uses_.map D.str), .v (.bool x.done_), .lst (x.residual_.program_.rules_.map TRule.E), .v (.int .i64 x.residual_.start_.k), .v (.string x.residual_.start_.n), .lst (x.residual_.start_.a.map Ex.E)] := rfl
theorem TEntry.acells (x : TEntry) : (A.d x.E).cells? = some [.d (.v (.int .i64 x.goal_.k)), .d (.v (.string x.goal_.n)), .d (.lst (x.goal_.a.map Ex.E)), .d (.lst (x.uses_.map D.str)), .d (.v (.bool x.done_)), .d (.lst (x.residual_.program_.rules_.map TRule.E)), .d (.v (.int .i64 x.residual_.start_.k)), .d (.v (.string x.residual_.start_.n)), .d (.lst (x.residual_.start_.a.map Ex.E))] := rfl
theorem TEntry.flat (l : List TEntry) : Flat 9 (l.map TEntry.E) := fun y hy => by obtain ⟨x, _, rfl⟩ := List.mem_map.1 hy; rfl
attribute [go_sem] TEntry.E_fold TEntry.E_cells TEntry.acells TEntry.flat
theorem TEntry.ext_iff' {a b : TEntry} : a = b ↔ a.goal_ = b.goal_ ∧ a.uses_ = b.uses_ ∧ a.done_ = b.done_ ∧ a.residual_ = b.residual_ := by cases a; cases b; simp
def TEntry.ok (x : TEntry) : Prop := x.goal_.ok ∧ (x.uses_.length ≤ 9223372036854775807 ∧ ∀ y ∈ x.uses_, y.size ≤ 9223372036854775807) ∧ x.residual_.ok
def TEntry.sm (x : TEntry) : Prop := x.goal_.sm ∧ (x.uses_.length ≤ 1048576 ∧ ∀ y ∈ x.uses_, y.size ≤ 1048576) ∧ x.residual_.sm
def TEntry.sz (x : TEntry) : Int → Int := szSeq [szE x.goal_, (szL (fun s l => l - (s.size : Int))) x.uses_, TResidual.sz x.residual_]
theorem TEntry.sz_steps (x : TEntry) : ∀ f ∈ ([(szE x.goal_ : Int → Int), ((szL (fun s l => l - (s.size : Int))) x.uses_ : Int → Int), (TResidual.sz x.residual_ : Int → Int)] : List (Int → Int)), ∀ l : Int, 0 ≤ l → f l ≤ l := by
  intro f hf
  rcases List.mem_cons.1 hf with rfl | hf
  · exact (fun l h => (szE_le x.goal_ l h).2)
  rcases List.mem_cons.1 hf with rfl | hf
  · exact (fun l h => (szL_le (fun y _ => (fun l h => szB_le y l)) l h).2)
  rcases List.mem_cons.1 hf with rfl | hf
  · exact (fun l h => (x.residual_.sz_le l h).2)
  cases hf
theorem TEntry.sz_le (x : TEntry) (l : Int) (h0 : 0 ≤ l) : -1 ≤ x.sz l ∧ x.sz l ≤ l := szSeq_le x.sz_steps l h0
theorem TEntry.sz_small (x : TEntry) (l : Int) (h0 : 0 ≤ l) (h1 : l ≤ 1048576) (h2 : 0 ≤ x.sz l) : x.sm := by
  have h := szSeq_small (B := 1048576) x.sz_steps l h0 h1 h2
  obtain ⟨m0, a0, b0, c0⟩ := h _ (List.mem_cons_self)
  obtain ⟨m1, a1, b1, c1⟩ := h _ (List.mem_cons_of_mem _ (List.mem_cons_self))
  obtain ⟨m2, a2, b2, c2⟩ := h _ (List.mem_cons_of_mem _ (List.mem_cons_of_mem _ (List.mem_cons_self)))
  exact ⟨(fun l h0 h1 h2 => szE_sm x.goal_ l h0 h1 h2) m0 a0 b0 c0, (fun l h0 h1 h2 => szL_small (sm := fun y => y.size ≤ 1048576) (fun y _ => (fun l h => szB_le y l)) (fun y _ => (fun l h0 h1 h2 => szB_small y l h1 h2)) l h0 h1 h2) m1 a1 b1 c1, (fun l h0 h1 h2 => x.residual_.sz_small l h0 h1 h2) m2 a2 b2 c2⟩
structure TBase where
  program_ : TProgram
  entries_ : List TEntry
def TBase.E (x : TBase) : D := .agg [.lst (x.program_.rules_.map TRule.E), .lst (x.entries_.map TEntry.E)]
theorem TBase.E_fold (x : TBase) : D.agg [.lst (x.program_.rules_.map TRule.E), .lst (x.entries_.map TEntry.E)] = x.E := rfl
theorem TBase.E_cells (x : TBase) : x.E.cells = [.lst (x.program_.rules_.map TRule.E), .lst (x.entries_.map TEntry.E)] := rfl
theorem TBase.acells (x : TBase) : (A.d x.E).cells? = some [.d (.lst (x.program_.rules_.map TRule.E)), .d (.lst (x.entries_.map TEntry.E))] := rfl
theorem TBase.flat (l : List TBase) : Flat 2 (l.map TBase.E) := fun y hy => by obtain ⟨x, _, rfl⟩ := List.mem_map.1 hy; rfl
attribute [go_sem] TBase.E_fold TBase.E_cells TBase.acells TBase.flat
theorem TBase.ext_iff' {a b : TBase} : a = b ↔ a.program_ = b.program_ ∧ a.entries_ = b.entries_ := by cases a; cases b; simp
def TBase.ok (x : TBase) : Prop := x.program_.ok ∧ (x.entries_.length ≤ 9223372036854775807 ∧ ∀ y ∈ x.entries_, y.ok)
def TBase.sm (x : TBase) : Prop := x.program_.sm ∧ (x.entries_.length ≤ 1048576 ∧ ∀ y ∈ x.entries_, y.sm)
def TBase.sz (x : TBase) : Int → Int := szSeq [TProgram.sz x.program_, (szL TEntry.sz) x.entries_]
theorem TBase.sz_steps (x : TBase) : ∀ f ∈ ([(TProgram.sz x.program_ : Int → Int), ((szL TEntry.sz) x.entries_ : Int → Int)] : List (Int → Int)), ∀ l : Int, 0 ≤ l → f l ≤ l := by
  intro f hf
  rcases List.mem_cons.1 hf with rfl | hf
  · exact (fun l h => (x.program_.sz_le l h).2)
  rcases List.mem_cons.1 hf with rfl | hf
  · exact (fun l h => (szL_le (fun y _ => (fun l h => (y.sz_le l h).2)) l h).2)
  cases hf
theorem TBase.sz_le (x : TBase) (l : Int) (h0 : 0 ≤ l) : -1 ≤ x.sz l ∧ x.sz l ≤ l := szSeq_le x.sz_steps l h0
theorem TBase.sz_small (x : TBase) (l : Int) (h0 : 0 ≤ l) (h1 : l ≤ 1048576) (h2 : 0 ≤ x.sz l) : x.sm := by
  have h := szSeq_small (B := 1048576) x.sz_steps l h0 h1 h2
  obtain ⟨m0, a0, b0, c0⟩ := h _ (List.mem_cons_self)
  obtain ⟨m1, a1, b1, c1⟩ := h _ (List.mem_cons_of_mem _ (List.mem_cons_self))
  exact ⟨(fun l h0 h1 h2 => x.program_.sz_small l h0 h1 h2) m0 a0 b0 c0, (fun l h0 h1 h2 => szL_small (sm := fun y => y.sm) (fun y _ => (fun l h => (y.sz_le l h).2)) (fun y _ => (fun l h0 h1 h2 => y.sz_small l h0 h1 h2)) l h0 h1 h2) m1 a1 b1 c1⟩
structure TSession where
  text_ : ByteArray
  goal_ : Ex
  tree_ : TTree
  residual_ : TResidual
def TSession.E (x : TSession) : D := .agg [.v (.string x.text_), .v (.int .i64 x.goal_.k), .v (.string x.goal_.n), .lst (x.goal_.a.map Ex.E), .lst (x.tree_.nodes_.map TNode.E), .lst (x.residual_.program_.rules_.map TRule.E), .v (.int .i64 x.residual_.start_.k), .v (.string x.residual_.start_.n), .lst (x.residual_.start_.a.map Ex.E)]
theorem TSession.E_fold (x : TSession) : D.agg [.v (.string x.text_), .v (.int .i64 x.goal_.k), .v (.string x.goal_.n), .lst (x.goal_.a.map Ex.E), .lst (x.tree_.nodes_.map TNode.E), .lst (x.residual_.program_.rules_.map TRule.E), .v (.int .i64 x.residual_.start_.k), .v (.string x.residual_.start_.n), .lst (x.residual_.start_.a.map Ex.E)] = x.E := rfl
theorem TSession.E_cells (x : TSession) : x.E.cells = [.v (.string x.text_), .v (.int .i64 x.goal_.k), .v (.string x.goal_.n), .lst (x.goal_.a.map Ex.E), .lst (x.tree_.nodes_.map TNode.E), .lst (x.residual_.program_.rules_.map TRule.E), .v (.int .i64 x.residual_.start_.k), .v (.string x.residual_.start_.n), .lst (x.residual_.start_.a.map Ex.E)] := rfl
theorem TSession.acells (x : TSession) : (A.d x.E).cells? = some [.d (.v (.string x.text_)), .d (.v (.int .i64 x.goal_.k)), .d (.v (.string x.goal_.n)), .d (.lst (x.goal_.a.map Ex.E)), .d (.lst (x.tree_.nodes_.map TNode.E)), .d (.lst (x.residual_.program_.rules_.map TRule.E)), .d (.v (.int .i64 x.residual_.start_.k)), .d (.v (.string x.residual_.start_.n)), .d (.lst (x.residual_.start_.a.map Ex.E))] := rfl
theorem TSession.flat (l : List TSession) : Flat 9 (l.map TSession.E) := fun y hy => by obtain ⟨x, _, rfl⟩ := List.mem_map.1 hy; rfl
attribute [go_sem] TSession.E_fold TSession.E_cells TSession.acells TSession.flat
theorem TSession.ext_iff' {a b : TSession} : a = b ↔ a.text_ = b.text_ ∧ a.goal_ = b.goal_ ∧ a.tree_ = b.tree_ ∧ a.residual_ = b.residual_ := by cases a; cases b; simp
def TSession.ok (x : TSession) : Prop := x.text_.size ≤ 9223372036854775807 ∧ x.goal_.ok ∧ x.tree_.ok ∧ x.residual_.ok
def TSession.sm (x : TSession) : Prop := x.text_.size ≤ 1048576 ∧ x.goal_.sm ∧ x.tree_.sm ∧ x.residual_.sm
def TSession.sz (x : TSession) : Int → Int := szSeq [fun l => l - (x.text_.size : Int), szE x.goal_, TTree.sz x.tree_, TResidual.sz x.residual_]
theorem TSession.sz_steps (x : TSession) : ∀ f ∈ ([(fun l => l - (x.text_.size : Int) : Int → Int), (szE x.goal_ : Int → Int), (TTree.sz x.tree_ : Int → Int), (TResidual.sz x.residual_ : Int → Int)] : List (Int → Int)), ∀ l : Int, 0 ≤ l → f l ≤ l := by
  intro f hf
  rcases List.mem_cons.1 hf with rfl | hf
  · exact (fun l h => szB_le x.text_ l)
  rcases List.mem_cons.1 hf with rfl | hf
  · exact (fun l h => (szE_le x.goal_ l h).2)
  rcases List.mem_cons.1 hf with rfl | hf
  · exact (fun l h => (x.tree_.sz_le l h).2)
  rcases List.mem_cons.1 hf with rfl | hf
  · exact (fun l h => (x.residual_.sz_le l h).2)
  cases hf
theorem TSession.sz_le (x : TSession) (l : Int) (h0 : 0 ≤ l) : -1 ≤ x.sz l ∧ x.sz l ≤ l := szSeq_le x.sz_steps l h0
theorem TSession.sz_small (x : TSession) (l : Int) (h0 : 0 ≤ l) (h1 : l ≤ 1048576) (h2 : 0 ≤ x.sz l) : x.sm := by
  have h := szSeq_small (B := 1048576) x.sz_steps l h0 h1 h2
  obtain ⟨m0, a0, b0, c0⟩ := h _ (List.mem_cons_self)
  obtain ⟨m1, a1, b1, c1⟩ := h _ (List.mem_cons_of_mem _ (List.mem_cons_self))
  obtain ⟨m2, a2, b2, c2⟩ := h _ (List.mem_cons_of_mem _ (List.mem_cons_of_mem _ (List.mem_cons_self)))
  obtain ⟨m3, a3, b3, c3⟩ := h _ (List.mem_cons_of_mem _ (List.mem_cons_of_mem _ (List.mem_cons_of_mem _ (List.mem_cons_self))))
  exact ⟨(fun l h0 h1 h2 => szB_small x.text_ l h1 h2) m0 a0 b0 c0, (fun l h0 h1 h2 => szE_sm x.goal_ l h0 h1 h2) m1 a1 b1 c1, (fun l h0 h1 h2 => x.tree_.sz_small l h0 h1 h2) m2 a2 b2 c2, (fun l h0 h1 h2 => x.residual_.sz_small l h0 h1 h2) m3 a3 b3 c3⟩
end Go.Ab
