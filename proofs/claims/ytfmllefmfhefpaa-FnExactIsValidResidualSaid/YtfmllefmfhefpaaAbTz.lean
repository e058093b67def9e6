/- How many marks a thing takes, by its size. -/
import Derived.Test.YtfmllefmfhefpaaAbZ
import Derived.Test.YtfmllefmfhefpaaAbTy
namespace Go.Ab
open Go
set_option linter.unusedVariables false
theorem exc (x : Ex) : x.E.cnt = 2 + cnts (x.a.map Ex.E) := by rw [x.E_open]; simp only [D.cnt, cnts]; omega
theorem excs (a : List Ex) (h : ∀ x ∈ a, x.E.cnt = 2 * x.nd) : cnts (a.map Ex.E) = 2 * Ex.nds a := by
  induction a with
  | nil => rfl
  | cons x a ih =>
    have h1 := h x List.mem_cons_self
    have h2 := ih fun y hy => h y (List.mem_cons_of_mem _ hy)
    simp only [List.map_cons, cnts, Ex.nds]; omega
theorem exnd (e : Ex) : e.E.cnt = 2 * e.nd := by
  induction e using Ex.ind2 with
  | h e ih =>
    have := excs e.a ih
    have h2 := e.nd_def
    rw [exc]; omega
/-- f measures things whose marks E counts. -/
def Cn {α : Type} (f : α → Int → Int) (E : α → D) (x : α) : Prop := ∀ l : Int, 0 ≤ l → 0 ≤ f x l → f x l ≤ l ∧ ((E x).cnt : Int) ≤ 16 + 16 * (l - f x l)
theorem cn_seq {α : Type} {f : α → Int → Int} {E : α → D} : ∀ {a : List α}, (∀ x ∈ a, Cn f E x) → ∀ l : Int, 0 ≤ l → 0 ≤ szSeq (a.map f) l → szSeq (a.map f) l ≤ l ∧ (cnts (a.map E) : Int) ≤ 16 * a.length + 16 * (l - szSeq (a.map f) l)
  | [], _, l, h0, h => by simp [szSeq, cnts]
  | x :: a, hx, l, h0, h => by
    simp only [List.map_cons, szSeq] at h ⊢
    by_cases c : f x l < 0
    · rw [if_pos c] at h; omega
    rw [if_neg c] at h ⊢
    obtain ⟨h1, h2⟩ := hx x List.mem_cons_self l h0 (by omega)
    obtain ⟨h3, h4⟩ := cn_seq (fun y hy => hx y (List.mem_cons_of_mem _ hy)) (f x l) (by omega) h
    simp only [cnts, List.length_cons]
    omega
theorem cn_rows {α : Type} {f : α → Int → Int} {E : α → D} {a : List α} (hx : ∀ x ∈ a, Cn f E x) (l : Int) (h0 : 0 ≤ l) (h : 0 ≤ szL f a l) : szL f a l ≤ l ∧ (cnts (a.map E) : Int) ≤ 16 * (l - szL f a l) := by
  unfold szL at h ⊢
  by_cases c : l - (a.length : Int) < 0
  · rw [if_pos c] at h; omega
  rw [if_neg c] at h ⊢
  have := cn_seq hx (l - a.length) (by omega) h
  omega
theorem cn_row {α : Type} {f : α → Int → Int} {E : α → D} (hx : ∀ x, Cn f E x) (a : List α) : Cn (szL f) (fun r => D.lst (r.map E)) a := fun l h0 h => by
  have := cn_rows (fun x _ => hx x) l h0 h
  exact ⟨this.1, by show ((D.lst (a.map E)).cnt : Int) ≤ _; simp only [D.cnt]; omega⟩
theorem cn_str (s : ByteArray) : Cn (fun s l => l - (s.size : Int)) D.str s := fun l h0 h => by simp only [D.cnt]; omega
theorem cn_ints (a : List Int) (l : Int) (h0 : 0 ≤ l) (h : 0 ≤ szI a l) : szI a l ≤ l ∧ (cnts (a.map D.int) : Int) ≤ 16 * (l - szI a l) := by
  rw [cnts_int]
  unfold szI at h ⊢
  by_cases c : l - (a.length : Int) < 0
  · rw [if_pos c] at h; omega
  rw [if_neg c] at h ⊢
  omega
theorem cn_irow (a : List Int) : Cn szI (fun r => D.lst (r.map D.int)) a := fun l h0 h => by
  have := cn_ints a l h0 h
  exact ⟨this.1, by show ((D.lst (a.map D.int)).cnt : Int) ≤ _; simp only [D.cnt]; omega⟩
theorem cn_ex (e : Ex) : Cn szE Ex.E e := fun l h0 h => by
  have h1 := szE_nd e l h0 h
  have h2 := szE_le e l h0
  have h3 := e.nd_def
  rw [exnd]; omega
theorem cn_ex2 (e : Ex) (l : Int) (h0 : 0 ≤ l) (h : 0 ≤ szE e l) : szE e l ≤ l ∧ (e.E.cnt : Int) ≤ 2 + 16 * (l - szE e l) := by
  have h1 := szE_nd e l h0 h
  have h2 := szE_le e l h0
  have h3 := e.nd_def
  rw [exnd]; omega
theorem cn_exS (a : List Ex) (l : Int) (h0 : 0 ≤ l) (h : 0 ≤ szS a l) : szS a l ≤ l ∧ (cnts (a.map Ex.E) : Int) ≤ 16 * (l - szS a l) := by
  have h2 := szS_le a l h0
  unfold szS at h ⊢ h2
  by_cases c : l - (a.length : Int) < 0
  · rw [if_pos c] at h; omega
  rw [if_neg c] at h ⊢ h2
  have h1 := szR_nd (fun e _ l h0 h => szE_nd e l h0 h) (l - a.length) (by omega) h
  rw [excs a fun x _ => exnd x]
  omega
theorem cn_exR (a : List Ex) : Cn szS (fun r => D.lst (r.map Ex.E)) a := fun l h0 h => by
  have := cn_exS a l h0 h
  exact ⟨this.1, by show ((D.lst (a.map Ex.E)).cnt : Int) ≤ _; simp only [D.cnt]; omega⟩
theorem cn_step {f : Int → Int} {r : List (Int → Int)} {l : Int} (h : 0 ≤ szSeq (f :: r) l) : ∃ m : Int, m = f l ∧ 0 ≤ m ∧ szSeq (f :: r) l = szSeq r m := by
  simp only [szSeq] at h ⊢
  by_cases c : f l < 0
  · rw [if_pos c] at h; omega
  · exact ⟨_, rfl, by omega, if_neg c⟩
theorem Rule_nd (x : TRule) (l : Int) (h0 : 0 ≤ l) (h1 : l ≤ 1048576) (h : 0 ≤ x.sz l) : x.body_.nd ≤ 1048577 := by
  obtain ⟨m, a, b, c⟩ := szSeq_small (B := 1048576) x.sz_steps l h0 h1 h (szE x.body_) (by simp)
  have := szE_nd x.body_ m a c
  omega
theorem Program_nd (p : TProgram) (l : Int) (h0 : 0 ≤ l) (h1 : l ≤ 1048576) (h : 0 ≤ p.sz l) : ∀ x ∈ p.rules_, x.body_.nd ≤ 4194304 := by
  obtain ⟨m, a, b, c⟩ := szSeq_small (B := 1048576) p.sz_steps l h0 h1 h (szL TRule.sz p.rules_) (by simp)
  have := szL_small (f := TRule.sz) (sm := fun y => y.body_.nd ≤ 1048577) (a := p.rules_) (fun y _ l h => (y.sz_le l h).2) (fun y _ => Rule_nd y) m a b c
  intro x hx
  have := this.2 x hx
  omega
end Go.Ab
