/- Marks: what the marking functions write into a tree, told of its data; elements among opened ones. -/
import Derived.Test.YtamicpfjieandaaAbTq
namespace Go.Ab
open Go
set_option linter.unusedVariables false
set_option linter.unusedSimpArgs false
/-- The digits of a number, none for 0. -/
def dig (n : Nat) : ByteArray := if n = 0 then ⟨#[]⟩ else dig (n / 10) ++ ⟨#[UInt8.ofNat (48 + n % 10)]⟩
decreasing_by omega
theorem dig_zero : dig 0 = ⟨#[]⟩ := by rw [dig]; rfl
theorem dig_go {n : Nat} (h : n ≠ 0) : dig n = dig (n / 10) ++ ⟨#[UInt8.ofNat (48 + n % 10)]⟩ := by rw [dig, if_neg h]
theorem dig_size : ∀ n : Nat, (dig n).size ≤ n := fun n => by
  induction n using Nat.strongRecOn with
  | ind n ih =>
    by_cases h : n = 0
    · subst h; rw [dig_zero]; decide
    · rw [dig_go h, ByteArray.size_append]
      have := ih (n / 10) (by omega)
      have h1 : (⟨#[UInt8.ofNat (48 + n % 10)]⟩ : ByteArray).size = 1 := rfl
      omega
/-- The mark of number k. -/
def mk (k : Int) : ByteArray := if k ≤ 0 then ⟨#[109, 48]⟩ else ⟨#[109]⟩ ++ dig k.toNat
def mkV : Value → Int → Value
  | .int w _, k => .int w k
  | .string _, k => .string (mk k)
  | x, _ => x
mutual
/-- How many marks a thing takes. -/
def D.cnt : D → Nat
  | .v _ => 1
  | .agg l => cnts l
  | .lst l => cnts l
def cnts : List D → Nat
  | [] => 0
  | d :: l => d.cnt + cnts l
end
mutual
/-- A thing, marked from k on. -/
def mkD : D → Int → D
  | .v x, k => .v (mkV x k)
  | .agg l, k => .agg (mkDs l k)
  | .lst l, k => .lst (mkDs l k)
def mkDs : List D → Int → List D
  | [], _ => []
  | d :: l, k => mkD d k :: mkDs l (k + d.cnt)
end
theorem cnts_app : ∀ a b : List D, cnts (a ++ b) = cnts a + cnts b
  | [], b => by simp [cnts]
  | d :: a, b => by rw [List.cons_append, cnts, cnts, cnts_app a b]; omega
theorem mkDs_app : ∀ (a b : List D) (k : Int), mkDs (a ++ b) k = mkDs a k ++ mkDs b (k + cnts a)
  | [], b, k => by simp [mkDs, cnts]
  | d :: a, b, k => by
    rw [List.cons_append, mkDs, mkDs, mkDs_app a b, cnts, List.cons_append]
    congr 3; omega
theorem mkDs_len : ∀ (a : List D) (k : Int), (mkDs a k).length = a.length
  | [], k => rfl
  | d :: a, k => by rw [mkDs, List.length_cons, List.length_cons, mkDs_len a]
theorem mkDs_at : ∀ {a : List D} {k : Int} {i : Nat} {d : D}, a[i]? = some d → (mkDs a k)[i]? = some (mkD d (k + cnts (a.take i)))
  | [], k, i, d, e => by simp at e
  | x :: a, k, 0, d, e => by simp at e; subst e; simp [mkDs, cnts]
  | x :: a, k, i + 1, d, e => by
    rw [mkDs, List.getElem?_cons_succ, mkDs_at (by simpa using e), List.take_succ_cons, cnts]
    congr 2; omega
theorem cnts_take {a : List D} {i : Nat} {d : D} (e : a[i]? = some d) : cnts (a.take (i + 1)) = cnts (a.take i) + d.cnt := by
  rw [take_more e, cnts_app, cnts, cnts]; omega
theorem cnts_take_le (a : List D) (i : Nat) : cnts (a.take i) ≤ cnts a := by
  conv => rhs; rw [← List.take_append_drop i a, cnts_app]
  omega
theorem cnts_at {a : List D} {i : Nat} {d : D} (e : a[i]? = some d) : cnts (a.take i) + d.cnt ≤ cnts a := by
  rw [← cnts_take e]; exact cnts_take_le a _
theorem cnts_str (a : List ByteArray) : cnts (a.map D.str) = a.length := by
  induction a with
  | nil => rfl
  | cons x a ih => rw [List.map_cons, cnts, ih, List.length_cons]; simp only [D.cnt]; omega
theorem cnts_int (a : List Int) : cnts (a.map D.int) = a.length := by
  induction a with
  | nil => rfl
  | cons x a ih => rw [List.map_cons, cnts, ih, List.length_cons]; simp only [D.cnt]; omega
/-- How many cells an element has, marked or not. -/
theorem mkD_cells (d : D) (k : Int) : (mkD d k).cells.length = d.cells.length := by
  cases d with
  | v x => rfl
  | lst l => rfl
  | agg l => simp only [mkD, D.cells, mkDs_len]
theorem mkDs_cells {a : List D} {P : Nat → Prop} (h : ∀ d ∈ a, P d.cells.length) : ∀ (k : Int), ∀ d ∈ mkDs a k, P d.cells.length := by
  induction a with
  | nil => intro k d hd; cases hd
  | cons x a ih =>
    intro k d hd
    rw [mkDs] at hd
    rcases List.mem_cons.1 hd with rfl | hd
    · rw [mkD_cells]; exact h x List.mem_cons_self
    · exact ih (fun d hd => h d (List.mem_cons_of_mem _ hd)) _ d hd
/-! ### Among opened elements -/
theorem COp.inv_nil {as : List A} {L : List (Value × D)} (h : COp [] as L) : as = [] ∧ L = [] := by cases h; exact ⟨rfl, rfl⟩
theorem COp.inv_v {x : Value} {ds : List D} {as : List A} {L : List (Value × D)} (h : COp (.v x :: ds) as L) : ∃ as', as = .d (.v x) :: as' ∧ COp ds as' L := by
  cases h with
  | v _ h => exact ⟨_, rfl, h⟩
theorem COp.inv_lst {l ds : List D} {as : List A} {L : List (Value × D)} (h : COp (.lst l :: ds) as L) : ∃ r as' L', as = .raw r :: as' ∧ L = (r, .lst l) :: L' ∧ COp ds as' L' := by
  cases h with
  | lst r _ h => exact ⟨_, _, _, rfl, rfl, h⟩
theorem Opd.inv_nil {ag : Bool} {L : List A} {Ls : List (Value × D)} (h : Opd ag [] L Ls) : L = [] ∧ Ls = [] := by cases h; exact ⟨rfl, rfl⟩
theorem Opd.inv_cons {ag : Bool} {d : D} {l : List D} {L : List A} {Ls : List (Value × D)} (h : Opd ag (d :: l) L Ls) : ∃ cs Lr Lc Lsr, L = mkE ag cs :: Lr ∧ Ls = Lc ++ Lsr ∧ COp d.cells cs Lc ∧ Opd ag l Lr Lsr := by
  cases h with
  | cons h1 h2 => exact ⟨_, _, _, _, rfl, rfl, h1, h2⟩
theorem Opd.split {ag : Bool} : ∀ {la lb : List D} {L : List A} {Ls : List (Value × D)}, Opd ag (la ++ lb) L Ls → ∃ La Lb Lsa Lsb, L = La ++ Lb ∧ Ls = Lsa ++ Lsb ∧ Opd ag la La Lsa ∧ Opd ag lb Lb Lsb
  | [], lb, L, Ls, h => ⟨[], L, [], Ls, rfl, rfl, .nil, h⟩
  | d :: la, lb, L, Ls, h => by
    obtain ⟨cs, Lr, Lc, Lsr, rfl, rfl, h1, h2⟩ := Opd.inv_cons (by simpa using h)
    obtain ⟨La, Lb, Lsa, Lsb, rfl, rfl, h3, h4⟩ := Opd.split h2
    exact ⟨_, Lb, _, Lsb, rfl, (List.append_assoc _ _ _).symm, .cons h1 h3, h4⟩
/-- The element at i, and what lies before and behind it. -/
theorem Opd.at {ag : Bool} {l : List D} {i : Nat} {d : D} (e : l[i]? = some d) {la : List D} (hla : la.length = i) {L : List A} {Ls : List (Value × D)} (h : Opd ag (la ++ l.drop i) L Ls) :
    ∃ La Lb Lsa Lsb cs Lc, L = La ++ mkE ag cs :: Lb ∧ Ls = Lsa ++ (Lc ++ Lsb) ∧ La.length = i ∧ Opd ag la La Lsa ∧ COp d.cells cs Lc ∧ Opd ag (l.drop (i + 1)) Lb Lsb := by
  obtain ⟨La, Lb, Lsa, Lsb, rfl, rfl, h1, h2⟩ := h.split
  rw [drop_of e] at h2
  obtain ⟨cs, Lr, Lc, Lsr, rfl, rfl, h3, h4⟩ := h2.inv_cons
  exact ⟨La, Lr, Lsa, Lsr, cs, Lc, rfl, rfl, by rw [← h1.len]; exact hla, h1, h3, h4⟩
theorem at_mid {α : Type} {La Lb : List α} {x : α} {i : Nat} (h : La.length = i) : (La ++ x :: Lb)[i]? = some x := by subst h; simp
theorem set_mid {α : Type} {La Lb : List α} {x y : α} {i : Nat} (h : La.length = i) : (La ++ x :: Lb).set i y = La ++ y :: Lb := by
  subst h
  rw [List.set_append_right _ _ (Nat.le_refl _), Nat.sub_self, List.set_cons_zero]
end Go.Ab
