/- Data of the program, in plain Lean: expressions. -/
import Derived.Test.YtfmllefmfhefpaaAbS
namespace Go.Ab
open Go
set_option linter.unusedVariables false
inductive Ex where
  | mk (k : Int) (n : ByteArray) (a : List Ex)
mutual
def Ex.E : Ex → D
  | .mk k n a => .agg [.int k, .str n, .lst (Ex.Es a)]
def Ex.Es : List Ex → List D
  | [] => []
  | e :: l => e.E :: Ex.Es l
end
theorem Ex.Es_eq (l : List Ex) : Ex.Es l = l.map Ex.E := by
  induction l with
  | nil => rfl
  | cons e l ih => simp [Ex.Es, ih]
def Ex.k : Ex → Int | .mk k _ _ => k
def Ex.n : Ex → ByteArray | .mk _ n _ => n
def Ex.a : Ex → List Ex | .mk _ _ a => a
theorem Ex.eta (e : Ex) : e = .mk e.k e.n e.a := by cases e; rfl
theorem Ex.E_open (e : Ex) : e.E = .agg [.int e.k, .str e.n, .lst (e.a.map Ex.E)] := by cases e; simp [Ex.E, Ex.k, Ex.n, Ex.a, Ex.Es_eq]
theorem Ex.E_fold (e : Ex) : D.agg [.v (.int .i64 e.k), .v (.string e.n), .lst (e.a.map Ex.E)] = e.E := e.E_open.symm
theorem Ex.E_cells (e : Ex) : e.E.cells = [.v (.int .i64 e.k), .v (.string e.n), .lst (e.a.map Ex.E)] := by rw [Ex.E_open]; rfl
theorem Ex.acells (e : Ex) : (A.d e.E).cells? = some [.d (.v (.int .i64 e.k)), .d (.v (.string e.n)), .d (.lst (e.a.map Ex.E))] := by rw [Ex.E_open]; rfl
theorem Ex.flat (l : List Ex) : Flat 3 (l.map Ex.E) := fun x hx => by
  obtain ⟨e, _, rfl⟩ := List.mem_map.1 hx
  rw [Ex.E_cells]; rfl
mutual
def Ex.ok : Ex → Prop
  | .mk k n a => n.size ≤ 9223372036854775807 ∧ a.length ≤ 9223372036854775807 ∧ Ex.oks a
def Ex.oks : List Ex → Prop
  | [] => True
  | e :: l => e.ok ∧ Ex.oks l
end
theorem Ex.oks_iff {l : List Ex} : Ex.oks l ↔ ∀ e ∈ l, e.ok := by
  induction l with
  | nil => simp [Ex.oks]
  | cons e l ih => simp [Ex.oks, ih]
theorem Ex.ind {p : Ex → Prop} (h : ∀ k n a, (∀ e ∈ a, p e) → p (.mk k n a)) (e : Ex) : p e :=
  Ex.rec (motive_1 := p) (motive_2 := fun l => ∀ e ∈ l, p e) (fun k n a ih => h k n a ih) (fun _ h => by cases h)
    (fun e l h1 h2 x hx => (List.mem_cons.1 hx).elim (fun hx => hx ▸ h1) (h2 x)) e
mutual
/-- What is left of a measure behind an expression. -/
def szE : Ex → Int → Int
  | .mk _ n a, l => if l - n.size < 0 then -1 else if l - n.size - a.length < 0 then -1 else szR a (l - n.size - a.length)
def szR : List Ex → Int → Int
  | [], l => l
  | e :: r, l => if szE e l < 0 then -1 else szR r (szE e l)
end
def szS (a : List Ex) (l : Int) : Int := if l - a.length < 0 then -1 else szR a (l - a.length)
theorem szR_le : ∀ {a : List Ex}, (∀ e ∈ a, ∀ l : Int, 0 ≤ l → -1 ≤ szE e l ∧ szE e l ≤ l) → ∀ l : Int, 0 ≤ l → -1 ≤ szR a l ∧ szR a l ≤ l
  | [], _, l, h0 => by simp only [szR]; omega
  | e :: r, h, l, h0 => by
    have he := h e List.mem_cons_self l h0
    simp only [szR]
    split
    · omega
    · have := szR_le (fun x hx => h x (List.mem_cons_of_mem _ hx)) (szE e l) (by omega)
      omega
theorem szE_le (e : Ex) : ∀ l : Int, 0 ≤ l → -1 ≤ szE e l ∧ szE e l ≤ l := by
  induction e using Ex.ind with
  | h k n a ih =>
    intro l h0
    simp only [szE]
    split
    · omega
    · split
      · omega
      · have := szR_le ih (l - n.size - a.length) (by omega)
        omega
theorem Ex.ind2 {p : Ex → Prop} (h : ∀ e : Ex, (∀ x ∈ e.a, p x) → p e) (e : Ex) : p e := by
  induction e using Ex.ind with
  | h k n a ih => exact h _ ih
mutual
/-- No name and no row is long. -/
def Ex.sm : Ex → Prop
  | .mk k n a => n.size ≤ 1048576 ∧ a.length ≤ 1048576 ∧ Ex.sms a
def Ex.sms : List Ex → Prop
  | [] => True
  | e :: l => e.sm ∧ Ex.sms l
end
theorem Ex.sms_iff {l : List Ex} : Ex.sms l ↔ ∀ e ∈ l, e.sm := by
  induction l with
  | nil => simp [Ex.sms]
  | cons e l ih => simp [Ex.sms, ih]
theorem Ex.sm_def (e : Ex) : e.sm ↔ e.n.size ≤ 1048576 ∧ e.a.length ≤ 1048576 ∧ ∀ x ∈ e.a, x.sm := by
  cases e; simp [Ex.sm, Ex.sms_iff, Ex.n, Ex.a]
theorem szR_sm : ∀ {a : List Ex}, (∀ e ∈ a, ∀ l : Int, 0 ≤ l → l ≤ 1048576 → 0 ≤ szE e l → e.sm) → ∀ l : Int, 0 ≤ l → l ≤ 1048576 → 0 ≤ szR a l → ∀ e ∈ a, e.sm
  | [], _, l, _, _, _, e, he => by cases he
  | x :: r, h, l, h0, h1, hs, e, he => by
    simp only [szR] at hs
    have hb := szE_le x l h0
    split at hs
    · omega
    · rcases List.mem_cons.1 he with rfl | he
      · exact h e List.mem_cons_self l h0 h1 (by omega)
      · exact szR_sm (fun y hy => h y (List.mem_cons_of_mem _ hy)) (szE x l) (by omega) (by omega) hs e he
theorem szE_sm (e : Ex) : ∀ l : Int, 0 ≤ l → l ≤ 1048576 → 0 ≤ szE e l → e.sm := by
  induction e using Ex.ind with
  | h k n a ih =>
    intro l h0 h1 hs
    simp only [szE] at hs
    split at hs
    · omega
    · split at hs
      · omega
      · exact ⟨by omega, by omega, Ex.sms_iff.2 (szR_sm ih _ (by omega) (by omega) hs)⟩
theorem Ex.sm_ok (e : Ex) : e.sm → e.ok := by
  induction e using Ex.ind with
  | h k n a ih => intro h; exact ⟨by have := h.1; omega, by have := h.2.1; omega, Ex.oks_iff.2 fun e he => ih e he (Ex.sms_iff.1 h.2.2 e he)⟩
mutual
/-- How many nodes. -/
def Ex.nd : Ex → Nat
  | .mk _ _ a => 1 + Ex.nds a
def Ex.nds : List Ex → Nat
  | [] => 0
  | e :: l => e.nd + Ex.nds l
end
theorem Ex.nd_def (e : Ex) : e.nd = 1 + Ex.nds e.a := by cases e; simp [Ex.nd, Ex.a]
theorem Ex.nds_take {l : List Ex} {i : Nat} {e : Ex} (h : l[i]? = some e) : Ex.nds (l.take (i + 1)) = Ex.nds (l.take i) + e.nd := by
  rw [take_more h]
  generalize l.take i = m
  induction m with
  | nil => simp [Ex.nds]
  | cons x m ih => simp [Ex.nds, ih]; omega
theorem Ex.nds_app (l m : List Ex) : Ex.nds (l ++ m) = Ex.nds l + Ex.nds m := by
  induction l with
  | nil => simp [Ex.nds]
  | cons x l ih => simp [Ex.nds, ih]; omega
theorem Ex.nds_take_le (l : List Ex) (i : Nat) : Ex.nds (l.take i) ≤ Ex.nds l := by
  have := Ex.nds_app (l.take i) (l.drop i)
  rw [List.take_append_drop] at this; omega
theorem Ex.nd_mem {l : List Ex} {e : Ex} (h : e ∈ l) : e.nd ≤ Ex.nds l := by
  induction l with
  | nil => cases h
  | cons x l ih =>
    rcases List.mem_cons.1 h with rfl | h
    · simp [Ex.nds]
    · have := ih h; simp [Ex.nds]; omega
theorem szR_nd : ∀ {a : List Ex}, (∀ e ∈ a, ∀ l : Int, 0 ≤ l → 0 ≤ szE e l → szE e l ≤ l - (e.nd - 1)) → ∀ l : Int, 0 ≤ l → 0 ≤ szR a l → szR a l ≤ l - (Ex.nds a - a.length)
  | [], _, l, _, _ => by simp [szR, Ex.nds]
  | x :: r, h, l, h0, hs => by
    simp only [szR] at hs ⊢
    split at hs
    · omega
    · rename_i h1
      rw [if_neg h1]
      have h2 := h x List.mem_cons_self l h0 (by omega)
      have h3 := szR_nd (fun y hy => h y (List.mem_cons_of_mem _ hy)) (szE x l) (by omega) hs
      simp only [Ex.nds, List.length_cons]; omega
theorem szE_nd (e : Ex) : ∀ l : Int, 0 ≤ l → 0 ≤ szE e l → szE e l ≤ l - (e.nd - 1) := by
  induction e using Ex.ind with
  | h k n a ih =>
    intro l h0 hs
    simp only [szE] at hs ⊢
    split at hs
    · omega
    · split at hs
      · omega
      · rename_i h1 h2
        rw [if_neg h1, if_neg h2]
        have := szR_nd ih _ (by omega) hs
        simp only [Ex.nd]; omega
mutual
/-- Something added up over all nodes. -/
def Ex.sum (f : Ex → Nat) : Ex → Nat
  | .mk k n a => f (.mk k n a) + Ex.sums f a
def Ex.sums (f : Ex → Nat) : List Ex → Nat
  | [] => 0
  | e :: l => e.sum f + Ex.sums f l
end
theorem Ex.sum_def (f : Ex → Nat) (e : Ex) : e.sum f = f e + Ex.sums f e.a := by cases e; simp [Ex.sum, Ex.a]
theorem Ex.sums_app (f : Ex → Nat) (l m : List Ex) : Ex.sums f (l ++ m) = Ex.sums f l + Ex.sums f m := by
  induction l with
  | nil => simp [Ex.sums]
  | cons x l ih => simp [Ex.sums, ih]; omega
theorem Ex.sums_take {f : Ex → Nat} {l : List Ex} {i : Nat} {e : Ex} (h : l[i]? = some e) : Ex.sums f (l.take (i + 1)) = Ex.sums f (l.take i) + e.sum f := by
  rw [take_more h, Ex.sums_app]; simp [Ex.sums]
theorem Ex.sum_le {f : Ex → Nat} (hf : ∀ e, f e ≤ 1) (e : Ex) : e.sum f ≤ e.nd := by
  induction e using Ex.ind with
  | h k n a ih =>
    have : Ex.sums f a ≤ Ex.nds a := by
      induction a with
      | nil => simp [Ex.sums, Ex.nds]
      | cons x l ih2 =>
        have h1 := ih x List.mem_cons_self
        have h2 := ih2 (fun e he => ih e (List.mem_cons_of_mem _ he))
        simp only [Ex.sums, Ex.nds]; omega
    have := hf (.mk k n a)
    simp only [Ex.sum, Ex.nd]; omega
theorem Ex.sums_le {f : Ex → Nat} (hf : ∀ e, f e ≤ 1) (l : List Ex) : Ex.sums f l ≤ Ex.nds l := by
  induction l with
  | nil => simp [Ex.sums, Ex.nds]
  | cons x l ih => have := Ex.sum_le hf x; simp only [Ex.sums, Ex.nds]; omega
def isUse (nm : ByteArray) (e : Ex) : Nat := if e.k = 1 ∧ e.n = nm then 1 else 0
theorem isUse_le (nm : ByteArray) (e : Ex) : isUse nm e ≤ 1 := by unfold isUse; split <;> omega
/-- Where the first one stands, or -1. -/
def firstAt {α : Type} (p : α → Bool) : List α → Int
  | [] => -1
  | x :: l => if p x = true then 0 else if firstAt p l < 0 then -1 else firstAt p l + 1
theorem firstAt_nil {α : Type} {p : α → Bool} : ∀ {l : List α}, (∀ x ∈ l, p x = false) → firstAt p l = -1
  | [], _ => rfl
  | x :: l, h => by
    have h1 := h x List.mem_cons_self
    have h2 := firstAt_nil (l := l) fun y hy => h y (List.mem_cons_of_mem _ hy)
    simp [firstAt, h1, h2]
theorem firstAt_at {α : Type} {p : α → Bool} : ∀ {l : List α} {i : Nat} {x : α}, l[i]? = some x → p x = true → (∀ y ∈ l.take i, p y = false) → firstAt p l = i
  | [], _, _, h, _, _ => by simp at h
  | x :: l, 0, y, h, hp, _ => by simp at h; subst h; simp [firstAt, hp]
  | x :: l, i + 1, y, h, hp, hb => by
    have h1 := hb x (by simp)
    have h2 := firstAt_at (l := l) (i := i) (by simpa using h) hp fun z hz => hb z (by simp [hz])
    simp [firstAt, h1, h2]; omega
theorem firstAt_pos {α : Type} {p : α → Bool} {l : List α} : 0 ≤ firstAt p l ↔ l.any p = true := by
  induction l with
  | nil => simp [firstAt]
  | cons x l ih =>
    simp only [firstAt, List.any_cons, Bool.or_eq_true]
    split
    · rename_i h; simp [h]
    · rename_i h
      split
      · rename_i h2
        have : ¬ l.any p = true := fun h3 => by have := ih.2 h3; omega
        simp_all
      · rename_i h2
        have : l.any p = true := ih.1 (by omega)
        simp [this]; omega
theorem firstAt_lt {α : Type} {p : α → Bool} {l : List α} : -1 ≤ firstAt p l ∧ firstAt p l < l.length := by
  induction l with
  | nil => simp [firstAt]
  | cons x l ih =>
    simp only [firstAt, List.length_cons]
    split
    · omega
    · split <;> omega
theorem mem_take_more {α : Type} {l : List α} {i : Nat} {x : α} (h : l[i]? = some x) {p : α → Bool} (h1 : ∀ y ∈ l.take i, p y = false) (h2 : p x = false) : ∀ y ∈ l.take (i + 1), p y = false := fun y hy => by
  rw [take_more h] at hy
  rcases List.mem_append.1 hy with hy | hy
  · exact h1 y hy
  · rw [List.mem_singleton.1 hy]; exact h2
def hasB (n : ByteArray) (l : List ByteArray) : Bool := l.any fun x => decide (x = n)
theorem hasB_pos {n : ByteArray} {l : List ByteArray} : 0 ≤ firstAt (fun x => decide (x = n)) l ↔ hasB n l = true := firstAt_pos
theorem hasB_pos' {n : ByteArray} {l : List ByteArray} : 0 ≤ firstAt (fun x => decide (n = x)) l ↔ hasB n l = true := by
  have : (fun x => decide (n = x)) = fun x => decide (x = n) := by funext x; simp [eq_comm]
  rw [this]; exact firstAt_pos
mutual
/-- The names of the nodes of a kind, each once. -/
def nmE (q : Int) : Ex → List ByteArray → List ByteArray
  | .mk k n a, acc => nmS q a (cond (decide (k = q) && !hasB n acc) (acc ++ [n]) acc)
def nmS (q : Int) : List Ex → List ByteArray → List ByteArray
  | [], acc => acc
  | e :: l, acc => nmS q l (nmE q e acc)
end
def nm1 (q : Int) (e : Ex) (acc : List ByteArray) : List ByteArray := cond (decide (e.k = q) && !hasB e.n acc) (acc ++ [e.n]) acc
theorem nmE_def (q : Int) (e : Ex) (acc : List ByteArray) : nmE q e acc = nmS q e.a (nm1 q e acc) := by
  cases e with
  | mk k n a => rw [nmE]; rfl
theorem nmS_app (q : Int) (l m : List Ex) (acc : List ByteArray) : nmS q (l ++ m) acc = nmS q m (nmS q l acc) := by
  induction l generalizing acc with
  | nil => simp [nmS]
  | cons x l ih => simp [nmS, ih]
theorem nmS_take {q : Int} {l : List Ex} {i : Nat} {e : Ex} (h : l[i]? = some e) (acc : List ByteArray) : nmS q (l.take (i + 1)) acc = nmE q e (nmS q (l.take i) acc) := by
  rw [take_more h, nmS_app]; simp [nmS]
theorem nm1_len (q : Int) (e : Ex) (acc : List ByteArray) : (nm1 q e acc).length ≤ acc.length + 1 := by unfold nm1; cases (decide (e.k = q) && !hasB e.n acc) <;> simp
theorem nmE_len (q : Int) (e : Ex) : ∀ acc, (nmE q e acc).length ≤ acc.length + e.nd := by
  induction e using Ex.ind with
  | h k n a ih =>
    intro acc
    have h1 := nm1_len q (.mk k n a) acc
    have : ∀ (l : List Ex), (∀ e ∈ l, ∀ acc, (nmE q e acc).length ≤ acc.length + e.nd) → ∀ acc, (nmS q l acc).length ≤ acc.length + Ex.nds l := by
      intro l
      induction l with
      | nil => intro _ acc; simp [nmS, Ex.nds]
      | cons x l ih2 =>
        intro h acc
        have h1 := h x List.mem_cons_self acc
        have h2 := ih2 (fun e he => h e (List.mem_cons_of_mem _ he)) (nmE q x acc)
        simp only [nmS, Ex.nds]; omega
    have h2 := this a ih (nm1 q (.mk k n a) acc)
    rw [nmE_def]
    simp only [Ex.a, Ex.nd]; omega
theorem nmS_len (q : Int) (l : List Ex) (acc : List ByteArray) : (nmS q l acc).length ≤ acc.length + Ex.nds l := by
  induction l generalizing acc with
  | nil => simp [nmS, Ex.nds]
  | cons x l ih =>
    have h1 := nmE_len q x acc
    have h2 := ih (nmE q x acc)
    simp only [nmS, Ex.nds]; omega
attribute [go_sem] Ex.E_cells Ex.E_fold Ex.acells Ex.flat
end Go.Ab
