/- Valid programs, in plain Lean: what the two sides compute. -/
import Derived.Test.YtfmllefmfhefpaaAbMp
import Derived.Test.YtfmllefmfhefpaaAbZ
namespace Go.Proofs.Ytfmllefmfhefpaa
open Go Go.Ab
set_option linter.unusedVariables false
set_option linter.unusedSimpArgs false
mutual
/-- All nodes, each before its children. -/
def nodes : Ex → List Ex
  | .mk k n a => .mk k n a :: nodeS a
def nodeS : List Ex → List Ex
  | [] => []
  | x :: a => nodes x ++ nodeS a
end
theorem nodes_def (e : Ex) : nodes e = e :: nodeS e.a := by cases e; rw [nodes]; rfl
theorem nodeS_app (a b : List Ex) : nodeS (a ++ b) = nodeS a ++ nodeS b := by
  induction a with
  | nil => rfl
  | cons x a ih => simp only [List.cons_append, nodeS, ih, List.append_assoc]
theorem nodeS_take {a : List Ex} {i : Nat} {x : Ex} (h : a[i]? = some x) : nodeS (a.take (i + 1)) = nodeS (a.take i) ++ nodes x := by rw [take_more h, nodeS_app]; simp [nodeS]
/-- A name's mark at a node: where the constructor c stands. -/
def isCon (c : ByteArray) (x : Ex) : Bool := decide (x.k = 2 ∧ x.n = c)
def conE (c : ByteArray) (e : Ex) : Option Nat := ((nodes e).find? (isCon c)).map fun x => x.a.length
def conS (c : ByteArray) (a : List Ex) : Option Nat := ((nodeS a).find? (isCon c)).map fun x => x.a.length
theorem conE_def (c : ByteArray) (e : Ex) : conE c e = if isCon c e = true then some e.a.length else conS c e.a := by
  unfold conE conS
  rw [nodes_def, List.find?_cons]
  cases isCon c e <;> simp
theorem conS_cons (c : ByteArray) (x : Ex) (a : List Ex) : conS c (x :: a) = match conE c x with | some v => some v | none => conS c a := by
  unfold conE conS
  simp only [nodeS, List.find?_append]
  cases (nodes x).find? (isCon c) <;> simp
def oI : Option Nat → Option Int
  | some n => some (n : Int)
  | none => none
/-- What a map holds behind a node. -/
def ad1 (m : List (ByteArray × Int)) (x : Ex) : List (ByteArray × Int) := if x.k = 2 ∧ mget m x.n = none then m ++ [(x.n, (x.a.length : Int))] else m
def adE (m : List (ByteArray × Int)) (e : Ex) : List (ByteArray × Int) := (nodes e).foldl ad1 m
theorem mget_ad1 (m : List (ByteArray × Int)) (x : Ex) (c : ByteArray) : mget (ad1 m x) c = match mget m c with | some v => some v | none => if isCon c x = true then some (x.a.length : Int) else none := by
  unfold ad1 isCon
  split
  · rename_i h
    rw [mget_app]
    cases hm : mget m c with
    | some v => rfl
    | none =>
      simp only [decide_eq_true_eq]
      by_cases hc : x.n = c
      · rw [if_pos hc.symm, if_pos ⟨h.1, hc⟩]
      · rw [if_neg (fun e => hc e.symm), if_neg (fun e => hc e.2)]
  · rename_i h
    cases hm : mget m c with
    | some v => rfl
    | none =>
      simp only [decide_eq_true_eq]
      rw [if_neg]
      rintro ⟨h1, h2⟩
      subst h2
      exact h ⟨h1, hm⟩
theorem mget_fold (c : ByteArray) : ∀ (l : List Ex) (m : List (ByteArray × Int)), mget (l.foldl ad1 m) c = match mget m c with | some v => some v | none => (l.find? (isCon c)).map fun x => (x.a.length : Int)
  | [], m => by simp only [List.foldl_nil, List.find?_nil, Option.map_none]; cases mget m c <;> rfl
  | x :: l, m => by
    rw [List.foldl_cons, mget_fold c l, mget_ad1, List.find?_cons]
    cases mget m c with
    | some v => rfl
    | none => cases isCon c x <;> simp
theorem mget_adE (c : ByteArray) (m : List (ByteArray × Int)) (e : Ex) : mget (adE m e) c = match mget m c with | some v => some v | none => oI (conE c e) := by
  unfold adE
  rw [mget_fold]
  cases mget m c with
  | some v => rfl
  | none =>
    simp only [conE]
    cases (nodes e).find? (isCon c) <;> rfl
/-- A constructor's number of arguments in a program: the first place counts. -/
def conAr (c : ByteArray) : List TRule → Option Nat
  | [] => none
  | r :: l => if r.con_ = c ∧ c ≠ ⟨#[]⟩ then some r.vars_.length else match conE c r.body_ with | some v => some v | none => conAr c l
def ar1 (m : List (ByteArray × Int)) (r : TRule) : List (ByteArray × Int) := adE (if r.con_ ≠ ⟨#[]⟩ ∧ mget m r.con_ = none then m ++ [(r.con_, (r.vars_.length : Int))] else m) r.body_
def arit (m : List (ByteArray × Int)) (l : List TRule) : List (ByteArray × Int) := l.foldl ar1 m
theorem mget_ar1 (m : List (ByteArray × Int)) (r : TRule) (c : ByteArray) : mget (ar1 m r) c = match mget m c with | some v => some v | none => if r.con_ = c ∧ c ≠ ⟨#[]⟩ then some (r.vars_.length : Int) else oI (conE c r.body_) := by
  unfold ar1
  rw [mget_adE]
  split
  · rename_i v h
    split at h
    · rename_i h2
      rw [mget_app] at h
      cases hm : mget m c with
      | some x => rw [hm] at h; exact h.symm
      | none =>
        rw [hm] at h
        simp only at h ⊢
        split at h
        · rename_i h3
          subst h3
          rw [if_pos ⟨rfl, h2.1⟩]; exact h.symm
        · cases h
    · rw [h]
  · rename_i h
    split at h
    · rename_i h2
      rw [mget_app] at h
      cases hm : mget m c with
      | some x => rw [hm] at h; cases h
      | none =>
        rw [hm] at h
        simp only at h ⊢
        split at h
        · cases h
        · rename_i h3
          rw [if_neg (fun e => h3 e.1.symm)]
    · rename_i h2
      rw [h]
      simp only
      rw [if_neg]
      rintro ⟨h3, h4⟩
      subst h3
      exact h2 ⟨h4, h⟩
theorem mget_arit (c : ByteArray) : ∀ (l : List TRule) (m : List (ByteArray × Int)), mget (arit m l) c = match mget m c with | some v => some v | none => oI (conAr c l)
  | [], m => by simp only [arit, List.foldl_nil, conAr, oI]; cases mget m c <;> rfl
  | r :: l, m => by
    have ih := mget_arit c l (ar1 m r)
    show mget (arit (ar1 m r) l) c = _
    rw [ih, mget_ar1, conAr]
    cases mget m c with
    | some v => rfl
    | none =>
      simp only
      by_cases h : r.con_ = c ∧ c ≠ ⟨#[]⟩
      · rw [if_pos h, if_pos h]; rfl
      · rw [if_neg h, if_neg h]
        cases conE c r.body_ <;> rfl
/-- The first rule of a function. -/
def rule1 (f : ByteArray) (l : List TRule) : Option TRule := l.find? fun r => decide (r.name_ = f)
def funAr (l : List TRule) (f : ByteArray) : Int := match rule1 f l with | none => -1 | some r => (r.params_.length : Int) + (if r.con_ = ⟨#[]⟩ then 0 else 1)
/-- A node's call or constructor has the right number of arguments, in the specification's words. -/
def fitS (l : List TRule) (all x : Ex) : Bool :=
  if x.k = 3 then decide ((x.a.length : Int) = funAr l x.n) else if x.k = 2 then (match conAr x.n l with | some v => decide (x.a.length = v) | none => match conE x.n all with | some v => decide (x.a.length = v) | none => false) else true
/-- The same in the program's words. -/
def fitI (l : List TRule) (m own : List (ByteArray × Int)) (x : Ex) : Bool :=
  if x.k = 3 then decide (funAr l x.n = (x.a.length : Int)) else if x.k = 2 then decide ((match mget m x.n with | some v => v | none => (mget own x.n).getD 0) = (x.a.length : Int)) else true
theorem fit_same (l : List TRule) (all x : Ex) (hx : x ∈ nodes all) : fitI l (arit [] l) (adE [] all) x = fitS l all x := by
  unfold fitI fitS
  split
  · exact decide_eq_decide.2 ⟨fun h => h.symm, fun h => h.symm⟩
  · split
    · rename_i h2
      rw [mget_arit, mget_adE]
      simp only [mget]
      cases hc : conAr x.n l with
      | some v => simp only [oI]; exact decide_eq_decide.2 ⟨fun h => by omega, fun h => by omega⟩
      | none =>
        simp only [oI]
        cases he : conE x.n all with
        | some v => simp only [oI, Option.getD_some]; exact decide_eq_decide.2 ⟨fun h => by omega, fun h => by omega⟩
        | none =>
          exfalso
          unfold conE at he
          simp only [Option.map_eq_none_iff, List.find?_eq_none] at he
          exact he x hx (by simp [isCon, h2])
    · rfl
end Go.Proofs.Ytfmllefmfhefpaa
