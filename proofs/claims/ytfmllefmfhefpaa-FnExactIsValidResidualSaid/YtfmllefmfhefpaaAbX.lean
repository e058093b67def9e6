/- More facts for reckoning: rows that are appended to. -/
import Derived.Test.YtfmllefmfhefpaaAbV
namespace Go.Ab
open Go
set_option linter.unusedVariables false
set_option linter.unusedSimpArgs false
theorem toE_d (x : D) : (A.d x).toE? = some x := rfl
theorem toE_own (k : Nat) (l : List D) : (A.own k l).toE? = some (.lst l) := rfl
theorem toE_nil : A.nil.toE? = some (.lst []) := rfl
theorem toE_agg (l : List A) : (A.agg l).toE? = match toDs? l with | some r => some (.agg r) | none => none := rfl
theorem toD_d (x : D) : (A.d x).toD? = some x := rfl
theorem toD_own (k : Nat) (l : List D) : (A.own k l).toD? = some (.lst l) := rfl
theorem toD_nil : A.nil.toD? = some (.lst []) := rfl
theorem toEs_nil : toEs? [] = some [] := rfl
theorem toEs_cons (a : A) (l : List A) : toEs? (a :: l) = match a.toE?, toEs? l with | some x, some r => some (x :: r) | _, _ => none := rfl
theorem toDs_nil : toDs? [] = some [] := rfl
theorem toDs_cons (a : A) (l : List A) : toDs? (a :: l) = match a.toD?, toDs? l with | some x, some r => some (x :: r) | _, _ => none := rfl
theorem le_sld {n m k : Nat} {l : List A} {y : D} : A.le n m (.sl k l) (.d y) ↔ ∃ r, toEs? l = some r ∧ y = .lst r := by simp [A.le]
theorem le_slo {n m k k' : Nat} {l : List A} {l' : List D} : A.le n m (.sl k l) (.own k' l') ↔ k = k' ∧ k < n ∧ toEs? l = some l' := by simp [A.le]
theorem flat_cons {n : Nat} {x : D} {l : List D} : Flat n (x :: l) ↔ x.cells.length = n ∧ Flat n l :=
  ⟨fun h => ⟨h x List.mem_cons_self, fun y hy => h y (List.mem_cons_of_mem _ hy)⟩, fun h y hy => (List.mem_cons.1 hy).elim (fun e => e ▸ h.1) (h.2 y)⟩
theorem giveE_v (x : Value) : (A.d (.v x)).giveE? = some (.v x, []) := rfl
theorem giveE_own (k : Nat) (l : List D) : (A.own k l).giveE? = some (.lst l, [k]) := rfl
theorem giveE_nil : A.nil.giveE? = some (.lst [], []) := rfl
theorem giveE_agg (l : List A) : (A.agg l).giveE? = match gives? l with | some (r, ms) => some (.agg r, ms) | none => none := rfl
theorem give_v (x : Value) : (A.d (.v x)).give? = some (.v x, []) := rfl
theorem give_own (k : Nat) (l : List D) : (A.own k l).give? = some (.lst l, [k]) := rfl
theorem give_nil : A.nil.give? = some (.lst [], []) := rfl
theorem giveEs_nil : giveEs? [] = some ([], []) := rfl
theorem giveEs_cons (a : A) (l : List A) : giveEs? (a :: l) = match a.giveE?, giveEs? l with | some (x, ms), some (r, ns) => some (x :: r, ms ++ ns) | _, _ => none := rfl
theorem gives_nil : gives? [] = some ([], []) := rfl
theorem gives_cons (a : A) (l : List A) : gives? (a :: l) = match a.give?, gives? l with | some (x, ms), some (r, ns) => some (x :: r, ms ++ ns) | _, _ => none := rfl
theorem vcBuildSlice_mk {T : Ty} {t n : Nat} {idx : List Nat} {l : List A} {s : St} {K : A → St → Prop} : vcBuildSlice T t n idx l s K = match T t with
    | some ⟨.slc e, _, _, _⟩ => match T e with
      | some ie => idx = List.range n ∧ n * ie.sz ≤ 16777216 ∧ (∀ a ∈ l, ∃ c, a.cells? = some c ∧ c.length = ie.sz) ∧
        K (.sl s.h.length l) ⟨s.t, s.h ++ [.app e ie.sz (match giveEs? l with | some (_, []) => true | _ => false)], s.p⟩
      | none => False
    | _ => False := rfl
theorem all_nil {α : Type} {p : α → Prop} : (∀ a ∈ ([] : List α), p a) ↔ True := ⟨fun _ => trivial, fun _ _ h => by cases h⟩
theorem all_cons {α : Type} {p : α → Prop} {x : α} {l : List α} : (∀ a ∈ x :: l, p a) ↔ p x ∧ ∀ a ∈ l, p a := by simp
theorem ex_some {α : Type} {c : α} {p : α → Prop} : (∃ x, some c = some x ∧ p x) ↔ p c := by simp
theorem map_append_d {α : Type} (f : α → D) (l : List α) (x : α) : l.map f ++ [f x] = (l ++ [x]).map f := by simp
theorem range0 : List.range 0 = [] := rfl
theorem range1 : List.range 1 = [0] := rfl
theorem range2 : List.range 2 = [0, 1] := rfl
theorem range3 : List.range 3 = [0, 1, 2] := rfl
theorem range4 : List.range 4 = [0, 1, 2, 3] := rfl
attribute [go_sem] toE_d toE_own toE_nil toE_agg toD_d toD_own toD_nil toEs_nil toEs_cons toDs_nil toDs_cons le_sld le_slo flat_cons giveE_v giveE_own giveE_nil giveE_agg give_v give_own give_nil giveEs_nil giveEs_cons gives_nil gives_cons
  all_nil all_cons ex_some range0 range1 range2 range3 range4 St.kills St.kill St.dem toEs_map
/-- A call that hands back a number, under a name. -/
theorem call_int {P : Program} {f d : Nat} {v : Int} (l : List D) {args : List A} {t : List A} {h : List O} {p : Nat} {K : St → Prop} (ct : Ct P f args [] (fun _ : Unit => True) (fun _ => .int v) (fun _ => []))
    (hl : args = l.map A.d) (hK : ∀ x : Int, x = v → K ⟨t.set d (.int x), h, p⟩) : callVC P f args ⟨t, h, p⟩ (some d) K :=
  call_data l ct hl fun _ _ => hK v rfl
end Go.Ab
