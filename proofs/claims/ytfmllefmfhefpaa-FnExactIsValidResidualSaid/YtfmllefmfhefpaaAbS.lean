/- Small facts for reckoning conditions. -/
import Derived.Test.YtfmllefmfhefpaaAbR
import Derived.IntWalk
namespace Go.Ab
open Go
set_option linter.unusedVariables false
set_option linter.unusedSimpArgs false
theorem wr_in {n : Int} (h : -9223372036854775808 ≤ n ∧ n ≤ 9223372036854775807) : wr .i64 n = n := by
  unfold wr; exact IntWalk.i64_in n h
theorem kon_int (k : IntKind) (n : Int) : kon (.int k n) = .d (.v (.int k n)) := rfl
theorem kon_bool (b : Bool) : kon (.bool b) = .d (.v (.bool b)) := rfl
theorem kon_str (b : ByteArray) : kon (.string b) = .d (.v (.string b)) := rfl
theorem kon_nil : kon (.slice none 0 0) = .nil := rfl
theorem kon_map (x : Option Nat) : kon (.map x) = .d (.v (.map x)) := rfl
theorem putN (s : St) (a : A) : s.put none a = s := rfl
theorem putS (t : List A) (h : List O) (p d : Nat) (a : A) : (St.mk t h p).put (some d) a = ⟨t.set d a, h, p⟩ := rfl
theorem ite_true_of {p : Prop} : (true = true → p) ↔ p := ⟨fun h => h rfl, fun h _ => h⟩
theorem not_false_eq {p : Prop} : (true = false → p) ↔ True := ⟨fun _ => trivial, fun _ h => by cases h⟩
theorem not_true_eq {p : Prop} : (false = true → p) ↔ True := ⟨fun _ => trivial, fun _ h => by cases h⟩
theorem false_eq {p : Prop} : (false = false → p) ↔ p := ⟨fun h => h rfl, fun h _ => h⟩
theorem dec_true {p q : Prop} [Decidable p] : (decide p = true → q) ↔ (p → q) := by rw [decide_eq_true_iff]
theorem dec_false {p q : Prop} [Decidable p] : (decide p = false → q) ↔ (¬ p → q) := by rw [decide_eq_false_iff_not]
theorem ndec_true {p q : Prop} [Decidable p] : ((!decide p) = true → q) ↔ (¬ p → q) := by
  rw [Bool.not_eq_true', decide_eq_false_iff_not]
theorem ndec_false {p q : Prop} [Decidable p] : ((!decide p) = false → q) ↔ (p → q) := by
  rw [Bool.not_eq_false', decide_eq_true_iff]
theorem Dcells_v (x : Value) : (D.v x).cells = [.v x] := rfl
theorem Dcells_agg (l : List D) : (D.agg l).cells = l := rfl
theorem Dcells_lst (l : List D) : (D.lst l).cells = [.lst l] := rfl
theorem cells_v (x : Value) : (A.d (.v x)).cells = [.d (.v x)] := rfl
theorem cells_agg (l : List A) : (A.agg l).cells = l := rfl
theorem cells_dagg (l : List D) : (A.d (.agg l)).cells = l.map A.d := rfl
theorem cells_dlst (l : List D) : (A.d (.lst l)).cells = [.d (.lst l)] := rfl
theorem cells_own (k : Nat) (l : List D) : (A.own k l).cells = [.own k l] := rfl
theorem cells_nil : A.nil.cells = [.nil] := rfl
theorem cells_arr (k : Nat) : (A.arr k).cells = [.arr k] := rfl
theorem cq_v (x : Value) : (A.d (.v x)).cells? = some [.d (.v x)] := rfl
theorem cq_agg (l : List A) : (A.agg l).cells? = some l := rfl
theorem cq_dagg (l : List D) : (A.d (.agg l)).cells? = some (l.map A.d) := rfl
theorem cq_dlst (l : List D) : (A.d (.lst l)).cells? = some [.d (.lst l)] := rfl
theorem cq_own (k : Nat) (l : List D) : (A.own k l).cells? = some [.own k l] := rfl
theorem cq_nil : A.nil.cells? = some [.nil] := rfl
theorem cq_arr (k : Nat) : (A.arr k).cells? = some [.arr k] := rfl
theorem cq_ref (k o : Nat) : (A.ref k o).cells? = some [.ref k o] := rfl
theorem cq_raw (x : Value) : (A.raw x).cells? = some [.raw x] := rfl
theorem cells_raw (x : Value) : (A.raw x).cells = [.raw x] := rfl
theorem le_raw {n m : Nat} {x y : Value} : A.le n m (.raw x) (.raw y) ↔ x = y := by simp [A.le]
theorem under_raw {p : Nat} {x : Value} : A.under p (.raw x) ↔ True := by simp [A.under]
theorem ounder_forest {p : Nat} {l : List (Value × D)} : O.under p (.forest l) ↔ True := by simp [O.under]
theorem ole_forest {n m : Nat} {l l' : List (Value × D)} : O.le n m (.forest l) (.forest l') ↔ l'.Sublist l := by simp [O.le]
theorem sub_refl {α : Type} {l : List α} : l.Sublist l ↔ True := ⟨fun _ => trivial, fun _ => List.Sublist.refl l⟩
theorem sub_last {α : Type} {l : List α} {x : α} : [x].Sublist (l ++ [x]) ↔ True := ⟨fun _ => trivial, fun _ => List.sublist_append_right _ _⟩
theorem sub_two {α : Type} {x y : α} : [x].Sublist [y, x] ↔ True := ⟨fun _ => trivial, fun _ => .cons _ (.refl _)⟩
theorem olel_fr1 {n m : Nat} {v : Value} {r : List O} : O.lel n m [] (.forest [(v, .lst [])] :: r) ↔ v = .slice none 0 0 ∧ O.lel n m [] r := by simp [O.lel]
theorem ale_nil_raw {n m : Nat} {v : Value} : A.le n m .nil (.raw v) ↔ v = .slice none 0 0 := by simp [A.le]
attribute [go_sem] sub_refl sub_last sub_two olel_fr1 ale_nil_raw
theorem ren_raw {ρ : Nat → Nat} {x : Value} : (A.raw x).ren ρ = .raw x := rfl
theorem pub_raw {k : Nat} {q : List D} {x : Value} : (A.raw x).pub k q = .raw x := rfl
theorem dem_raw {k : Nat} {x : Value} : (A.raw x).dem k = .raw x := rfl
attribute [go_sem] cq_raw cells_raw le_raw under_raw ounder_forest ole_forest ren_raw pub_raw dem_raw
theorem cq_mp (k : Nat) : (A.mp k).cells? = some [.mp k] := rfl
theorem cq_sl (k : Nat) (l : List A) : (A.sl k l).cells? = some [.sl k l] := rfl
theorem cq_fn (k : Nat) (l : List A) : (A.fn k l).cells? = some [.fn k l] := rfl
theorem row_lst (l : List D) : (A.d (.lst l)).row? = some l := rfl
theorem row_own (k : Nat) (l : List D) : (A.own k l).row? = some l := rfl
theorem row_nil : A.nil.row? = some [] := rfl
theorem row_sl (k : Nat) (l : List A) : (A.sl k l).row? = toEs? l := rfl
theorem len_str (h : List O) (s : ByteArray) : A.len? h (.d (.v (.string s))) = some s.size := rfl
theorem len_lst (h : List O) (l : List D) : A.len? h (.d (.lst l)) = some l.length := rfl
theorem len_own (h : List O) (k : Nat) (l : List D) : A.len? h (.own k l) = some l.length := rfl
theorem len_nil (h : List O) : A.len? h .nil = some 0 := rfl
theorem len_sl (h : List O) (k : Nat) (l : List A) : A.len? h (.sl k l) = some l.length := rfl
theorem len_arr (h : List O) (k : Nat) : A.len? h (.arr k) = match h[k]? with | some (.row _ _ l) => some l.length | some (.opn _ _ _ l) => some l.length | _ => none := rfl
theorem len_mp (h : List O) (k : Nat) : A.len? h (.mp k) = match h[k]? with | some (.map _ _ l) => some l.length | _ => none := rfl
theorem mkE_t (l : List A) : mkE true l = pack l := by cases l with
  | nil => rfl
  | cons x l => cases l <;> rfl
theorem mkE_f (x : A) : mkE false [x] = x := rfl
theorem map_d_nil : ([] : List D).map A.d = [] := rfl
/-! ### Continuations that are not looked into before a value is known -/
def putK (dst : Option Nat) (s : St) (K : St → Prop) : A → Prop := fun r => K (s.put dst r)
def stK (dst : Option Nat) (s : St) (K : St → Prop) : List O → Prop := fun h => K ((St.mk s.t h s.p).put dst .any)
def put2 (dst : Option Nat) (K : St → Prop) : A → St → Prop := fun r s => K (s.put dst r)
def dK (o : Option D) (K : A → Prop) : Prop := ∃ x, o = some x ∧ K (.d x)
def aK (o : Option A) (K : A → Prop) : Prop := ∃ x, o = some x ∧ K x
def condK (P : Program) (T : Ty) (a b : Code) (Kn Kr : St → Prop) (Kx : Nat → St → Prop) (s : St) (x : A) : Prop :=
  match x with
  | .d (.v (.bool t)) => (t = true → vc P T a Kn Kr Kx s) ∧ (t = false → vc P T b Kn Kr Kx s)
  | _ => False
def gd2 (P : Program) (T : Ty) (dst : Option Nat) (op : Op) (want : Bool) (K : St → Prop) (s : St) (d : Nat) (x : A) : Prop :=
  match x with
  | .d (.v (.bool b)) => (b = want → vcOp P T op dst ⟨s.t.set d (.bool want), s.h, s.p⟩ K) ∧ (b = !want → K (St.put ⟨s.t.set d (.bool !want), s.h, s.p⟩ dst (.tup [])))
  | .tup [] => K (s.put dst (.tup []))
  | _ => False
def gd1 (P : Program) (T : Ty) (dst : Option Nat) (op : Op) (want : Bool) (K : St → Prop) (s : St) (o : Option Nat) : Prop :=
  match o with
  | none => False
  | some d => gd2 P T dst op want K s d (s.t.getD d .any)
section
variable {P : Program} {T : Ty} {K : St → Prop} {F : A → Prop} {s : St} {t : List A} {h h' : List O} {p d k o : Nat} {dst : Option Nat} {x : A}
theorem putK_d {y : D} : putK (some d) ⟨t, h, p⟩ K (.d y) = K ⟨t.set d (.d y), h, p⟩ := rfl
theorem putK_agg {l : List A} : putK (some d) ⟨t, h, p⟩ K (.agg l) = K ⟨t.set d (.agg l), h, p⟩ := rfl
theorem putK_tup {l : List A} : putK (some d) ⟨t, h, p⟩ K (.tup l) = K ⟨t.set d (.tup l), h, p⟩ := rfl
theorem putK_nil : putK (some d) ⟨t, h, p⟩ K .nil = K ⟨t.set d .nil, h, p⟩ := rfl
theorem putK_sl {l : List A} : putK (some d) ⟨t, h, p⟩ K (.sl k l) = K ⟨t.set d (.sl k l), h, p⟩ := rfl
theorem putK_rptr {l : List D} : putK (some d) ⟨t, h, p⟩ K (.rptr l) = K ⟨t.set d (.rptr l), h, p⟩ := rfl
theorem putK_ref : putK (some d) ⟨t, h, p⟩ K (.ref k o) = K ⟨t.set d (.ref k o), h, p⟩ := rfl
theorem putK_own {l : List D} : putK (some d) ⟨t, h, p⟩ K (.own k l) = K ⟨t.set d (.own k l), h, p⟩ := rfl
theorem putK_arr : putK (some d) ⟨t, h, p⟩ K (.arr k) = K ⟨t.set d (.arr k), h, p⟩ := rfl
theorem putK_eptr {i j : Nat} : putK (some d) ⟨t, h, p⟩ K (.eptr k i j o) = K ⟨t.set d (.eptr k i j o), h, p⟩ := rfl
theorem putK_fn {l : List A} : putK (some d) ⟨t, h, p⟩ K (.fn k l) = K ⟨t.set d (.fn k l), h, p⟩ := rfl
theorem putK_mp : putK (some d) ⟨t, h, p⟩ K (.mp k) = K ⟨t.set d (.mp k), h, p⟩ := rfl
theorem putK_raw {y : Value} : putK (some d) ⟨t, h, p⟩ K (.raw y) = K ⟨t.set d (.raw y), h, p⟩ := rfl
attribute [go_sem] putK_raw
theorem putK_any : putK (some d) ⟨t, h, p⟩ K .any = K ⟨t.set d .any, h, p⟩ := rfl
theorem stK_none : stK none ⟨t, h, p⟩ K h' = K ⟨t, h', p⟩ := rfl
theorem stK_some : stK (some d) ⟨t, h, p⟩ K h' = K ⟨t.set d .any, h', p⟩ := rfl
theorem put2_mk : put2 (some d) K x ⟨t, h, p⟩ = K ⟨t.set d x, h, p⟩ := rfl
theorem dK_some {y : D} : dK (some y) F = F (.d y) := by simp [dK]
theorem dK_none : dK none F = False := by simp [dK]
theorem aK_some : aK (some x) F = F x := by simp [aK]
theorem aK_none : aK none F = False := by simp [aK]
theorem partD_t {sz : Nat} {l : List D} : partD ⟨o, sz, true⟩ l F = (o + sz ≤ l.length ∧ F (.d (.agg ((l.drop o).take sz)))) := rfl
theorem partD_f {sz : Nat} {l : List D} : partD ⟨o, sz, false⟩ l F = dK l[o]? F := rfl
theorem partA_t {sz : Nat} {l : List A} : partA ⟨o, sz, true⟩ l F = (o + sz ≤ l.length ∧ F (pack ((l.drop o).take sz))) := rfl
theorem partA_f {sz : Nat} {l : List A} : partA ⟨o, sz, false⟩ l F = aK l[o]? F := rfl
theorem condK_b {a b : Code} {Kn Kr : St → Prop} {Kx : Nat → St → Prop} {v : Bool} : condK P T a b Kn Kr Kx s (.d (.v (.bool v))) = ((v = true → vc P T a Kn Kr Kx s) ∧ (v = false → vc P T b Kn Kr Kx s)) := rfl
theorem gd1_some {op : Op} {want : Bool} : gd1 P T dst op want K s (some d) = gd2 P T dst op want K s d (s.t.getD d .any) := rfl
theorem gd2_b {op : Op} {want b : Bool} : gd2 P T dst op want K ⟨t, h, p⟩ d (.d (.v (.bool b))) = ((b = want → vcOp P T op dst ⟨t.set d (.bool want), h, p⟩ K) ∧ (b = !want → K (St.put ⟨t.set d (.bool !want), h, p⟩ dst (.tup [])))) := rfl
theorem gd2_un {op : Op} {want : Bool} : gd2 P T dst op want K ⟨t, h, p⟩ d (.tup []) = K (St.put ⟨t, h, p⟩ dst (.tup [])) := rfl
theorem gd2_yes {op : Op} {want : Bool} : gd2 P T dst op want K ⟨t, h, p⟩ d (.d (.v (.bool want))) = vcOp P T op dst ⟨t.set d (.bool want), h, p⟩ K := by
  cases want <;> simp [gd2]
theorem gd2_ft {op : Op} : gd2 P T dst op true K ⟨t, h, p⟩ d (.d (.v (.bool false))) = K (St.put ⟨t.set d (.bool false), h, p⟩ dst (.tup [])) := by simp [gd2]
theorem gd2_tf {op : Op} : gd2 P T dst op false K ⟨t, h, p⟩ d (.d (.v (.bool true))) = K (St.put ⟨t.set d (.bool true), h, p⟩ dst (.tup [])) := by simp [gd2]
theorem condK_t {a b : Code} {Kn Kr : St → Prop} {Kx : Nat → St → Prop} : condK P T a b Kn Kr Kx s (.d (.v (.bool true))) = vc P T a Kn Kr Kx s := by simp [condK]
theorem condK_f {a b : Code} {Kn Kr : St → Prop} {Kx : Nat → St → Prop} : condK P T a b Kn Kr Kx s (.d (.v (.bool false))) = vc P T b Kn Kr Kx s := by simp [condK]
theorem op_move {y : Operand} : vcOp P T (.move y) dst s K = putK dst s K (opd s.t y) := rfl
theorem op_assign {y : Operand} : vcOp P T (.assign y) dst s K = putK dst s K (opd s.t y) := rfl
def pickK (x a b : A) (F : A → Prop) : Prop := match x with
  | .d (.v (.bool t)) => (t = true → F a) ∧ (t = false → F b)
  | _ => False
theorem pickK_b {v : Bool} {a b : A} : pickK (.d (.v (.bool v))) a b F = ((v = true → F a) ∧ (v = false → F b)) := rfl
theorem pickK_t {a b : A} : pickK (.d (.v (.bool true))) a b F = F a := by simp [pickK]
theorem pickK_f {a b : A} : pickK (.d (.v (.bool false))) a b F = F b := by simp [pickK]
theorem op_pick {x y z : Operand} : vcOp P T (.pick x y z) dst s K = pickK (opd s.t x) (opd s.t y) (opd s.t z) (putK dst s K) := rfl
def boxK (t : TypeId) (dst : Option Nat) (s : St) (K : St → Prop) (o : Option (List A)) : Prop := match o with
  | some l => K ((St.mk s.t (s.h ++ [.box t l]) s.p).put dst (.ref s.h.length 0))
  | none => False
theorem boxK_some {u : TypeId} {l : List A} : boxK u (some d) ⟨t, h, p⟩ K (some l) = K ⟨t.set d (.ref h.length 0), h ++ [.box u l], p⟩ := rfl
theorem op_box {u : TypeId} {y : Operand} : vcOp P T (.box u y) dst s K = boxK u dst s K (opd s.t y).cells? := rfl
def allocK (t : TypeId) (dst : Option Nat) (s : St) (K : St → Prop) (o : Option TI) : Prop := match o with
  | some i => K ((St.mk s.t (s.h ++ [.box t i.zero]) s.p).put dst (.ref s.h.length 0))
  | none => False
theorem allocK_some {u : TypeId} {i : TI} : allocK u (some d) ⟨t, h, p⟩ K (some i) = K ⟨t.set d (.ref h.length 0), h ++ [.box u i.zero], p⟩ := rfl
theorem op_alloc {u : TypeId} : vcOp P T (.alloc u) dst s K = allocK u dst s K (T u) := rfl
theorem op_load {u : TypeId} {y : Operand} : vcOp P T (.load u y) dst s K = vcLoad T u (opd s.t y) s.h (putK dst s K) := rfl
theorem op_store {u : TypeId} {y z : Operand} : vcOp P T (.store u y z) dst s K = vcStore T u (opd s.t y) (opd s.t z) s.h (stK dst s K) := rfl
def nilK (F : A → Prop) : A → Prop
  | .rptr l => F (.rptr l)
  | .ref k o => F (.ref k o)
  | .eptr k sz j o => F (.eptr k sz j o)
  | .fn f l => F (.fn f l)
  | _ => False
theorem nilK_rptr {l : List D} : nilK F (.rptr l) = F (.rptr l) := rfl
theorem nilK_ref : nilK F (.ref k o) = F (.ref k o) := rfl
theorem nilK_eptr {i j : Nat} : nilK F (.eptr k i j o) = F (.eptr k i j o) := rfl
theorem nilK_fn {l : List A} : nilK F (.fn k l) = F (.fn k l) := rfl
theorem op_nil {y : Operand} : vcOp P T (.nilCheck y) dst s K = nilK (putK dst s K) (opd s.t y) := by
  simp only [vcOp, nilK]; rfl
theorem op_bin {b : BinOp} {u v : TypeId} {y z : Operand} : vcOp P T (.binOp b u y z v) dst s K = vcBinT T b u (opd s.t y) (opd s.t z) (putK dst s K) := rfl
theorem binT_int {b : BinOp} {u : TypeId} {k : IntKind} {n : Int} {y : A} : vcBinT T b u (.d (.v (.int k n))) y F = vcBin b (.d (.v (.int k n))) y F := rfl
theorem binT_str {b : BinOp} {u : TypeId} {n : ByteArray} {y : A} : vcBinT T b u (.d (.v (.string n))) y F = vcBin b (.d (.v (.string n))) y F := rfl
def bool2 (op : BinOp) (x y : Bool) (F : A → Prop) : Option TI → Prop
  | some ⟨.boo, _, _, _⟩ => match op with
      | .eql => F (.bool (x == y))
      | .neq => F (.bool (!(x == y)))
      | _ => False
  | _ => False
theorem bool2_eql {x y : Bool} {a b : Nat} {z : List A} : bool2 .eql x y F (some ⟨.boo, a, b, z⟩) = F (.bool (x == y)) := rfl
theorem bool2_neq {x y : Bool} {a b : Nat} {z : List A} : bool2 .neq x y F (some ⟨.boo, a, b, z⟩) = F (.bool (!(x == y))) := rfl
theorem binT_bool {b : BinOp} {u : TypeId} {x y : Bool} : vcBinT T b u (.d (.v (.bool x))) (.d (.v (.bool y))) F = bool2 b x y F (T u) := rfl
theorem op_un {b : UnOp} {u : TypeId} {y : Operand} : vcOp P T (.unOp b u y) dst s K = vcUn b (opd s.t y) (putK dst s K) := rfl
theorem op_fa {u : TypeId} {y : Operand} {f : Nat} : vcOp P T (.fieldAddr u y f) dst s K = vcFieldAddr T u (opd s.t y) f (putK dst s K) := rfl
theorem op_f {u : TypeId} {y : Operand} {f : Nat} : vcOp P T (.field u y f) dst s K = vcField T u (opd s.t y) f (putK dst s K) := rfl
theorem op_ia {u : TypeId} {y z : Operand} : vcOp P T (.indexAddr u y z) dst s K = vcIndexAddr T u (opd s.t y) (opd s.t z) s.h (putK dst s K) := rfl
theorem op_i {u : TypeId} {y z : Operand} : vcOp P T (.index u y z) dst s K = vcIndex T u (opd s.t y) (opd s.t z) (putK dst s K) := rfl
def slK (P : Program) (T : Ty) (u : TypeId) (y : Operand) (lo hi : Option Operand) (dst : Option Nat) (s : St) (K : St → Prop) (a : A) : Prop := match a with
  | .arr _ => semVC P (.slice u y lo hi none) dst s K
  | a => vcSlice T u a (lo.map (opd s.t)) (hi.map (opd s.t)) (putK dst s K)
theorem op_sl {u : TypeId} {y : Operand} {lo hi : Option Operand} : vcOp P T (.slice u y lo hi none) dst s K = slK P T u y lo hi dst s K (opd s.t y) := by
  simp only [vcOp, slK]; rfl
theorem slK_d {u : TypeId} {y : Operand} {lo hi : Option Operand} {z : D} : slK P T u y lo hi dst s K (.d z) = vcSlice T u (.d z) (lo.map (opd s.t)) (hi.map (opd s.t)) (putK dst s K) := rfl
theorem slK_own {u : TypeId} {y : Operand} {lo hi : Option Operand} {z : List D} : slK P T u y lo hi dst s K (.own k z) = vcSlice T u (.own k z) (lo.map (opd s.t)) (hi.map (opd s.t)) (putK dst s K) := rfl
theorem slK_nil {u : TypeId} {y : Operand} {lo hi : Option Operand} : slK P T u y lo hi dst s K .nil = vcSlice T u .nil (lo.map (opd s.t)) (hi.map (opd s.t)) (putK dst s K) := rfl
theorem slK_sl {u : TypeId} {y : Operand} {lo hi : Option Operand} {z : List A} : slK P T u y lo hi dst s K (.sl k z) = vcSlice T u (.sl k z) (lo.map (opd s.t)) (hi.map (opd s.t)) (putK dst s K) := rfl
theorem slK_arr {u : TypeId} {y : Operand} {lo hi : Option Operand} : slK P T u y lo hi dst s K (.arr k) = semVC P (.slice u y lo hi none) dst s K := rfl
def bparts (t : List A) : List (Nat × Operand) → List (Nat × A)
  | [] => []
  | x :: l => (x.1, opd t x.2) :: bparts t l
theorem bparts_eq (t : List A) (l : List (Nat × Operand)) : l.map (fun p => (p.1, opd t p.2)) = bparts t l := by
  induction l with
  | nil => rfl
  | cons x l ih => simp [bparts, ih]
def bvals (t : List A) : List (Nat × Operand) → List A
  | [] => []
  | x :: l => opd t x.2 :: bvals t l
theorem bvals_eq (t : List A) (l : List (Nat × Operand)) : l.map (fun p => opd t p.2) = bvals t l := by
  induction l with
  | nil => rfl
  | cons x l ih => simp [bvals, ih]
theorem op_build {u : TypeId} {l : List (Nat × Operand)} : vcOp P T (.build u l.toArray) dst s K = vcBuild T u (bparts s.t l) (putK dst s K) := by
  simp only [vcOp, ← bparts_eq]; rfl
theorem op_bs {u : TypeId} {n : Nat} {l : List (Nat × Operand)} : vcOp P T (.buildSlice u n l.toArray) dst s K = vcBuildSlice T u n (l.map (·.1)) (bvals s.t l) s (put2 dst K) := by
  simp only [vcOp, ← bvals_eq]; rfl
theorem op_ms {u : TypeId} {y z : Operand} : vcOp P T (.makeSlice u y z) dst s K = vcMakeSlice T u (opd s.t y) (opd s.t z) s (put2 dst K) := rfl
theorem op_mf {f : FuncId} {caps : Array Operand} : vcOp P T (.makeFunc (.func f) ⟨[]⟩ caps) dst s K = putK dst s K (.fn f (opds s.t caps.toList)) := rfl
theorem op_mf' {f : FuncId} {caps : Array Operand} : vcOp P T (.makeFunc (.func f) (List.toArray []) caps) dst s K = putK dst s K (.fn f (opds s.t caps.toList)) := rfl
def tupK (i : Nat) (F : A → Prop) : A → Prop
  | .tup l => aK l[i]? F
  | _ => False
theorem tupK_tup {l : List A} {i : Nat} : tupK i F (.tup l) = aK l[i]? F := rfl
theorem op_ex {y : Operand} {i : Nat} : vcOp P T (.extract y i) dst s K = tupK i (putK dst s K) (opd s.t y) := by
  simp only [vcOp, tupK]; rfl
def lenK (F : A → Prop) : Option Nat → Prop
  | some n => F (.int n)
  | none => False
theorem lenK_some {n : Nat} : lenK F (some n) = F (.int n) := rfl
theorem op_len {u : TypeId} {y : Operand} : vcOp P T (.call ⟨.builtin .len, #[y], #[u]⟩) dst s K = (lenOk T u (opd s.t y) ∧ lenK (putK dst s K) ((opd s.t y).len? s.h)) := rfl
def apK (P : Program) (T : Ty) (u v : TypeId) (y z : Operand) (dst : Option Nat) (s : St) (K : St → Prop) (a b : A) : Prop := match b with
  | .d (.v (.string _)) => semVC P (.call ⟨.builtin .append, #[y, z], #[u, v]⟩) dst s K
  | b => vcAppend T u v a b s (put2 dst K)
theorem op_append {u v : TypeId} {y z : Operand} : vcOp P T (.call ⟨.builtin .append, #[y, z], #[u, v]⟩) dst s K = apK P T u v y z dst s K (opd s.t y) (opd s.t z) := by
  simp only [vcOp, apK, opds]
  generalize opd s.t y = a
  generalize opd s.t z = b
  cases b with
  | d x => cases x with
    | v x => cases x <;> rfl
    | _ => rfl
  | _ => rfl
theorem apK_lst {u v : TypeId} {y z : Operand} {a : A} {l : List D} : apK P T u v y z dst s K a (.d (.lst l)) = vcAppend T u v a (.d (.lst l)) s (put2 dst K) := rfl
theorem apK_own {u v : TypeId} {y z : Operand} {a : A} {l : List D} : apK P T u v y z dst s K a (.own k l) = vcAppend T u v a (.own k l) s (put2 dst K) := rfl
theorem apK_nil {u v : TypeId} {y z : Operand} {a : A} : apK P T u v y z dst s K a .nil = vcAppend T u v a .nil s (put2 dst K) := rfl
theorem apK_sl {u v : TypeId} {y z : Operand} {a : A} {l : List A} : apK P T u v y z dst s K a (.sl k l) = vcAppend T u v a (.sl k l) s (put2 dst K) := rfl
theorem apK_arr {u v : TypeId} {y z : Operand} {a : A} : apK P T u v y z dst s K a (.arr k) = vcAppend T u v a (.arr k) s (put2 dst K) := rfl
theorem apK_str {u v : TypeId} {y z : Operand} {a : A} {q : ByteArray} : apK P T u v y z dst s K a (.d (.v (.string q))) = semVC P (.call ⟨.builtin .append, #[y, z], #[u, v]⟩) dst s K := rfl
def minK (F : A → Prop) : A → A → Prop
  | .d (.v (.int .i64 a)), .d (.v (.int .i64 b)) => F (.int (if b < a then b else a))
  | _, _ => False
def maxK (F : A → Prop) : A → A → Prop
  | .d (.v (.int .i64 a)), .d (.v (.int .i64 b)) => F (.int (if a < b then b else a))
  | _, _ => False
theorem minK_int {a b : Int} : minK F (.d (.v (.int .i64 a))) (.d (.v (.int .i64 b))) = F (.int (if b < a then b else a)) := rfl
theorem maxK_int {a b : Int} : maxK F (.d (.v (.int .i64 a))) (.d (.v (.int .i64 b))) = F (.int (if a < b then b else a)) := rfl
theorem op_call {f : Operand} {args : Array Operand} {ts : Array TypeId} : vcOp P T (.call ⟨.value f, args, ts⟩) dst s K = vcCall P (opd s.t f) (opds s.t args.toList) s dst K := rfl
theorem call_fn {g : Nat} {caps args : List A} : vcCall P (.fn g caps) args s dst K = callVC P g (args ++ caps) s dst K := rfl
end
/-! ### Conditions, a step at a time (no step is taken in a state that is not written out) -/
def vcK (P : Program) (T : Ty) (b : Code) (Kn Kr : St → Prop) (Kx : Nat → St → Prop) : St → Prop := fun s => vc P T b Kn Kr Kx s
def opsK (P : Program) (T : Ty) (ops r : List Oper) (K : St → Prop) : St → Prop := fun s => vcOps P T ops r s K
def blkK (id : Nat) (Kn : St → Prop) (Kx : Nat → St → Prop) : Nat → St → Prop := fun i s => if i = id then Kn s else Kx i s
section
variable {P : Program} {T : Ty} {Kn Kr : St → Prop} {Kx : Nat → St → Prop} {s : St} {t : List A} {h : List O} {p : Nat}
theorem vcK_mk {b : Code} : vcK P T b Kn Kr Kx ⟨t, h, p⟩ = vc P T b Kn Kr Kx ⟨t, h, p⟩ := rfl
theorem opsK_mk {ops r : List Oper} : opsK P T ops r Kn ⟨t, h, p⟩ = vcOps P T ops r ⟨t, h, p⟩ Kn := rfl
theorem blkK_mk {id i : Nat} : blkK id Kn Kx i ⟨t, h, p⟩ = if i = id then Kn ⟨t, h, p⟩ else Kx i ⟨t, h, p⟩ := rfl
theorem vc_skip : vc P T .skip Kn Kr Kx s = Kn s := rfl
theorem vc_region {id : Nat} {l : List Oper} : vc P T (.region id l.toArray false) Kn Kr Kx s = vcOps P T l l s Kn := rfl
theorem vc_draw {id : Nat} {l : Array Oper} : vc P T (.region id l true) Kn Kr Kx s = drawVC P id l Kn s := rfl
theorem vc_seq {a b : Code} : vc P T (.seq a b) Kn Kr Kx s = vc P T a (vcK P T b Kn Kr Kx) Kr Kx s := rfl
theorem vc_block {id : Nat} {c : Code} : vc P T (.block id c) Kn Kr Kx s = vc P T c Kn Kr (blkK id Kn Kx) s := rfl
theorem vc_exit {id : Nat} : vc P T (.exit id) Kn Kr Kx s = Kx id s := rfl
theorem vc_ret : vc P T .ret Kn Kr Kx s = Kr s := rfl
theorem vc_loop {c : Code} : vc P T (.loop c) Kn Kr Kx s = loopVC P c Kn Kr Kx s := rfl
theorem vcOps_nil {ops : List Oper} : vcOps P T ops [] s Kn = Kn s := rfl
theorem vcOps_go {ops r : List Oper} {dst : Option Nat} {op : Op} {ty : TypeId} {pos : String} {after : Array Edge} :
    vcOps P T ops (⟨dst, op, ty, pos, after, none⟩ :: r) s Kn = vcOp P T op dst s (opsK P T ops r Kn) := rfl
theorem vcOps_if {ops r : List Oper} {dst : Option Nat} {op : Op} {ty : TypeId} {pos : String} {after : Array Edge} {j : Nat} {want : Bool} :
    vcOps P T ops (⟨dst, op, ty, pos, after, some (j, want)⟩ :: r) s Kn = gd1 P T dst op want (opsK P T ops r Kn) s ((ops[j]?).bind (·.dst)) := rfl
theorem vc_cond {x : Operand} {a b : Code} : vc P T (.cond x a b) Kn Kr Kx s = condK P T a b Kn Kr Kx s (opd s.t x) := rfl
end
/-- A frame: these slots hold these, the others anything. -/
def fr (n : Nat) (l : List (Nat × A)) : List A := l.foldl (fun t x => t.set x.1 x.2) (List.replicate n .any)
theorem le_any {n m : Nat} (a : A) : A.le n m a .any ↔ True := by cases a <;> simp [A.le]
theorem le_d {n m : Nat} {x y : D} : A.le n m (.d x) (.d y) ↔ x = y := by simp [A.le]
theorem lel_cons {n m : Nat} {x y : A} {l l' : List A} : A.lel n m (x :: l) (y :: l') ↔ A.le n m x y ∧ A.lel n m l l' := by simp [A.lel]
theorem lel_nil {n m : Nat} : A.lel n m [] [] ↔ True := by simp [A.lel]
theorem olel_nil {n m : Nat} : O.lel n m [] [] ↔ True := by simp [O.lel]
section
variable {P : Program} {T : Ty} {w w' : World} {I I' : Im} {G G' : List Gh} {c : Cx} {s s' : St} {a : Act}
theorem ct_go (hT : TOk P T) {f : FuncId} {fn : Func} {code : Code} {nt : Nat} {rs : List ResultVar} (hf : P.funcs[f]? = some fn) (hb : fn.body = some code) (hn : (fn.name == "runtime.NumGoroutine") = false) (hnt : fn.ntmps = nt) (hrs : fn.results.toList = rs)
    {args : List A} {h : List O} {X : Type} {φ : X → Prop} {ret : X → A} {post : X → List O}
    (hpost : ∀ x, φ x → h.length ≤ (post x).length)
    (hv : ∀ K : St → Prop, (∀ s, vcEnd T rs φ ret post s → K s) → vc P T code K K (fun _ _ => False) ⟨args ++ List.replicate (nt - args.length) .any, h, h.length⟩) : Ct P f args h φ ret post := by
  subst hnt hrs
  exact ct_intro hT hf hb hn hpost (hv _ (fun _ h => h))
/-- The end of a function that hands back one value and leaves no objects. -/
theorem end_pure {K : St → Prop} {X : Type} {φ : X → Prop} {ret : X → A} {i : Nat} {t : List A} {h : List O} (hK : ∀ s, vcEnd T [.tmp i] φ ret (fun _ => []) s → K s) (x : X) (hx : φ x) (hle : A.le 0 0 (t.getD i .any) (ret x)) : K ⟨t, h, 0⟩ := by
  refine hK _ ?_
  simp only [vcEnd, vcRes, tupA]
  exact Turns.le (s' := ⟨[ret x], [], 0⟩) 0 ⟨Nat.zero_le _, Nat.le_refl _, rfl, ⟨hle, trivial⟩, by simp [O.lel]⟩ ⟨x, hx, rfl⟩
theorem loop_go (hT : TOk P T) {body : Code} {Kn Kr : St → Prop} {Kx : Nat → St → Prop} {ι : Type} (f : ι → St) (φ : ι → Prop) (μ : ι → Nat) (i0 : ι) (n0 : Nat) (h0 : φ i0) (hs : s.Le n0 (f i0))
    (hr : ∀ i, φ i → ∀ L : St → Prop, (∀ s' j n, φ j → μ j < μ i → s'.Le n (f j) → L s') → vc P T body L Kr Kx (f i)) : loopVC P body Kn Kr Kx s :=
  loop_rule hT f φ μ i0 n0 h0 hs fun i hi => hr i hi _ (fun s' j n h1 h2 h3 => ⟨j, n, h1, h2, h3⟩)
theorem back_nil (t : List A) (h q : List O) (p : Nat) : St.back ⟨t, h, p⟩ [] [] q = ⟨t, h ++ O.rens (rho [] h.length) q, p⟩ := by
  simp [St.back, unfixed, demsL, demLL, putL]
/-- A call of a function that takes data alone and leaves no objects. -/
theorem call_pure {f d : Nat} {args args' : List A} {t : List A} {h : List O} {p : Nat} {K : St → Prop} {X : Type} {φ : X → Prop} {ret : X → A} (ct : Ct P f args' [] φ ret (fun _ => []))
    (hua : A.unders 0 args') (hargs : A.lel h.length h.length args (A.rens (rho [] h.length) args')) (hK : ∀ x, φ x → K ⟨t.set d ((ret x).ren (rho [] h.length)), h, p⟩) : callVC P f args ⟨t, h, p⟩ (some d) K := by
  refine use_ct ct [] .nil rfl (fun _ h => by cases h) hua trivial hargs trivial fun x hx => ?_
  have := hK x hx
  rw [back_nil]
  simpa [O.rens, St.put] using this
theorem calm_pure {f d : Nat} {args args' : List A} {t : List A} {h : List O} {p : Nat} {K : St → Prop} {X : Type} {φ : X → Prop} {ret : X → A} (ct : Ct P f args' [] φ ret (fun _ => []))
    (hua : A.unders 0 args') (hargs : A.lel h.length h.length args (A.rens (rho [] h.length) args')) (hK : ∀ x, φ x → K ⟨t.set d ((ret x).ren (rho [] h.length)), h, p⟩) : calmVC P f args ⟨t, h, p⟩ (some d) K := by
  refine use_calm ct hua hargs fun x hx => ?_
  have := hK x hx
  rw [back_nil]
  simpa [O.rens, St.put] using this
/-- Data as they are handed over. -/
def ds (l : List D) : List A := l.map A.d
theorem ds_under (n : Nat) : ∀ l : List D, A.unders n (l.map A.d)
  | [] => trivial
  | _ :: l => ⟨trivial, ds_under n l⟩
theorem ds_lel (n m : Nat) (ρ : Nat → Nat) : ∀ l : List D, A.lel n m (l.map A.d) (A.rens ρ (l.map A.d))
  | [] => trivial
  | _ :: l => ⟨by simp [A.le, A.ren], ds_lel n m ρ l⟩
/-- The same, where the arguments are data and the result too. -/
theorem call_data {f d : Nat} (l : List D) {args : List A} {t : List A} {h : List O} {p : Nat} {K : St → Prop} {X : Type} {φ : X → Prop} {ret : X → D} (ct : Ct P f args [] φ (fun x => .d (ret x)) (fun _ => []))
    (hl : args = l.map A.d) (hK : ∀ x, φ x → K ⟨t.set d (.d (ret x)), h, p⟩) : callVC P f args ⟨t, h, p⟩ (some d) K := by
  subst hl
  exact call_pure ct (ds_under 0 l) (ds_lel _ _ _ l) hK
theorem calm_data {f d : Nat} (l : List D) {args : List A} {t : List A} {h : List O} {p : Nat} {K : St → Prop} {X : Type} {φ : X → Prop} {ret : X → D} (ct : Ct P f args [] φ (fun x => .d (ret x)) (fun _ => []))
    (hl : args = l.map A.d) (hK : ∀ x, φ x → K ⟨t.set d (.d (ret x)), h, p⟩) : calmVC P f args ⟨t, h, p⟩ (some d) K := by
  subst hl
  exact calm_pure ct (ds_under 0 l) (ds_lel _ _ _ l) hK
end
theorem drop_of {α : Type} {l : List α} {i : Nat} {x : α} (h : l[i]? = some x) : l.drop i = x :: l.drop (i + 1) := by
  obtain ⟨h1, rfl⟩ := List.getElem?_eq_some_iff.1 h
  exact List.drop_eq_getElem_cons h1
theorem olel_mt {n m : Nat} {t : TypeId} {sz : Nat} {b : Bool} {r : List O} : O.lel n m [] (.app t sz b :: r) ↔ O.lel n m [] r := by simp [O.lel]
theorem olel_cons {n m : Nat} {o o' : O} {r r' : List O} : O.lel n m (o :: r) (o' :: r') ↔ O.le n m o o' ∧ O.lel n m r r' := by simp [O.lel]
theorem ole_box {n m : Nat} {t t' : TypeId} {l l' : List A} : O.le n m (.box t l) (.box t' l') ↔ t = t' ∧ A.lel n m l l' := by simp [O.le]
theorem ole_app {n m : Nat} {t t' : TypeId} {sz sz' : Nat} {dp dp' : Bool} : O.le n m (.app t sz dp) (.app t' sz' dp') ↔ t = t' ∧ sz = sz' ∧ (dp' = true → dp = true) := by simp [O.le]
/-! ### Regions whose order is drawn -/
def vcQ (P : Program) (T : Ty) (op : Op) (dst : Option Nat) (s : St) (K : St → Prop) : Prop := semFree s.t op = true ∧ vcOp P T op dst s K
def drawOp (P : Program) (T : Ty) (ops : List Oper) (o : Oper) (s : St) (K : St → Prop) : Prop :=
  match quiet o.op with
  | true => vcGuard ops o.guard s (fun s => vcQ P T o.op o.dst s K) (fun s => K (s.put o.dst (.tup [])))
  | false => vcGuard ops o.guard s (fun s => vcCalm P T o s K) (fun s => K (s.put o.dst (.tup [])))
def drawK (P : Program) (T : Ty) (ops : List Oper) (r : List Nat) (K : St → Prop) : St → Prop := fun s => vcDraw P T ops r s K
section
variable {P : Program} {T : Ty} {Kn : St → Prop} {s : St} {t : List A} {h : List O} {p : Nat}
theorem drawK_mk {ops : List Oper} {r : List Nat} : drawK P T ops r Kn ⟨t, h, p⟩ = vcDraw P T ops r ⟨t, h, p⟩ Kn := rfl
theorem vcDraw_nil {ops : List Oper} : vcDraw P T ops [] s Kn = Kn s := rfl
theorem vcDraw_cons {ops : List Oper} {i : Nat} {r : List Nat} : vcDraw P T ops (i :: r) s Kn = match ops[i]? with
    | none => False
    | some o => drawOp P T ops o s (drawK P T ops r Kn) := rfl
theorem drawOp_go {ops : List Oper} {dst : Option Nat} {op : Op} {ty : TypeId} {pos : String} {after : Array Edge} :
    drawOp P T ops ⟨dst, op, ty, pos, after, none⟩ s Kn = match quiet op with
      | true => vcQ P T op dst s Kn
      | false => vcCalm P T ⟨dst, op, ty, pos, after, none⟩ s Kn := rfl
def gq2 (P : Program) (T : Ty) (dst : Option Nat) (op : Op) (want : Bool) (K : St → Prop) (s : St) (d : Nat) (x : A) : Prop :=
  match x with
  | .d (.v (.bool b)) => (b = want → vcQ P T op dst ⟨s.t.set d (.bool want), s.h, s.p⟩ K) ∧ (b = !want → K (St.put ⟨s.t.set d (.bool !want), s.h, s.p⟩ dst (.tup [])))
  | .tup [] => K (s.put dst (.tup []))
  | _ => False
def gq1 (P : Program) (T : Ty) (dst : Option Nat) (op : Op) (want : Bool) (K : St → Prop) (s : St) (o : Option Nat) : Prop :=
  match o with
  | none => False
  | some d => gq2 P T dst op want K s d (s.t.getD d .any)
theorem gq1_some {dst : Option Nat} {op : Op} {want : Bool} {d : Nat} : gq1 P T dst op want Kn s (some d) = gq2 P T dst op want Kn s d (s.t.getD d .any) := rfl
theorem gq2_b {dst : Option Nat} {op : Op} {want b : Bool} {d : Nat} : gq2 P T dst op want Kn ⟨t, h, p⟩ d (.d (.v (.bool b))) = ((b = want → vcQ P T op dst ⟨t.set d (.bool want), h, p⟩ Kn) ∧ (b = !want → Kn (St.put ⟨t.set d (.bool !want), h, p⟩ dst (.tup [])))) := rfl
theorem gq2_un {dst : Option Nat} {op : Op} {want : Bool} {d : Nat} : gq2 P T dst op want Kn ⟨t, h, p⟩ d (.tup []) = Kn (St.put ⟨t, h, p⟩ dst (.tup [])) := rfl
theorem gq2_yes {dst : Option Nat} {op : Op} {want : Bool} {d : Nat} : gq2 P T dst op want Kn ⟨t, h, p⟩ d (.d (.v (.bool want))) = vcQ P T op dst ⟨t.set d (.bool want), h, p⟩ Kn := by
  cases want <;> simp [gq2]
theorem gq2_ft {dst : Option Nat} {op : Op} {d : Nat} : gq2 P T dst op true Kn ⟨t, h, p⟩ d (.d (.v (.bool false))) = Kn (St.put ⟨t.set d (.bool false), h, p⟩ dst (.tup [])) := by simp [gq2]
theorem gq2_tf {dst : Option Nat} {op : Op} {d : Nat} : gq2 P T dst op false Kn ⟨t, h, p⟩ d (.d (.v (.bool true))) = Kn (St.put ⟨t.set d (.bool true), h, p⟩ dst (.tup [])) := by simp [gq2]
theorem vcQ_move {dst : Option Nat} {x : Operand} : vcQ P T (.move x) dst s Kn = vcOp P T (.move x) dst s Kn := by simp [vcQ, semFree]
theorem vcQ_assign {dst : Option Nat} {x : Operand} : vcQ P T (.assign x) dst s Kn = vcOp P T (.assign x) dst s Kn := by simp [vcQ, semFree]
theorem vcQ_pick {dst : Option Nat} {x y z : Operand} : vcQ P T (.pick x y z) dst s Kn = vcOp P T (.pick x y z) dst s Kn := by simp [vcQ, semFree]
theorem vcQ_load {dst : Option Nat} {u : TypeId} {x : Operand} : vcQ P T (.load u x) dst s Kn = vcOp P T (.load u x) dst s Kn := by simp [vcQ, semFree]
theorem vcQ_nil {dst : Option Nat} {x : Operand} : vcQ P T (.nilCheck x) dst s Kn = vcOp P T (.nilCheck x) dst s Kn := by simp [vcQ, semFree]
theorem vcQ_bin {dst : Option Nat} {b : BinOp} {u v : TypeId} {x y : Operand} : vcQ P T (.binOp b u x y v) dst s Kn = vcOp P T (.binOp b u x y v) dst s Kn := by simp [vcQ, semFree]
theorem vcQ_un {dst : Option Nat} {b : UnOp} {u : TypeId} {x : Operand} : vcQ P T (.unOp b u x) dst s Kn = vcOp P T (.unOp b u x) dst s Kn := by simp [vcQ, semFree]
theorem vcQ_fa {dst : Option Nat} {u : TypeId} {x : Operand} {f : Nat} : vcQ P T (.fieldAddr u x f) dst s Kn = vcOp P T (.fieldAddr u x f) dst s Kn := by simp [vcQ, semFree]
theorem vcQ_f {dst : Option Nat} {u : TypeId} {x : Operand} {f : Nat} : vcQ P T (.field u x f) dst s Kn = vcOp P T (.field u x f) dst s Kn := by simp [vcQ, semFree]
theorem vcQ_ia {dst : Option Nat} {u : TypeId} {x y : Operand} : vcQ P T (.indexAddr u x y) dst s Kn = vcOp P T (.indexAddr u x y) dst s Kn := by simp [vcQ, semFree]
theorem vcQ_i {dst : Option Nat} {u : TypeId} {x y : Operand} : vcQ P T (.index u x y) dst s Kn = vcOp P T (.index u x y) dst s Kn := by simp [vcQ, semFree]
theorem vcQ_build {dst : Option Nat} {u : TypeId} {l : Array (Nat × Operand)} : vcQ P T (.build u l) dst s Kn = vcOp P T (.build u l) dst s Kn := by simp [vcQ, semFree]
theorem vcQ_ex {dst : Option Nat} {x : Operand} {i : Nat} : vcQ P T (.extract x i) dst s Kn = vcOp P T (.extract x i) dst s Kn := by simp [vcQ, semFree]
theorem vcQ_len {dst : Option Nat} {args : Array Operand} {ts : Array TypeId} : vcQ P T (.call ⟨.builtin .len, args, ts⟩) dst s Kn = vcOp P T (.call ⟨.builtin .len, args, ts⟩) dst s Kn := by simp [vcQ, semFree]
theorem vcQ_mf {dst : Option Nat} {f : FuncId} {caps : Array Operand} : vcQ P T (.makeFunc (.func f) (List.toArray []) caps) dst s Kn = vcOp P T (.makeFunc (.func f) (List.toArray []) caps) dst s Kn := by simp [vcQ, semFree]
def slQ (T : Ty) (u : TypeId) (lo hi : Option Operand) (dst : Option Nat) (s : St) (K : St → Prop) (a : A) : Prop := match a with
  | .arr _ => False
  | a => vcSlice T u a (lo.map (opd s.t)) (hi.map (opd s.t)) (putK dst s K)
theorem vcQ_sl {dst : Option Nat} {u : TypeId} {x : Operand} {lo hi : Option Operand} : vcQ P T (.slice u x lo hi none) dst s Kn = slQ T u lo hi dst s Kn (opd s.t x) := by
  simp only [vcQ, semFree, op_sl, slK, slQ]
  cases opd s.t x <;> simp
theorem slQ_d {dst : Option Nat} {u : TypeId} {lo hi : Option Operand} {z : D} : slQ T u lo hi dst s Kn (.d z) = vcSlice T u (.d z) (lo.map (opd s.t)) (hi.map (opd s.t)) (putK dst s Kn) := rfl
theorem slQ_own {dst : Option Nat} {u : TypeId} {lo hi : Option Operand} {z : List D} {k : Nat} : slQ T u lo hi dst s Kn (.own k z) = vcSlice T u (.own k z) (lo.map (opd s.t)) (hi.map (opd s.t)) (putK dst s Kn) := rfl
theorem slQ_nil {dst : Option Nat} {u : TypeId} {lo hi : Option Operand} : slQ T u lo hi dst s Kn .nil = vcSlice T u .nil (lo.map (opd s.t)) (hi.map (opd s.t)) (putK dst s Kn) := rfl
theorem slQ_sl {dst : Option Nat} {u : TypeId} {lo hi : Option Operand} {z : List A} {k : Nat} : slQ T u lo hi dst s Kn (.sl k z) = vcSlice T u (.sl k z) (lo.map (opd s.t)) (hi.map (opd s.t)) (putK dst s Kn) := rfl
def gc2 (P : Program) (T : Ty) (o : Oper) (want : Bool) (K : St → Prop) (s : St) (d : Nat) (x : A) : Prop :=
  match x with
  | .d (.v (.bool b)) => (b = want → vcCalm P T o ⟨s.t.set d (.bool want), s.h, s.p⟩ K) ∧ (b = !want → K (St.put ⟨s.t.set d (.bool !want), s.h, s.p⟩ o.dst (.tup [])))
  | .tup [] => K (s.put o.dst (.tup []))
  | _ => False
def gc1 (P : Program) (T : Ty) (o : Oper) (want : Bool) (K : St → Prop) (s : St) (d : Option Nat) : Prop :=
  match d with
  | none => False
  | some d => gc2 P T o want K s d (s.t.getD d .any)
theorem gc1_some {o : Oper} {want : Bool} {d : Nat} : gc1 P T o want Kn s (some d) = gc2 P T o want Kn s d (s.t.getD d .any) := rfl
theorem gc2_b {dst : Option Nat} {op : Op} {ty : TypeId} {pos : String} {after : Array Edge} {g : Option (Nat × Bool)} {want b : Bool} {d : Nat} : gc2 P T ⟨dst, op, ty, pos, after, g⟩ want Kn ⟨t, h, p⟩ d (.d (.v (.bool b))) = ((b = want → vcCalm P T ⟨dst, op, ty, pos, after, g⟩ ⟨t.set d (.bool want), h, p⟩ Kn) ∧ (b = !want → Kn (St.put ⟨t.set d (.bool !want), h, p⟩ dst (.tup [])))) := rfl
theorem gc2_un {dst : Option Nat} {op : Op} {ty : TypeId} {pos : String} {after : Array Edge} {g : Option (Nat × Bool)} {want : Bool} {d : Nat} : gc2 P T ⟨dst, op, ty, pos, after, g⟩ want Kn ⟨t, h, p⟩ d (.tup []) = Kn (St.put ⟨t, h, p⟩ dst (.tup [])) := rfl
theorem gc2_yes {o : Oper} {want : Bool} {d : Nat} : gc2 P T o want Kn ⟨t, h, p⟩ d (.d (.v (.bool want))) = vcCalm P T o ⟨t.set d (.bool want), h, p⟩ Kn := by
  cases want <;> simp [gc2]
theorem gc2_ft {dst : Option Nat} {op : Op} {ty : TypeId} {pos : String} {after : Array Edge} {g : Option (Nat × Bool)} {d : Nat} : gc2 P T ⟨dst, op, ty, pos, after, g⟩ true Kn ⟨t, h, p⟩ d (.d (.v (.bool false))) = Kn (St.put ⟨t.set d (.bool false), h, p⟩ dst (.tup [])) := by simp [gc2]
theorem gc2_tf {dst : Option Nat} {op : Op} {ty : TypeId} {pos : String} {after : Array Edge} {g : Option (Nat × Bool)} {d : Nat} : gc2 P T ⟨dst, op, ty, pos, after, g⟩ false Kn ⟨t, h, p⟩ d (.d (.v (.bool true))) = Kn (St.put ⟨t.set d (.bool true), h, p⟩ dst (.tup [])) := by simp [gc2]
theorem drawOp_if {ops : List Oper} {dst : Option Nat} {op : Op} {ty : TypeId} {pos : String} {after : Array Edge} {j : Nat} {want : Bool} :
    drawOp P T ops ⟨dst, op, ty, pos, after, some (j, want)⟩ s Kn = match quiet op with
      | true => gq1 P T dst op want Kn s ((ops[j]?).bind (·.dst))
      | false => gc1 P T ⟨dst, op, ty, pos, after, some (j, want)⟩ want Kn s ((ops[j]?).bind (·.dst)) := by
  unfold drawOp
  cases quiet op
  · simp only [vcGuard, gc1, gc2]
    cases (ops[j]?).bind (·.dst) <;> rfl
  · simp only [vcGuard, gq1, gq2]
    cases (ops[j]?).bind (·.dst) <;> rfl
theorem vcCalm_call {dst : Option Nat} {f : Operand} {args : Array Operand} {ts : Array TypeId} {ty : TypeId} {pos : String} {after : Array Edge} {g : Option (Nat × Bool)} :
    vcCalm P T ⟨dst, .call ⟨.value f, args, ts⟩, ty, pos, after, g⟩ s Kn = match opd s.t f with
      | .fn q caps => calmVC P q (opds s.t args.toList ++ caps) s dst Kn
      | _ => False := rfl
end
section
variable {P : Program} {T : Ty} {s : St} {Kn : St → Prop}
theorem vcCalm_bs {dst : Option Nat} {u : TypeId} {n : Nat} {l : Array (Nat × Operand)} {ty : TypeId} {pos : String} {after : Array Edge} {g : Option (Nat × Bool)} : vcCalm P T ⟨dst, .buildSlice u n l, ty, pos, after, g⟩ s Kn = vcOp P T (.buildSlice u n l) dst s Kn := rfl
theorem vcCalm_ap {dst : Option Nat} {args : Array Operand} {ts : Array TypeId} {ty : TypeId} {pos : String} {after : Array Edge} {g : Option (Nat × Bool)} : vcCalm P T ⟨dst, .call ⟨.builtin .append, args, ts⟩, ty, pos, after, g⟩ s Kn = vcOp P T (.call ⟨.builtin .append, args, ts⟩) dst s Kn := rfl
theorem vcCalm_st {dst : Option Nat} {u : TypeId} {x y : Operand} {ty : TypeId} {pos : String} {after : Array Edge} {g : Option (Nat × Bool)} : vcCalm P T ⟨dst, .store u x y, ty, pos, after, g⟩ s Kn = vcOp P T (.store u x y) dst s Kn := rfl
theorem vcCalm_al {dst : Option Nat} {u : TypeId} {ty : TypeId} {pos : String} {after : Array Edge} {g : Option (Nat × Bool)} : vcCalm P T ⟨dst, .alloc u, ty, pos, after, g⟩ s Kn = vcOp P T (.alloc u) dst s Kn := rfl
end
theorem quiet_bs {u : TypeId} {n : Nat} {l : Array (Nat × Operand)} : quiet (.buildSlice u n l) = false := rfl
theorem quiet_ap {args : Array Operand} {ts : Array TypeId} : quiet (.call ⟨.builtin .append, args, ts⟩) = false := rfl
theorem quiet_st {u : TypeId} {x y : Operand} : quiet (.store u x y) = false := rfl
theorem quiet_al {u : TypeId} : quiet (.alloc u) = false := rfl
attribute [go_sem] vcCalm_bs vcCalm_ap vcCalm_st vcCalm_al quiet_bs quiet_ap quiet_st quiet_al
theorem quiet_call {f : Operand} {args : Array Operand} {ts : Array TypeId} : quiet (.call ⟨.value f, args, ts⟩) = false := rfl
theorem quiet_len {args : Array Operand} {ts : Array TypeId} : quiet (.call ⟨.builtin .len, args, ts⟩) = true := rfl
theorem quiet_move {x : Operand} : quiet (.move x) = true := rfl
theorem quiet_assign {x : Operand} : quiet (.assign x) = true := rfl
theorem quiet_pick {x y z : Operand} : quiet (.pick x y z) = true := rfl
theorem quiet_load {t : TypeId} {x : Operand} : quiet (.load t x) = true := rfl
theorem quiet_nil {x : Operand} : quiet (.nilCheck x) = true := rfl
theorem quiet_bin {b : BinOp} {t u : TypeId} {x y : Operand} : quiet (.binOp b t x y u) = true := rfl
theorem quiet_un {b : UnOp} {t : TypeId} {x : Operand} : quiet (.unOp b t x) = true := rfl
theorem quiet_fa {t : TypeId} {x : Operand} {f : Nat} : quiet (.fieldAddr t x f) = true := rfl
theorem quiet_f {t : TypeId} {x : Operand} {f : Nat} : quiet (.field t x f) = true := rfl
theorem quiet_ia {t : TypeId} {x y : Operand} : quiet (.indexAddr t x y) = true := rfl
theorem quiet_i {t : TypeId} {x y : Operand} : quiet (.index t x y) = true := rfl
theorem quiet_sl {t : TypeId} {x : Operand} {lo hi : Option Operand} : quiet (.slice t x lo hi none) = true := rfl
theorem quiet_ex {x : Operand} {i : Nat} : quiet (.extract x i) = true := rfl
theorem quiet_build {t : TypeId} {l : Array (Nat × Operand)} : quiet (.build t l) = true := rfl
attribute [go_sem] gc1_some gc2_b gq1_some gq2_b vcQ_move vcQ_assign vcQ_pick vcQ_load vcQ_nil vcQ_bin vcQ_un vcQ_fa vcQ_f vcQ_ia vcQ_i vcQ_build vcQ_ex vcQ_len vcQ_mf vcQ_sl slQ_d slQ_own slQ_nil slQ_sl slK_d slK_own slK_nil slK_sl slK_arr apK_lst apK_own apK_nil apK_sl apK_arr apK_str
attribute [go_sem high] gq2_yes gq2_ft gq2_tf gq2_un
attribute [go_sem high] gc2_yes gc2_ft gc2_tf gc2_un gd2_un
attribute [go_sem] drawK_mk vcDraw_nil vcDraw_cons drawOp_go drawOp_if vcCalm_call vcGuard quiet_call quiet_len quiet_move quiet_assign quiet_pick quiet_load quiet_nil quiet_bin quiet_un quiet_fa quiet_f quiet_ia
  quiet_i quiet_sl quiet_ex quiet_build eq_self not_true_eq_false not_false_eq_true false_imp_iff true_imp_iff decide_true decide_false Bool.not_true Bool.not_false
theorem partA_mono {i : FI} {l : List A} {K K' : A → Prop} (hk : ∀ a, K a → K' a) (h : partA i l K) : partA i l K' := by
  unfold partA at *
  split
  · rename_i e; rw [e] at h; exact ⟨h.1, hk _ h.2⟩
  · rename_i e; rw [e] at h; obtain ⟨x, h1, h2⟩ := h; exact ⟨x, h1, hk _ h2⟩
/-- The end of a function whose one result lies in a variable. -/
theorem end_cell {T : Ty} {K : St → Prop} {X : Type} {φ : X → Prop} {ret : X → A} {b ty k u : Nat} {i : TI} {l : List A} {t : List A} {h : List O} (hK : ∀ s, vcEnd T [.cell b ty] φ ret (fun _ => []) s → K s) (x : X) (hx : φ x)
    (hb : t.getD b .any = .ref k 0) (hh : h[k]? = some (.box u l)) (hT : T ty = some i) (hp : partA ⟨0, i.sz, i.ag⟩ l (fun a => A.le 0 0 a (ret x))) : K ⟨t, h, 0⟩ := by
  refine hK _ ?_
  simp only [vcEnd, vcRes, vcLoad, hT, hb, hh]
  refine partA_mono (fun a ha => ?_) hp
  simp only [tupA]
  exact Turns.le (s' := ⟨[ret x], [], 0⟩) 0 ⟨Nat.zero_le _, Nat.le_refl _, rfl, ⟨ha, trivial⟩, by simp [O.lel]⟩ ⟨x, hx, rfl⟩
theorem get_all {α : Type} {f : α → D} {l : List α} {i : Nat} {p : D → Prop} : (∀ x, (l.map f)[i]? = some x → p x) ↔ ∀ e, l[i]? = some e → p (f e) := by
  constructor
  · intro h e he; exact h _ (by simp [he])
  · intro h x hx
    simp only [List.getElem?_map, Option.map_eq_some_iff] at hx
    obtain ⟨e, he, rfl⟩ := hx
    exact h e he
theorem flat_str (l : List ByteArray) : Flat 1 (l.map D.str) := fun x hx => by
  obtain ⟨e, _, rfl⟩ := List.mem_map.1 hx; rfl
theorem flat_int (l : List Int) : Flat 1 (l.map D.int) := fun x hx => by
  obtain ⟨e, _, rfl⟩ := List.mem_map.1 hx; rfl
theorem flat_lst {α : Type} (f : α → List D) (l : List α) : Flat 1 (l.map fun r => D.lst (f r)) := fun x hx => by
  obtain ⟨e, _, rfl⟩ := List.mem_map.1 hx; rfl
theorem flat_nil {n : Nat} : Flat n [] := fun x hx => by cases hx
theorem flat_app {n : Nat} {l m : List D} : Flat n (l ++ m) ↔ Flat n l ∧ Flat n m :=
  ⟨fun h => ⟨fun x hx => h x (List.mem_append_left _ hx), fun x hx => h x (List.mem_append_right _ hx)⟩, fun h x hx => (List.mem_append.1 hx).elim (h.1 x) (h.2 x)⟩
/-- A made row, filled one further. -/
theorem fill_set {l : List A} {z x : A} {n i : Nat} (hl : l.length = i) (hi : i < n) : (l ++ List.replicate (n - i) z).set i x = (l ++ [x]) ++ List.replicate (n - (i + 1)) z := by
  subst hl
  rw [List.set_append_right _ _ (Nat.le_refl _), Nat.sub_self]
  rw [show n - l.length = (n - (l.length + 1)) + 1 by omega, List.replicate_succ, List.set_cons_zero, List.append_assoc]; rfl
theorem take_more {α : Type} {l : List α} {i : Nat} {x : α} (h : l[i]? = some x) : l.take (i + 1) = l.take i ++ [x] := by
  rw [List.take_add_one, h]; rfl
theorem le_nil {n m : Nat} : A.le n m .nil .nil ↔ True := by simp [A.le]
theorem le_nild {n m : Nat} {l : List D} : A.le n m .nil (.d (.lst l)) ↔ l = [] := by simp [A.le]
theorem le_arr {n m k k' : Nat} : A.le n m (.arr k) (.arr k') ↔ k = k' ∧ k < n := by simp [A.le]
theorem le_ref {n m k k' o o' : Nat} : A.le n m (.ref k o) (.ref k' o') ↔ k = k' ∧ o = o' ∧ k < n := by simp [A.le]
theorem le_mp {n m k k' : Nat} : A.le n m (.mp k) (.mp k') ↔ k = k' ∧ k < n := by simp [A.le]
theorem le_own {n m k k' : Nat} {l l' : List D} : A.le n m (.own k l) (.own k' l') ↔ k = k' ∧ k < n ∧ l = l' := by simp [A.le]
theorem le_ownd {n m k : Nat} {l l' : List D} : A.le n m (.own k l) (.d (.lst l')) ↔ l' = l := by simp [A.le]
theorem le_nilo {n m k : Nat} {l : List D} : A.le n m .nil (.own k l) ↔ n ≤ k ∧ k < m ∧ l = [] := by simp [A.le]
theorem le_agg {n m : Nat} {l l' : List A} : A.le n m (.agg l) (.agg l') ↔ A.lel n m l l' := by simp [A.le]
theorem le_fn {n m f f' : Nat} {l l' : List A} : A.le n m (.fn f l) (.fn f' l') ↔ f = f' ∧ A.lel n m l l' := by simp [A.le]
theorem ole_map {n m : Nat} {k v k' v' : TypeId} {l l' : List (Value × D)} : O.le n m (.map k v l) (.map k' v' l') ↔ k = k' ∧ v = v' ∧ l = l' := by simp [O.le]
theorem ole_row {n m : Nat} {t sz : Nat} {l l' : List A} (h : l = l') (hx : ∀ x ∈ l, A.le n m x x) : O.le n m (.row t sz l) (.row t sz l') := by
  simp only [O.le]; exact ⟨trivial, trivial, .inr ⟨h, hx⟩⟩
theorem ole_rowd {n m : Nat} {t sz : Nat} {l : List D} {l' : List A} (h : l.map A.d = l') : O.le n m (.row t sz (l.map A.d)) (.row t sz l') := by
  simp only [O.le]; exact ⟨trivial, trivial, .inl ⟨l, toEs_map l, h.symm⟩⟩
/-- The end of a function that hands back a row that it made. -/
theorem end_pub {T : Ty} {K : St → Prop} {X : Type} {φ : X → Prop} {ret : X → A} {i k u sz : Nat} {l : List A} {q : List D} {t : List A} {h : List O} (hK : ∀ s, vcEnd T [.tmp i] φ ret (fun _ => []) s → K s) (x : X) (hx : φ x)
    (hi : t.getD i .any = .arr k) (hh : h[k]? = some (.row u sz l)) (hl : toEs? l = some q) (hret : ret x = .d (.lst q)) : K ⟨t, h, 0⟩ := by
  refine hK _ ?_
  simp only [vcEnd, vcRes, hi, tupA]
  refine .pubs (ks := [k]) (s' := St.pub ⟨[.arr k], h, 0⟩ k q) (by simp only [pubs?, pub?, hh, hl]) (Turns.le (s' := ⟨[ret x], [], 0⟩) 0 ⟨Nat.zero_le _, Nat.le_refl _, rfl, ?_, by simp [O.lel]⟩ ⟨x, hx, rfl⟩)
  simp only [St.pub, A.pubs, A.pub, if_true, hret]
  exact ⟨by simp only [A.le], trivial⟩
theorem partD_mono {i : FI} {l : List D} {K K' : A → Prop} (hk : ∀ a, K a → K' a) (h : partD i l K) : partD i l K' := by
  unfold partD at *
  split
  · rename_i e; rw [e] at h; exact ⟨h.1, hk _ h.2⟩
  · rename_i e; rw [e] at h; obtain ⟨x, h1, h2⟩ := h; exact ⟨x, h1, hk _ h2⟩
theorem vcLoad_mono {T : Ty} {t : Nat} {a : A} {h : List O} {K K' : A → Prop} (hk : ∀ a, K a → K' a) (hl : vcLoad T t a h K) : vcLoad T t a h K' := by
  unfold vcLoad at *
  split at hl
  · exact hl.elim
  · split at hl
    · exact partD_mono hk hl
    · split at hl
      · exact partA_mono hk hl
      · exact hl.elim
    · split at hl
      · obtain ⟨h1, h2, h3, h4⟩ := hl
        exact ⟨h1, h2, h3, fun x hx => partA_mono hk (h4 x hx)⟩
      · obtain ⟨h1, h2, h3, h4⟩ := hl
        exact ⟨h1, h2, h3, fun x hx => partA_mono hk (h4 x hx)⟩
      · exact hl.elim
    · exact hl.elim
theorem vcRes_mono {T : Ty} {s : St} : ∀ {rs : List ResultVar} {K K' : List A → Prop}, (∀ l, K l → K' l) → vcRes T s rs K → vcRes T s rs K'
  | [], _, _, hk, h => hk _ h
  | .tmp _ :: rs, _, _, hk, h => vcRes_mono (rs := rs) (fun l hl => hk _ hl) h
  | .cell _ _ :: rs, _, _, hk, h => vcLoad_mono (fun a ha => vcRes_mono (rs := rs) (fun l hl => hk _ hl) ha) h
/-- The end of a function. -/
theorem end_gen {T : Ty} {K : St → Prop} {rs : List ResultVar} {X : Type} {φ : X → Prop} {ret : X → A} {post : X → List O} {t : List A} {h : List O} {p : Nat} (hK : ∀ s, vcEnd T rs φ ret post s → K s) (x : X) (n : Nat) (hx : φ x)
    (hv : vcRes T ⟨t, h, p⟩ rs fun l => (St.mk [tupA l] h p).Le n ⟨[ret x], post x, p⟩) : K ⟨t, h, p⟩ := by
  refine hK _ (vcRes_mono (fun l hl => ?_) hv)
  exact Turns.le n hl ⟨x, hx, rfl⟩
theorem le_tup {n m : Nat} {l l' : List A} : A.le n m (.tup l) (.tup l') ↔ A.lel n m l l' := by simp [A.le]
theorem under_d {p : Nat} {x : D} : A.under p (.d x) ↔ True := by simp [A.under]
theorem under_ref {p k o : Nat} : A.under p (.ref k o) ↔ k < p := by simp [A.under]
theorem under_fn {p f : Nat} {l : List A} : A.under p (.fn f l) ↔ A.unders p l := by simp [A.under]
theorem under_own {p k : Nat} {l : List D} : A.under p (.own k l) ↔ k < p := by simp [A.under]
theorem under_arr {p k : Nat} : A.under p (.arr k) ↔ k < p := by simp [A.under]
theorem under_mp {p k : Nat} : A.under p (.mp k) ↔ k < p := by simp [A.under]
theorem under_nil {p : Nat} : A.under p .nil ↔ True := by simp [A.under]
theorem under_agg {p : Nat} {l : List A} : A.under p (.agg l) ↔ A.unders p l := by simp [A.under]
theorem unders_cons {p : Nat} {a : A} {l : List A} : A.unders p (a :: l) ↔ A.under p a ∧ A.unders p l := by simp [A.unders]
theorem unders_nil {p : Nat} : A.unders p [] ↔ True := by simp [A.unders]
theorem ounder_box {p : Nat} {t : TypeId} {l : List A} : O.under p (.box t l) ↔ A.unders p l := by simp [O.under]
theorem ounder_app {p : Nat} {t : TypeId} {sz : Nat} {d : Bool} : O.under p (.app t sz d) ↔ True := by simp [O.under]
theorem ounder_map {p : Nat} {k v : TypeId} {l : List (Value × D)} : O.under p (.map k v l) ↔ True := by simp [O.under]
theorem ounders_cons {p : Nat} {o : O} {l : List O} : O.unders p (o :: l) ↔ O.under p o ∧ O.unders p l := by simp [O.unders]
theorem ounders_nil {p : Nat} : O.unders p [] ↔ True := by simp [O.unders]
attribute [go_sem] le_tup under_d under_ref under_fn under_own under_arr under_mp under_nil under_agg unders_cons unders_nil ounder_box ounder_app ounder_map ounders_cons ounders_nil
attribute [go_sem] St.back unfixed O.fixed demsL demLL O.demL O.dem A.dems A.dem putL O.rens O.ren A.rens A.ren rho pick vcRes tupA Option.getD_some
/-- A call that is handed objects. -/
theorem call_objs {P : Program} {f d : Nat} (ids : List Nat) {args args' : List A} {t : List A} {h h' : List O} {p : Nat} {K : St → Prop} {X : Type} {φ : X → Prop} {ret : X → A} {post : X → List O} (ct : Ct P f args' h' φ ret post)
    (hs : ids.Nodup ∧ ids.length = h'.length ∧ (∀ k ∈ ids, k < h.length) ∧ A.unders h'.length args' ∧ O.unders h'.length h' ∧ A.lel h.length h.length args (A.rens (rho ids h.length) args') ∧
      O.lel h.length h.length (pick h ids) (O.rens (rho ids h.length) h'))
    (hK : ∀ x, φ x → K ((St.back ⟨t, h, p⟩ ids h' (post x)).put (some d) ((ret x).ren (rho ids h.length)))) : callVC P f args ⟨t, h, p⟩ (some d) K :=
  use_ct ct ids hs.1 hs.2.1 hs.2.2.1 hs.2.2.2.1 hs.2.2.2.2.1 hs.2.2.2.2.2.1 hs.2.2.2.2.2.2 hK
/-- A call from a state of which less is said. -/
theorem callVC_le {P : Program} {f d : Nat} {args args' : List A} {t t' : List A} {h h' : List O} {p : Nat} {K : St → Prop} (n : Nat) (hl : (St.mk (args ++ t) h p).Le n ⟨args' ++ t', h', p⟩) (hlen : args.length = args'.length)
    (hc : callVC P f args' ⟨t', h', p⟩ (some d) K) : callVC P f args ⟨t, h, p⟩ (some d) K := by
  refine ⟨hc.1, fun c a w I G hr vs hvs => ?_⟩
  have h1 : RelX c ⟨args ++ t, h, p⟩ ⟨(vs ++ a.tmps.toList).toArray, a.defers⟩ w I G := ⟨hr.defers, by simpa using hvs.append hr.tmps, hr.objs, hr.fr, hr.pr⟩
  obtain ⟨G', h2⟩ := h1.le hl
  have h3 : VAs w I G' (vs ++ a.tmps.toList) (args' ++ t') := by simpa using h2.tmps
  have hvl : vs.length = args'.length := by rw [hvs.len, hlen]
  have e1 : VAs w I G' vs args' := by
    have := h3.take vs.length
    rwa [List.take_left, hvl, List.take_left] at this
  have e2 : VAs w I G' a.tmps.toList t' := by
    have := h3.drop vs.length
    rwa [List.drop_left, hvl, List.drop_left] at this
  exact hc.2 c a w I G' ⟨h2.defers, e2, h2.objs, h2.fr, h2.pr⟩ vs e1
attribute [go_sem ↓] get_all
attribute [go_sem] flat_str flat_int flat_lst flat_nil flat_app le_nil le_nild le_arr le_ref le_mp le_own le_ownd le_nilo le_agg le_fn ole_map List.length_map Int.toNat_natCast Int.cast_ofNat_Int
  Int.natCast_zero BEq.rfl beq_self_eq_true List.length_replicate
attribute [go_sem] mkE_t mkE_f olel_mt olel_cons ole_box ole_app St.Le D.v.injEq D.lst.injEq D.agg.injEq Value.int.injEq Value.bool.injEq Value.string.injEq Nat.le_refl Nat.zero_le
  List.append_nil List.length_append
attribute [go_sem] vcK_mk opsK_mk blkK_mk vc_skip vc_region vc_draw vc_seq vc_block vc_exit vc_ret vc_loop vc_cond vcOps_nil vcOps_go vcOps_if putN putS opd opds kon_int kon_bool kon_str kon_nil
  kon_map List.replicate fr List.foldl_cons List.foldl_nil List.cons_append List.nil_append List.set_cons_zero List.set_cons_succ List.getD_cons_zero List.getD_cons_succ
  List.map_cons List.map_nil List.getElem?_cons_zero List.getElem?_cons_succ List.getElem?_nil Option.bind_some Option.bind_none Option.map_some Option.map_none vcBin vcUn vcBuiltin
  vcFieldAddr vcField fieldOf vcLoad vcStore vcIndexAddr vcIndex vcSlice vcBuild vcMakeSlice vcBuildSlice vcAppend vcGrow lenOk len_str len_lst len_own len_nil
  len_sl len_arr len_mp row_lst row_own row_nil row_sl cells_v cells_agg cells_dagg cells_dlst cells_own cells_nil cells_arr cq_v cq_agg cq_dagg cq_dlst cq_own cq_nil cq_arr cq_ref
  cq_mp cq_sl cq_fn Dcells_v Dcells_agg Dcells_lst TI.ag FI.ag splice List.take List.drop List.take_succ_cons List.drop_succ_cons List.take_zero List.drop_zero Nat.zero_add
  Nat.add_zero Nat.reduceAdd Nat.reduceSub Nat.reduceLT Nat.reduceLeDiff Nat.reduceEqDiff Nat.reduceMul Nat.add_one_sub_one List.length_cons List.length_nil true_and and_true
  ite_true_of not_false_eq not_true_eq false_eq dec_true dec_false ndec_true ndec_false exists_eq_left' Option.some.injEq ne_eq reduceCtorEq not_false_eq_true ite_true ite_false
  if_true if_false pack unDs cutLo cutHi Int.toNat_natCast le_d lel_cons lel_nil le_any olel_nil
attribute [go_sem] putK_d putK_agg putK_tup putK_nil putK_sl putK_rptr putK_ref putK_own putK_arr putK_eptr putK_fn putK_mp putK_any stK_none stK_some put2_mk dK_some dK_none aK_some aK_none partD_t partD_f partA_t partA_f condK_b gd1_some gd2_b op_move op_assign pickK_b op_pick boxK_some op_box allocK_some op_alloc op_load op_store nilK_rptr nilK_ref nilK_eptr nilK_fn op_nil op_bin binT_int binT_str bool2_eql bool2_neq binT_bool op_un op_fa op_f op_ia op_i op_sl op_build op_bs op_ms op_mf op_mf tupK_tup op_ex lenK_some op_len op_append minK_int maxK_int op_call call_fn bparts bvals
attribute [go_sem high] gd2_yes gd2_ft gd2_tf condK_t condK_f pickK_t pickK_f
end Go.Ab
