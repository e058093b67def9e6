/- A frame and a world that hold an abstract state; the condition of code; contracts. -/
import Derived.Test.YtamicpfjieandaaAbB
namespace Go.Ab
open Go

/-- The call that is being made: its world, what may be read for good, what may be changed. -/
structure Cx where
  w : World
  I : Im
  F : Nat → Prop
  R : Nat → Option Value
structure Fr (c : Cx) (w : World) (I : Im) (G : List Gh) : Prop where
  os : w.os = c.w.os
  tape : w.tape = c.w.tape
  output : w.output = c.w.output
  size : c.w.heap.size ≤ w.heap.size
  block : ∀ b, b < c.w.heap.size → ¬ c.F b → w.heap[b]? = c.w.heap[b]?
  cell : ∀ b j, c.I b j → I b j ∧ w.cell? ⟨b, j, none⟩ = c.w.cell? ⟨b, j, none⟩
  im : ∀ b j, I b j → c.I b j ∨ c.F b ∨ c.w.heap.size ≤ b
  own : ∀ (k : Nat) (g : Gh) (b : Nat), G[k]? = some g → g.F b → c.F b ∨ c.w.heap.size ≤ b
structure RelX (c : Cx) (s : St) (a : Act) (w : World) (I : Im) (G : List Gh) : Prop where
  defers : a.defers = []
  tmps : VAs w I G a.tmps.toList s.t
  objs : RelH w I G s.h
  fr : Fr c w I G
  pr : ∀ (k : Nat) (v : Value), c.R k = some v → k < s.p ∧ (∀ a n q, v ≠ .slice a n q) ∧ ∃ g : Gh, G[k]? = some g ∧ g.root = v
def Rel (c : Cx) (s : St) (a : Act) (w : World) : Prop := ∃ I G, RelX c s a w I G

def Has (P : Program) (f : FuncId) : Prop := ∃ fn, P.funcs[f]? = some fn ∧ (fn.name == "runtime.NumGoroutine") = false ∧ fn.body.isNone = false
/-- A call of f with these arguments, from this state. -/
def callVC (P : Program) (f : FuncId) (args : List A) (s : St) (dst : Option Nat) (K : St → Prop) : Prop :=
  Has P f ∧ ∀ c a w I G, RelX c s a w I G → ∀ vs : List Value, VAs w I G vs args →
    Calls P f vs.toArray w fun e w' => ∃ v, e = .returned v ∧ ∃ s', K s' ∧ Rel c s' (a.put dst v) w'
def post (c : Cx) (Kn Kr : St → Prop) (Kx : Nat → St → Prop) : Exit → Act → World → Prop
  | .normal, a, w => ∃ s, Kn s ∧ Rel c s a w
  | .ret, a, w => ∃ s, Kr s ∧ Rel c s a w
  | .exit i, a, w => ∃ s, Kx i s ∧ Rel c s a w
  | _, _, _ => False
def loopVC (P : Program) (body : Code) (Kn Kr : St → Prop) (Kx : Nat → St → Prop) (s : St) : Prop :=
  ∀ c a w, Rel c s a w → (Code.loop body).wp P (post c Kn Kr Kx) a w
def drawVC (P : Program) (id : Nat) (ops : Array Oper) (K : St → Prop) (s : St) : Prop :=
  ∀ c a w, Rel c s a w → (Code.region id ops true).wp P (post c K (fun _ => False) (fun _ _ => False)) a w

def vcCall (P : Program) (f : A) (args : List A) (s : St) (dst : Option Nat) (K : St → Prop) : Prop :=
  match f with
  | .fn g caps => callVC P g (args ++ caps) s dst K
  | _ => False
def vcBuiltin (T : Ty) (b : Builtin) (ts : List Nat) (args : List A) (s : St) (dst : Option Nat) (K : St → Prop) : Prop :=
  match b, ts, args with
  | .len, [t], [a] => lenOk T t a ∧ match a.len? s.h with | some n => K (s.put dst (.int n)) | none => False
  | .append, [t, u], [a, x] => vcAppend T t u a x s fun r s' => K (s'.put dst r)
  | .min, _, [.d (.v (.int .i64 a)), .d (.v (.int .i64 b))] => K (s.put dst (.int (if b < a then b else a)))
  | .max, _, [.d (.v (.int .i64 a)), .d (.v (.int .i64 b))] => K (s.put dst (.int (if a < b then b else a)))
  | _, _, _ => False
/-- An operation, told by what it does. -/
def semVC (P : Program) (o : Op) (dst : Option Nat) (s : St) (K : St → Prop) : Prop :=
  ∀ (ty : TypeId) (pos : String) (after : Array Edge) (guard : Option (Nat × Bool)) (c : Cx) (a : Act) (w : World), Rel c s a w →
    ∀ (N : Act → World → Prop) (Q : Exit → Act → World → Prop), (∀ s' a' w', K s' → Rel c s' a' w' → N a' w') → (Oper.mk dst o ty pos after guard).wp P a w N Q
/-- Is it told by its own rule, not by what it does? -/
def semFree (t : List A) : Op → Bool
  | .slice _ x _ _ none => match opd t x with | .arr _ => false | _ => true
  | .move _ => true
  | .assign _ => true
  | .pick _ _ _ => true
  | .load _ _ => true
  | .nilCheck _ => true
  | .binOp _ _ _ _ _ => true
  | .unOp _ _ _ => true
  | .fieldAddr _ _ _ => true
  | .field _ _ _ => true
  | .indexAddr _ _ _ => true
  | .index _ _ _ => true
  | .build _ _ => true
  | .makeFunc (.func _) ⟨[]⟩ _ => true
  | .extract _ _ => true
  | .call ⟨.builtin .len, _, _⟩ => true
  | _ => false
/-- One operation. -/
def vcOp (P : Program) (T : Ty) (o : Op) (dst : Option Nat) (s : St) (K : St → Prop) : Prop :=
  match o with
  | .move x => K (s.put dst (opd s.t x))
  | .assign x => K (s.put dst (opd s.t x))
  | .pick c a b => match opd s.t c with
    | .d (.v (.bool t)) => (t = true → K (s.put dst (opd s.t a))) ∧ (t = false → K (s.put dst (opd s.t b)))
    | _ => False
  | .box t x => match (opd s.t x).cells? with
    | some l => K ((St.mk s.t (s.h ++ [.box t l]) s.p).put dst (.ref s.h.length 0))
    | none => False
  | .alloc t => match T t with
    | some i => K ((St.mk s.t (s.h ++ [.box t i.zero]) s.p).put dst (.ref s.h.length 0))
    | none => False
  | .load t x => vcLoad T t (opd s.t x) s.h fun r => K (s.put dst r)
  | .store t a x => vcStore T t (opd s.t a) (opd s.t x) s.h fun h => K ((St.mk s.t h s.p).put dst .any)
  | .nilCheck x => match opd s.t x with
    | .rptr l => K (s.put dst (.rptr l))
    | .ref k o => K (s.put dst (.ref k o))
    | .eptr k sz j o => K (s.put dst (.eptr k sz j o))
    | .fn f l => K (s.put dst (.fn f l))
    | _ => False
  | .binOp b t x y _ => vcBinT T b t (opd s.t x) (opd s.t y) fun r => K (s.put dst r)
  | .unOp u _ x => vcUn u (opd s.t x) fun r => K (s.put dst r)
  | .fieldAddr t x f => vcFieldAddr T t (opd s.t x) f fun r => K (s.put dst r)
  | .field t x f => vcField T t (opd s.t x) f fun r => K (s.put dst r)
  | .indexAddr t x i => vcIndexAddr T t (opd s.t x) (opd s.t i) s.h fun r => K (s.put dst r)
  | .index t x i => vcIndex T t (opd s.t x) (opd s.t i) fun r => K (s.put dst r)
  | .slice t x lo hi none => match opd s.t x with
    | .arr _ => semVC P (.slice t x lo hi none) dst s K
    | y => vcSlice T t y (lo.map (opd s.t)) (hi.map (opd s.t)) fun r => K (s.put dst r)
  | .build t parts => vcBuild T t (parts.toList.map fun p => (p.1, opd s.t p.2)) fun r => K (s.put dst r)
  | .buildSlice t n parts => vcBuildSlice T t n (parts.toList.map (·.1)) (parts.toList.map fun p => opd s.t p.2) s fun r s' => K (s'.put dst r)
  | .makeSlice t a b => vcMakeSlice T t (opd s.t a) (opd s.t b) s fun r s' => K (s'.put dst r)
  | .makeFunc (.func f) ⟨[]⟩ caps => K (s.put dst (.fn f (opds s.t caps.toList)))
  | .extract x i => match opd s.t x with
    | .tup l => ∃ y, l[i]? = some y ∧ K (s.put dst y)
    | _ => False
  | .call ⟨.builtin .copy, args, ts⟩ => semVC P (.call ⟨.builtin .copy, args, ts⟩) dst s K
  | .call ⟨.builtin .clear, args, ts⟩ => semVC P (.call ⟨.builtin .clear, args, ts⟩) dst s K
  | .call ⟨.builtin .cap, args, ts⟩ => semVC P (.call ⟨.builtin .cap, args, ts⟩) dst s K
  | .call ⟨.builtin .append, args, ts⟩ => match opds s.t args.toList with
    | [_, .d (.v (.string _))] => semVC P (.call ⟨.builtin .append, args, ts⟩) dst s K
    | l => vcBuiltin T .append ts.toList l s dst K
  | .call ⟨.builtin b, args, ts⟩ => vcBuiltin T b ts.toList (opds s.t args.toList) s dst K
  | .call ⟨.value f, args, _⟩ => vcCall P (opd s.t f) (opds s.t args.toList) s dst K
  | o => semVC P o dst s K
def vcGuard (ops : List Oper) (g : Option (Nat × Bool)) (s : St) (yes no : St → Prop) : Prop :=
  match g with
  | none => yes s
  | some (j, want) => match (ops[j]?).bind (·.dst) with
    | none => False
    | some d => match s.t.getD d .any with
      | .d (.v (.bool b)) => (b = want → yes ⟨s.t.set d (.bool want), s.h, s.p⟩) ∧ (b = !want → no ⟨s.t.set d (.bool !want), s.h, s.p⟩)
      | .tup [] => no s
      | _ => False
def vcOps (P : Program) (T : Ty) (ops : List Oper) : List Oper → St → (St → Prop) → Prop
  | [], s, K => K s
  | o :: r, s, K => vcGuard ops o.guard s (fun s => vcOp P T o.op o.dst s fun s => vcOps P T ops r s K) (fun s => vcOps P T ops r (s.put o.dst (.tup [])) K)
def vc (P : Program) (T : Ty) : Code → (Kn Kr : St → Prop) → (Kx : Nat → St → Prop) → St → Prop
  | .skip, Kn, _, _, s => Kn s
  | .region _ ops false, Kn, _, _, s => vcOps P T ops.toList ops.toList s Kn
  | .region id ops true, Kn, _, _, s => drawVC P id ops Kn s
  | .seq a b, Kn, Kr, Kx, s => vc P T a (fun s => vc P T b Kn Kr Kx s) Kr Kx s
  | .cond c a b, Kn, Kr, Kx, s => match opd s.t c with
    | .d (.v (.bool t)) => (t = true → vc P T a Kn Kr Kx s) ∧ (t = false → vc P T b Kn Kr Kx s)
    | _ => False
  | .block id c, Kn, Kr, Kx, s => vc P T c Kn Kr (fun i s => if i = id then Kn s else Kx i s) s
  | .exit id, _, _, Kx, s => Kx id s
  | .ret, _, Kr, _, s => Kr s
  | .loop c, Kn, Kr, Kx, s => loopVC P c Kn Kr Kx s
  | _, _, _, _, _ => False
end Go.Ab
