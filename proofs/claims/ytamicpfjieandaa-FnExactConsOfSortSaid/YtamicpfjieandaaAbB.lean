/- The condition of a piece of code: what is to be shown of data, so that the code does what is asked. -/
import Derived.Test.YtamicpfjieandaaAbA
namespace Go.Ab
open Go

/-- A result of arithmetic, brought back into its kind. -/
@[irreducible] def wr (k : IntKind) (n : Int) : Int := k.wrap n

/-! ### Types -/
structure FI where
  off : Nat
  sz : Nat
  ag : Bool
inductive TK where
  | one
  | boo
  | str
  | slc (e : Nat)
  | st (fs : List FI)
  | mp (k e : Nat)
structure TI where
  k : TK
  sz : Nat
  bytes : Nat
  zero : List A
abbrev Ty := Nat → Option TI
def TI.ag (i : TI) : Bool := match i.k with | .st _ => true | _ => false
def ZOk (x : Value) : A → Prop
  | .nil => x = .slice none 0 0
  | .d (.v y) => x = y ∧ sc y = true
  | _ => False
def ZsOk : List Value → List A → Prop
  | [], [] => True
  | x :: xs, a :: l => ZOk x a ∧ ZsOk xs l
  | _, _ => False
def FsOk (P : Program) : List Field → List FI → Prop
  | [], [] => True
  | f :: fs, i :: is => (f.offset = i.off ∧ P.cellsOf f.type = i.sz ∧ i.sz ≠ 0 ∧
      (i.ag = true → (∃ q, P.underlying f.type = some (.struct q))) ∧
      (i.ag = false → i.sz = 1 ∧ ∃ d, P.underlying f.type = some d ∧ (∀ q, d ≠ .struct q) ∧ (∀ n e, d ≠ .array n e)) ∧ ∃ z, P.info? f.type = some z) ∧ FsOk P fs is
  | _, _ => False
def KOk (P : Program) (t : Nat) (sz : Nat) : TK → Prop
  | .one => sz = 1 ∧ ∃ d, P.underlying t = some d ∧ (∀ q, d ≠ .struct q) ∧ (∀ n e, d ≠ .array n e)
  | .boo => sz = 1 ∧ P.underlying t = some .bool
  | .str => sz = 1 ∧ P.underlying t = some .string
  | .slc e => sz = 1 ∧ P.underlying t = some (.slice e)
  | .st fs => ∃ q, P.underlying t = some (.struct q) ∧ FsOk P q.toList fs
  | .mp k e => sz = 1 ∧ P.underlying t = some (.map k e)
def TIOk (P : Program) (t : Nat) (i : TI) : Prop :=
  ∃ f z, P.info? t = some f ∧ f.size = i.sz ∧ f.bytes = i.bytes ∧ f.zero = some z ∧ ZsOk z.cells.toList i.zero ∧ z.cells.size = i.sz ∧ i.sz ≠ 0 ∧
    (i.ag = false → ∃ x, z.cells = #[x] ∧ x = z) ∧ (i.ag = true → ∃ cs, z = .agg cs) ∧ KOk P t i.sz i.k
def TOk (P : Program) (T : Ty) : Prop := ∀ t i, T t = some i → TIOk P t i

/-! ### States -/
structure St where
  t : List A
  h : List O
  p : Nat
def kon1 : Value → A
  | .slice none 0 0 => .nil
  | .slice _ _ _ => .any
  | .agg _ => .any
  | .tuple _ => .any
  | v => .d (.v v)
def kons : List Value → List A
  | [] => []
  | v :: l => kon1 v :: kons l
def kon : Value → A
  | .agg cs => match cs.toList.all Value.oneCell' with | true => .agg (kons cs.toList) | false => .any
  | v => kon1 v
def opd (t : List A) : Operand → A
  | .tmp i => t.getD i .any
  | .const v => kon v
  | .func f => .fn f []
  | .global _ => .any
def opds (t : List A) : List Operand → List A
  | [] => []
  | x :: l => opd t x :: opds t l
def St.put (s : St) : Option Nat → A → St
  | none, _ => s
  | some d, a => ⟨s.t.set d a, s.h, s.p⟩
def unDs : List A → Option (List D)
  | [] => some []
  | .d x :: l => match unDs l with | some r => some (x :: r) | none => none
  | _ :: _ => none
def pack (l : List A) : A := match unDs l with | some r => .d (.agg r) | none => .agg l
/-- As data, where nothing more than reading is wanted. -/
def A.toD? : A → Option D
  | .d x => some x
  | .own _ l => some (.lst l)
  | .nil => some (.lst [])
  | _ => none
def toDs? : List A → Option (List D)
  | [] => some []
  | a :: l => match a.toD?, toDs? l with | some x, some r => some (x :: r) | _, _ => none
/-- An element (its cells as data). -/
def A.toE? : A → Option D
  | .agg l => match toDs? l with | some r => some (.agg r) | none => none
  | a => a.toD?
def toEs? : List A → Option (List D)
  | [] => some []
  | a :: l => match a.toE?, toEs? l with | some x, some r => some (x :: r) | _, _ => none
/-- A row that can be read. -/
def A.row? : A → Option (List D)
  | .d (.lst l) => some l
  | .own _ l => some l
  | .nil => some []
  | .sl _ l => toEs? l
  | _ => none
def Flat (sz : Nat) (l : List D) : Prop := ∀ x ∈ l, x.cells.length = sz

/-! ### Operations -/
def vcBin (op : BinOp) (a b : A) (K : A → Prop) : Prop :=
  match a, b with
  | .d (.v (.int k x)), .d (.v (.int k' y)) => k = k' ∧
    match op with
    | .add => K (.d (.v (.int k (wr k (x + y)))))
    | .sub => K (.d (.v (.int k (wr k (x - y)))))
    | .mul => K (.d (.v (.int k (wr k (x * y)))))
    | .quo => y ≠ 0 ∧ K (.d (.v (.int k (wr k (x.tdiv y)))))
    | .rem => y ≠ 0 ∧ K (.d (.v (.int k (x.tmod y))))
    | .and => K (.d (.v (.int k (k.wrap (BitVec.ofInt k.bits x &&& BitVec.ofInt k.bits y).toNat))))
    | .or => K (.d (.v (.int k (k.wrap (BitVec.ofInt k.bits x ||| BitVec.ofInt k.bits y).toNat))))
    | .xor => K (.d (.v (.int k (k.wrap (BitVec.ofInt k.bits x ^^^ BitVec.ofInt k.bits y).toNat))))
    | .eql => K (.bool (decide (x = y)))
    | .neq => K (.bool (!decide (x = y)))
    | .lss => K (.bool (decide (x < y)))
    | .leq => K (.bool (decide (x ≤ y)))
    | .gtr => K (.bool (decide (y < x)))
    | .geq => K (.bool (decide (y ≤ x)))
    | _ => False
  | .d (.v (.string x)), .d (.v (.string y)) =>
    match op with
    | .add => x.size + y.size ≤ 4611686018427387904 ∧ K (.str (x ++ y))
    | .eql => K (.bool (decide (x = y)))
    | .neq => K (.bool (!decide (x = y)))
    | _ => False
  | _, _ => False
def vcBinT (T : Ty) (op : BinOp) (t : Nat) (a b : A) (K : A → Prop) : Prop :=
  match a, b with
  | .d (.v (.bool x)), .d (.v (.bool y)) => match T t with
    | some ⟨.boo, _, _, _⟩ => match op with
      | .eql => K (.bool (x == y))
      | .neq => K (.bool (!(x == y)))
      | _ => False
    | _ => False
  | a, b => vcBin op a b K
def vcUn (op : UnOp) (a : A) (K : A → Prop) : Prop :=
  match op, a with
  | .not, .d (.v (.bool b)) => K (.bool !b)
  | .neg, .d (.v (.int k x)) => K (.d (.v (.int k (wr k (0 - x)))))
  | _, _ => False
def fieldOf (T : Ty) (t f : Nat) : Option FI := match T t with | some ⟨.st fs, _, _, _⟩ => fs[f]? | _ => none
def partD (i : FI) (l : List D) (K : A → Prop) : Prop :=
  match i.ag with
  | true => i.off + i.sz ≤ l.length ∧ K (.d (.agg ((l.drop i.off).take i.sz)))
  | false => ∃ x, l[i.off]? = some x ∧ K (.d x)
def partA (i : FI) (l : List A) (K : A → Prop) : Prop :=
  match i.ag with
  | true => i.off + i.sz ≤ l.length ∧ K (pack ((l.drop i.off).take i.sz))
  | false => ∃ x, l[i.off]? = some x ∧ K x
def vcField (T : Ty) (t : Nat) (a : A) (f : Nat) (K : A → Prop) : Prop :=
  match fieldOf T t f, a with
  | some i, .d (.agg l) => partD i l K
  | some i, .agg l => partA i l K
  | _, _ => False
def vcFieldAddr (T : Ty) (t : Nat) (a : A) (f : Nat) (K : A → Prop) : Prop :=
  match fieldOf T t f, a with
  | some i, .rptr l => i.off ≤ l.length ∧ K (.rptr (l.drop i.off))
  | some i, .ref k o => K (.ref k (o + i.off))
  | some i, .eptr k sz j o => K (.eptr k sz j (o + i.off))
  | _, _ => False
def vcLoad (T : Ty) (t : Nat) (a : A) (h : List O) (K : A → Prop) : Prop :=
  match T t with
  | none => False
  | some i =>
    match a with
    | .rptr l => partD ⟨0, i.sz, i.ag⟩ l K
    | .ref k o => match h[k]? with
      | some (.box _ l) => partA ⟨o, i.sz, i.ag⟩ l K
      | _ => False
    | .eptr k sz j o => match h[k]? with
      | some (.row _ sz' l) => sz = sz' ∧ j < l.length ∧ o + i.sz ≤ sz ∧ ∀ x, l[j]? = some x → partA ⟨o, i.sz, i.ag⟩ x.cells K
      | some (.opn _ _ sz' l) => sz = sz' ∧ j < l.length ∧ o + i.sz ≤ sz ∧ ∀ x, l[j]? = some x → partA ⟨o, i.sz, i.ag⟩ x.cells K
      | _ => False
    | _ => False
/-- An element out of its cells. -/
def mkE : Bool → List A → A
  | false, [x] => x
  | _, l => pack l
/-- The cells of a value to be stored. -/
def A.cells? : A → Option (List A)
  | .any => none
  | .tup _ => none
  | .agg l => some l
  | .d (.agg l) => some (l.map A.d)
  | a => some [a]
def splice (l : List A) (o : Nat) (c : List A) : List A := l.take o ++ c ++ l.drop (o + c.length)
def vcStore (T : Ty) (t : Nat) (a x : A) (h : List O) (K : List O → Prop) : Prop :=
  match T t, x.cells? with
  | some i, some c =>
    c.length = i.sz ∧
    match a with
    | .ref k o => match h[k]? with
      | some (.box u l) => o + c.length ≤ l.length ∧ K (h.set k (.box u (splice l o c)))
      | _ => False
    | .eptr k sz j o => match h[k]? with
      | some (.row u sz' l) => match T u with
        | some iu => sz = sz' ∧ sz = iu.sz ∧ j < l.length ∧ match o, c.length == sz with
          | 0, true => K (h.set k (.row u sz (l.set j (mkE iu.ag c))))
          | _, _ => o + c.length ≤ sz ∧ ∀ y, l[j]? = some y → y.cells.length = sz → K (h.set k (.row u sz (l.set j (mkE iu.ag (splice y.cells o c)))))
        | none => False
      | some (.opn r u sz' l) => match T u with
        | some iu => sz = sz' ∧ sz = iu.sz ∧ j < l.length ∧ o + c.length ≤ sz ∧ ∀ y, l[j]? = some y → y.cells.length = sz → K (h.set k (.opn r u sz (l.set j (mkE iu.ag (splice y.cells o c)))))
        | none => False
      | _ => False
    | _ => False
  | _, _ => False
def vcIndexAddr (T : Ty) (t : Nat) (a i : A) (h : List O) (K : A → Prop) : Prop :=
  match T t, i with
  | some ⟨.slc e, _, _, _⟩, .d (.v (.int _ n)) =>
    match T e, a with
    | some ie, .arr k => match h[k]? with
      | some (.row _ sz l) => sz = ie.sz ∧ (0 ≤ n ∧ n < l.length) ∧ K (.eptr k sz n.toNat 0)
      | some (.opn _ _ sz l) => sz = ie.sz ∧ (0 ≤ n ∧ n < l.length) ∧ K (.eptr k sz n.toNat 0)
      | _ => False
    | some ie, a => match a.row? with
      | some l => (0 ≤ n ∧ n < l.length) ∧ Flat ie.sz l ∧ ∀ x, l[n.toNat]? = some x → K (.rptr x.cells)
      | none => False
    | none, _ => False
  | _, _ => False
def vcIndex (T : Ty) (t : Nat) (a i : A) (K : A → Prop) : Prop :=
  match T t, a, i with
  | some ⟨.str, _, _, _⟩, .d (.v (.string s)), .d (.v (.int _ n)) => (0 ≤ n ∧ n < s.size) ∧ ∀ b, s.data[n.toNat]? = some b → K (.d (.v (.int .u8 b.toNat)))
  | _, _, _ => False
/-- The bounds of a cut: low, high, given or not. -/
def cutLo (lo : Option A) (K : Int → Prop) : Prop := match lo with | none => K 0 | some (.d (.v (.int _ n))) => K n | _ => False
def cutHi (hi : Option A) (len : Nat) (K : Int → Prop) : Prop := match hi with | none => K len | some (.d (.v (.int _ n))) => K n | _ => False
def vcSlice (T : Ty) (t : Nat) (a : A) (lo hi : Option A) (K : A → Prop) : Prop :=
  match T t with
  | some ⟨.str, _, _, _⟩ => match a with
    | .d (.v (.string s)) => cutLo lo fun l => cutHi hi s.size fun h => (0 ≤ l ∧ l ≤ h ∧ h ≤ s.size) ∧ K (.str (s.extract l.toNat h.toNat))
    | _ => False
  | some ⟨.slc e, _, _, _⟩ => match T e, a.row? with
    | some ie, some r => cutLo lo fun l => cutHi hi r.length fun h => (0 ≤ l ∧ l ≤ h ∧ h ≤ r.length) ∧ Flat ie.sz r ∧ K (.d (.lst ((r.take h.toNat).drop l.toNat)))
    | _, _ => False
  | _ => False

/-! ### Objects that turn -/
def O.dem (q : Nat) : O → O
  | .box t l => .box t (A.dems q l)
  | .row t sz l => .row t sz (A.dems q l)
  | .opn r t sz l => .opn r t sz (A.dems q l)
  | o => o
def O.demL (q : Nat) : List O → List O
  | [] => []
  | o :: l => o.dem q :: O.demL q l
def St.dem (s : St) (q : Nat) : St := ⟨A.dems q s.t, O.demL q s.h, s.p⟩
def St.kill (s : St) (q : Nat) : St := ⟨A.dems q s.t, (O.demL q s.h).set q .dead, s.p⟩
def St.kills (s : St) : List Nat → St
  | [] => s
  | q :: l => (s.kill q).kills l
def D.plain : D → Bool
  | .v _ => true
  | _ => false
/-- A cell, and the row of the caller's own that goes with it. -/
def A.give? : A → Option (D × List Nat)
  | .d (.v x) => some (.v x, [])
  | .nil => some (.lst [], [])
  | .own m l => some (.lst l, [m])
  | _ => none
def gives? : List A → Option (List D × List Nat)
  | [] => some ([], [])
  | a :: l => match a.give?, gives? l with | some (x, ms), some (r, ns) => some (x :: r, ms ++ ns) | _, _ => none
def dvs? : List D → Bool
  | [] => true
  | a :: l => a.plain && dvs? l
def A.giveE? : A → Option (D × List Nat)
  | .agg l => match gives? l with | some (r, ms) => some (.agg r, ms) | none => none
  | .d (.agg l) => match dvs? l with | true => some (.agg l, []) | false => none
  | a => a.give?
def giveEs? : List A → Option (List D × List Nat)
  | [] => some ([], [])
  | a :: l => match a.giveE?, giveEs? l with | some (x, ms), some (r, ns) => some (x :: r, ms ++ ns) | _, _ => none
def deepApps (h : List O) : List Nat → Prop
  | [] => True
  | m :: l => (∃ t sz, h[m]? = some (.app t sz true)) ∧ m ∉ l ∧ deepApps h l
def Plain (l : List D) : Prop := ∀ x ∈ l, ∀ c ∈ x.cells, c.plain = true
/-- l ++ news, appended to row k. -/
def vcGrow (e : Nat) (ie : TI) (s : St) (k : Nat) (l : List D) (x : A) (K : A → St → Prop) : Prop :=
  match s.h[k]? with
  | some (.app u sz true) => u = e ∧ sz = ie.sz ∧ Flat ie.sz l ∧
    match x with
    | .sl _ lx => match giveEs? lx with
      | some (ds, ms) => (l.length + ds.length) * ie.bytes ≤ 140737488355328 ∧ Flat ie.sz ds ∧ deepApps s.h ms ∧ k ∉ ms ∧ K (.own k (l ++ ds)) ((s.kills ms).dem k)
      | none => False
    | x => match x.row? with
      | some ds => (l.length + ds.length) * ie.bytes ≤ 140737488355328 ∧ Flat ie.sz ds ∧ Plain ds ∧ K (.own k (l ++ ds)) (s.dem k)
      | none => False
  | some (.app u sz false) => u = e ∧ sz = ie.sz ∧ Flat ie.sz l ∧
    match x.row? with
    | some ds => (l.length + ds.length) * ie.bytes ≤ 140737488355328 ∧ Flat ie.sz ds ∧ K (.own k (l ++ ds)) (s.dem k)
    | none => False
  | _ => False
def vcAppend (T : Ty) (t u : Nat) (a x : A) (s : St) (K : A → St → Prop) : Prop :=
  match T t with
  | some ⟨.slc e, _, _, _⟩ => t = u ∧
    match T e with
    | some ie => ie.bytes ≠ 0 ∧
      match a with
      | .nil => vcGrow e ie ⟨s.t, s.h ++ [.app e ie.sz false], s.p⟩ s.h.length [] x K
      | .own k l => vcGrow e ie s k l x K
      | .sl k l => match toEs? l with
        | some ds => vcGrow e ie s k ds x K
        | none => False
      | _ => False
    | none => False
  | _ => False
def vcBuildSlice (T : Ty) (t n : Nat) (idx : List Nat) (l : List A) (s : St) (K : A → St → Prop) : Prop :=
  match T t with
  | some ⟨.slc e, _, _, _⟩ => match T e with
    | some ie => idx = List.range n ∧ n * ie.sz ≤ 16777216 ∧ (∀ a ∈ l, ∃ c, a.cells? = some c ∧ c.length = ie.sz) ∧
      K (.sl s.h.length l) ⟨s.t, s.h ++ [.app e ie.sz (match giveEs? l with | some (_, []) => true | _ => false)], s.p⟩
    | none => False
  | _ => False
def vcMakeSlice (T : Ty) (t : Nat) (a b : A) (s : St) (K : A → St → Prop) : Prop :=
  match T t, a, b with
  | some ⟨.slc e, _, _, _⟩, .d (.v (.int .i64 n)), .d (.v (.int .i64 m)) => n = m ∧ 0 ≤ n ∧
    match T e with
    | some ie => n * ie.bytes ≤ 140737488355328 ∧ ie.bytes ≠ 0 ∧ K (.arr s.h.length) ⟨s.t, s.h ++ [.row e ie.sz (List.replicate n.toNat (mkE ie.ag ie.zero))], s.p⟩
    | none => False
  | _, _, _ => False
/-- A struct out of its parts: the zero's cells, written over. -/
def fillA (T : Ty) (fs : List FI) : List A → List (Nat × A) → Option (List A)
  | c, [] => some c
  | c, (i, a) :: r => match fs[i]?, a.cells? with
    | some f, some x => if x.length = f.sz ∧ f.off + f.sz ≤ c.length then fillA T fs (splice c f.off x) r else none
    | _, _ => none
def vcBuild (T : Ty) (t : Nat) (parts : List (Nat × A)) (K : A → Prop) : Prop :=
  match T t with
  | some ⟨.st fs, _, _, z⟩ => match fillA T fs z parts with
    | some c => K (pack c)
    | none => False
  | _ => False
def A.len? (h : List O) : A → Option Nat
  | .d (.v (.string s)) => some s.size
  | .sl _ l => some l.length
  | .arr k => match h[k]? with | some (.row _ _ l) => some l.length | some (.opn _ _ _ l) => some l.length | _ => none
  | .mp k => match h[k]? with | some (.map _ _ l) => some l.length | _ => none
  | a => match a.row? with | some l => some l.length | none => none
def lenOk (T : Ty) (t : Nat) (a : A) : Prop :=
  match T t, a with
  | some ⟨.str, _, _, _⟩, .d (.v (.string _)) => True
  | some ⟨.mp _ _, _, _, _⟩, .mp _ => True
  | some ⟨.slc _, _, _, _⟩, .d (.v (.string _)) => False
  | some ⟨.slc _, _, _, _⟩, .mp _ => False
  | some ⟨.slc _, _, _, _⟩, _ => True
  | _, _ => False
end Go.Ab
