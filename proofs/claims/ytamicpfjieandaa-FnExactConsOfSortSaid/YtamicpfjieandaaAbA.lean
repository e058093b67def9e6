/- Abstract values, abstract objects, and what it means that a world holds them. No program is named here. -/
import Derived.WalkKit
import Derived.Laws.AppendOwn
import Derived.Laws.Tables
namespace Go.Ab
open Go

/-- Data that never changes while a function runs: one-cell values, structs (their cells), rows. -/
inductive D where
  | v (x : Value)
  | agg (l : List D)
  | lst (l : List D)
abbrev D.int (n : Int) : D := .v (.int .i64 n)
abbrev D.bool (b : Bool) : D := .v (.bool b)
abbrev D.str (s : ByteArray) : D := .v (.string s)
def D.cells : D → List D
  | .agg l => l
  | d => [d]

/-- What a temporary or a cell may hold. -/
inductive A where
  | d (x : D)
  | agg (l : List A)
  | tup (l : List A)
  | nil
  | sl (k : Nat) (l : List A)
  | rptr (l : List D)
  | ref (k off : Nat)
  | own (k : Nat) (l : List D)
  | arr (k : Nat)
  | eptr (k sz i off : Nat)
  | fn (f : Nat) (l : List A)
  | mp (k : Nat)
  | raw (x : Value)
  | any
abbrev A.int (n : Int) : A := .d (.v (.int .i64 n))
abbrev A.bool (b : Bool) : A := .d (.v (.bool b))
abbrev A.str (s : ByteArray) : A := .d (.v (.string s))
abbrev A.unit : A := .tup []
def A.cells : A → List A
  | .agg l => l
  | .d (.agg l) => l.map A.d
  | a => [a]

/-- Objects: variables in memory, rows that are appended to, rows that are written, maps. -/
inductive O where
  | box (t : TypeId) (l : List A)
  | app (t : TypeId) (sz : Nat) (dp : Bool)
  | row (t : TypeId) (sz : Nat) (l : List A)
  | map (kt vt : TypeId) (l : List (Value × D))
  | opn (r : Value) (t : TypeId) (sz : Nat) (l : List A)
  | forest (l : List (Value × D))
  | dead

structure Gh where
  root : Value
  F : Nat → Prop
abbrev Im := Nat → Nat → Prop

/-- One cell, and no row. -/
def sc : Value → Bool
  | .agg _ | .tuple _ | .slice _ _ _ => false
  | _ => true
theorem sc_one {x : Value} (h : sc x = true) : x.oneCell' = true := by cases x <;> first | rfl | (simp [sc] at h)
theorem sc_slice {x : Value} (h : sc x = true) (a : Option Addr) (n c : Nat) : x ≠ .slice a n c := by intro e; subst e; simp [sc] at h
mutual
inductive VD (w : World) (I : Im) : Value → D → Prop
  | v (x : Value) : sc x = true → VD w I x (.v x)
  | agg (cs : List Value) (l : List D) : VDs w I cs l → VD w I (.agg cs.toArray) (.agg l)
  | lnil : VD w I (.slice none 0 0) (.lst [])
  | lemp (a : Addr) (c : Nat) : VD w I (.slice (some a) 0 c) (.lst [])
  | lst (b off n cap : Nat) (l : List D) : n = l.length → n ≤ cap → VDc w I b off (l.flatMap D.cells) → VD w I (.slice (some ⟨b, off, none⟩) n cap) (.lst l)
inductive VDs (w : World) (I : Im) : List Value → List D → Prop
  | nil : VDs w I [] []
  | cons {x c xs l} : x.oneCell' = true → VD w I x c → VDs w I xs l → VDs w I (x :: xs) (c :: l)
inductive VDc (w : World) (I : Im) : Nat → Nat → List D → Prop
  | nil (b off : Nat) : VDc w I b off []
  | cons {b off x c l} : w.cell? ⟨b, off, none⟩ = some x → I b off → x.oneCell' = true → VD w I x c → VDc w I b (off + 1) l → VDc w I b off (c :: l)
end

mutual
inductive VA (w : World) (I : Im) (G : List Gh) : Value → A → Prop
  | d {x c} : VD w I x c → VA w I G x (.d c)
  | agg (cs : List Value) (l : List A) : VAs w I G cs l → (∀ x ∈ cs, x.oneCell' = true) → VA w I G (.agg cs.toArray) (.agg l)
  | tup (cs : List Value) (l : List A) : VAs w I G cs l → VA w I G (.tuple cs.toArray) (.tup l)
  | nil : VA w I G (.slice none 0 0) .nil
  | sl (b n k : Nat) (l : List A) (g : Gh) : G[k]? = some g → g.root = .slice (some ⟨b, 0, none⟩) n n → n = l.length → VAc w I G b 0 (l.flatMap A.cells) → VA w I G (.slice (some ⟨b, 0, none⟩) n n) (.sl k l)
  | rptr (b off : Nat) (l : List D) : VDc w I b off l → VA w I G (.pointer (some ⟨b, off, none⟩)) (.rptr l)
  | ref (b k off : Nat) (g : Gh) : G[k]? = some g → g.root = .pointer (some ⟨b, 0, none⟩) → VA w I G (.pointer (some ⟨b, off, none⟩)) (.ref k off)
  | own {x : Value} (k : Nat) (l : List D) (g : Gh) : G[k]? = some g → g.root = x → VD w I x (.lst l) → VA w I G x (.own k l)
  | arr {x : Value} (k : Nat) (g : Gh) : G[k]? = some g → g.root = x → x.oneCell' = true → VA w I G x (.arr k)
  | eptr (b k sz i off n c : Nat) (g : Gh) : G[k]? = some g → g.root = .slice (some ⟨b, 0, none⟩) n c → VA w I G (.pointer (some ⟨b, i * sz + off, none⟩)) (.eptr k sz i off)
  | fn (f : Nat) (cs : List Value) (l : List A) : VAs w I G cs l → VA w I G (.func (.func f) #[] cs.toArray) (.fn f l)
  | mp (r k : Nat) (g : Gh) : G[k]? = some g → g.root = .map (some r) → VA w I G (.map (some r)) (.mp k)
  | raw (x : Value) : x.oneCell' = true → VA w I G x (.raw x)
  | any (x : Value) : VA w I G x .any
inductive VAs (w : World) (I : Im) (G : List Gh) : List Value → List A → Prop
  | nil : VAs w I G [] []
  | cons {x c xs l} : VA w I G x c → VAs w I G xs l → VAs w I G (x :: xs) (c :: l)
inductive VAc (w : World) (I : Im) (G : List Gh) : Nat → Nat → List A → Prop
  | nil (b off : Nat) : VAc w I G b off []
  | cons {b off x c l} : w.cell? ⟨b, off, none⟩ = some x → I b off → x.oneCell' = true → VA w I G x c → VAc w I G b (off + 1) l → VAc w I G b off (c :: l)
end

/-- A value whose rows all lie in blocks of F, each block met once. -/
inductive Shp (w : World) : (Nat → Prop) → Value → Prop
  | one (F : Nat → Prop) (x : Value) : (∀ a n c, x = .slice (some a) n c → n = 0) → Shp w F x
  | slc (F : Nat → Prop) (Fs : Nat → Nat → Prop) (b n c t : Nat) (cs : Array Value) : F b → w.heap[b]? = some (.cells cs t (0, 0)) →
      (∀ j x, cs[j]? = some x → Shp w (Fs j) x) → (∀ j k, Fs j k → F k ∧ k ≠ b) → (∀ i j k, i ≠ j → Fs i k → ¬ Fs j k) →
      Shp w F (.slice (some ⟨b, 0, none⟩) n c)

/-- The same of a block's cells, the spare ones too. -/
def ShpB (w : World) (F : Nat → Prop) (b : Nat) (cs : Array Value) : Prop := ∃ Fs : Nat → Nat → Prop,
  (∀ (j : Nat) (x : Value), cs[j]? = some x → Shp w (Fs j) x) ∧ (∀ j k, Fs j k → F k ∧ k ≠ b) ∧ (∀ i j k, i ≠ j → Fs i k → ¬ Fs j k)

/-- A value that stands for d, all of whose rows lie in blocks of F, each met once. -/
inductive TreeV (w : World) : (Nat → Prop) → Value → D → Prop
  | v (F : Nat → Prop) (x : Value) : sc x = true → TreeV w F x (.v x)
  | nil (F : Nat → Prop) : TreeV w F (.slice none 0 0) (.lst [])
  | emp (F : Nat → Prop) (a : Addr) (c : Nat) : TreeV w F (.slice (some a) 0 c) (.lst [])
  | lst (F : Nat → Prop) (Fs : Nat → Nat → Prop) (xs : Nat → Value) (b n c t : Nat) (cs : Array Value) (l : List D) : F b → w.heap[b]? = some (.cells cs t (0, 0)) → n = l.length → n ≤ c →
      (∀ j d, (l.flatMap D.cells)[j]? = some d → cs[j]? = some (xs j) ∧ (xs j).oneCell' = true) → (∀ j d, (l.flatMap D.cells)[j]? = some d → TreeV w (Fs j) (xs j) d) →
      (∀ j k, Fs j k → F k ∧ k ≠ b) → (∀ i j k, i ≠ j → Fs i k → ¬ Fs j k) → TreeV w F (.slice (some ⟨b, 0, none⟩) n c) (.lst l)
/-- Trees that share nothing. -/
def Forest (w : World) (F : Nat → Prop) (l : List (Value × D)) : Prop := ∃ Fs : Nat → Nat → Prop,
  (∀ (m : Nat) (v : Value) (d : D), l[m]? = some (v, d) → v.oneCell' = true ∧ TreeV w (Fs m) v d) ∧ (∀ m k, Fs m k → F k) ∧ (∀ i j k, i ≠ j → Fs i k → ¬ Fs j k)

def MapR (w : World) (I : Im) (es : List MapEntry) (l : List (Value × D)) : Prop :=
  es.map (·.key) = l.map (·.1) ∧ VDs w I (es.map (·.val)) (l.map (·.2))

def ObjR (w : World) (I : Im) (G : List Gh) (g : Gh) : O → Prop
  | .box t l => ∃ b cs, g.root = .pointer (some ⟨b, 0, none⟩) ∧ w.heap[b]? = some (.cells cs t (0, 0)) ∧ VAs w I G cs.toList l ∧
      (∀ x ∈ cs.toList, x.oneCell' = true) ∧ (∀ k, g.F k ↔ k = b) ∧ (∀ j, ¬ I b j)
  | .app t sz dp => (g.root = .slice none 0 0 ∧ ∀ k, ¬ g.F k) ∨ (∃ b o n, g.root = .slice (some ⟨b, o, none⟩) n n ∧ (∀ k, ¬ g.F k) ∧ (dp = true → n = 0)) ∨
      ∃ b n cap cs, g.root = .slice (some ⟨b, 0, none⟩) n cap ∧ w.heap[b]? = some (.cells cs t (0, 0)) ∧ n ≤ cap ∧ cap ≤ maxLen ∧ cs.size = cap * sz ∧
        g.F b ∧ (∀ j, n * sz ≤ j → ¬ I b j) ∧ (dp = true → ShpB w g.F b cs)
  | .row t sz l => ∃ b cs, g.root = .slice (some ⟨b, 0, none⟩) l.length l.length ∧ w.heap[b]? = some (.cells cs t (0, 0)) ∧ VAs w I G cs.toList (l.flatMap A.cells) ∧
      (∀ x ∈ cs.toList, x.oneCell' = true) ∧ (∀ x ∈ l, x.cells.length = sz) ∧ (∀ k, g.F k ↔ k = b) ∧ (∀ j, ¬ I b j)
  | .map _ _ l => ∃ r es c, g.root = .map (some r) ∧ w.heap[r]? = some (.map es c) ∧ MapR w I es.toList l ∧ (∀ k, g.F k ↔ k = r)
  | .opn r _ sz l => g.root = r ∧ ∃ b cs t' sp cap, r = .slice (some ⟨b, 0, none⟩) l.length cap ∧ l.length ≤ cap ∧ w.heap[b]? = some (.cells cs t' (0, 0)) ∧ VAs w I G cs.toList (l.flatMap A.cells ++ List.replicate sp .any) ∧
      (∀ (j : Nat) (x : Value), j < l.length * sz → cs[j]? = some x → x.oneCell' = true) ∧ (∀ x ∈ l, x.cells.length = sz) ∧ (∀ k, g.F k ↔ k = b) ∧ (∀ j, ¬ I b j)
  | .forest l => g.root = .slice none 0 0 ∧ Forest w g.F l ∧ ∀ b j, g.F b → ¬ I b j
  | .dead => ∀ k, ¬ g.F k

structure RelH (w : World) (I : Im) (G : List Gh) (h : List O) : Prop where
  len : G.length = h.length
  obj : ∀ (k : Nat) (g : Gh) (o : O), G[k]? = some g → h[k]? = some o → ObjR w I G g o
  disj : ∀ (i j : Nat) (gi gj : Gh) (b : Nat), G[i]? = some gi → G[j]? = some gj → i ≠ j → gi.F b → ¬ gj.F b
  inb : ∀ (k : Nat) (g : Gh) (b : Nat), G[k]? = some g → g.F b → b < w.heap.size
  imm : ∀ b j, I b j → ∃ x, w.cell? ⟨b, j, none⟩ = some x


/-! ### How they are kept -/
section
variable {w w' : World} {I I' : Im}
mutual
theorem VD.mono (hI : ∀ b j, I b j → I' b j) (hc : ∀ b j, I b j → w'.cell? ⟨b, j, none⟩ = w.cell? ⟨b, j, none⟩) : ∀ {x c}, VD w I x c → VD w' I' x c
  | _, _, .v x h => .v x h
  | _, _, .agg cs l h => .agg cs l (VDs.mono hI hc h)
  | _, _, .lnil => .lnil
  | _, _, .lemp a c => .lemp a c
  | _, _, .lst b off n cap l h1 h2 h => .lst b off n cap l h1 h2 (VDc.mono hI hc h)
theorem VDs.mono (hI : ∀ b j, I b j → I' b j) (hc : ∀ b j, I b j → w'.cell? ⟨b, j, none⟩ = w.cell? ⟨b, j, none⟩) : ∀ {x c}, VDs w I x c → VDs w' I' x c
  | _, _, .nil => .nil
  | _, _, .cons h1 h2 h3 => .cons h1 (VD.mono hI hc h2) (VDs.mono hI hc h3)
theorem VDc.mono (hI : ∀ b j, I b j → I' b j) (hc : ∀ b j, I b j → w'.cell? ⟨b, j, none⟩ = w.cell? ⟨b, j, none⟩) : ∀ {b off l}, VDc w I b off l → VDc w' I' b off l
  | _, _, _, .nil b off => .nil b off
  | _, _, _, .cons h1 h2 h3 h4 h5 => .cons ((hc _ _ h2).trans h1) (hI _ _ h2) h3 (VD.mono hI hc h4) (VDc.mono hI hc h5)
end
end

mutual
/-- The objects' numbers, turned. -/
def A.ren (ρ : Nat → Nat) : A → A
  | .agg l => .agg (A.rens ρ l)
  | .tup l => .tup (A.rens ρ l)
  | .sl k l => .sl (ρ k) (A.rens ρ l)
  | .ref k off => .ref (ρ k) off
  | .own k l => .own (ρ k) l
  | .arr k => .arr (ρ k)
  | .eptr k sz i off => .eptr (ρ k) sz i off
  | .fn f l => .fn f (A.rens ρ l)
  | .mp k => .mp (ρ k)
  | .raw x => .raw x
  | .d x => .d x
  | .nil => .nil
  | .rptr l => .rptr l
  | .any => .any
def A.rens (ρ : Nat → Nat) : List A → List A
  | [] => []
  | a :: l => a.ren ρ :: A.rens ρ l
/-- Row k is no more the caller's to append to: what was read of it stays read. -/
def A.dem (k : Nat) : A → A
  | .agg l => .agg (A.dems k l)
  | .tup l => .tup (A.dems k l)
  | .sl j l => if j = k then .any else .sl j (A.dems k l)
  | .ref j off => if j = k then .any else .ref j off
  | .own j l => if j = k then .d (.lst l) else .own j l
  | .arr j => if j = k then .any else .arr j
  | .eptr j sz i off => if j = k then .any else .eptr j sz i off
  | .fn f l => .fn f (A.dems k l)
  | .mp j => if j = k then .any else .mp j
  | .raw x => .raw x
  | .d x => .d x
  | .nil => .nil
  | .rptr l => .rptr l
  | .any => .any
def A.dems (k : Nat) : List A → List A
  | [] => []
  | a :: l => a.dem k :: A.dems k l
end
theorem A.rens_eq (ρ : Nat → Nat) (l : List A) : A.rens ρ l = l.map (A.ren ρ) := by
  induction l with
  | nil => rfl
  | cons a l ih => simp [A.rens, ih]
theorem A.dems_eq (k : Nat) (l : List A) : A.dems k l = l.map (A.dem k) := by
  induction l with
  | nil => rfl
  | cons a l ih => simp [A.dems, ih]
theorem A.cells_ren (ρ : Nat → Nat) (a : A) : (a.ren ρ).cells = a.cells.map (A.ren ρ) := by
  cases a with
  | d x => cases x <;> simp [A.ren, A.cells, Function.comp_def]
  | agg l => simp [A.ren, A.cells, A.rens_eq]
  | _ => simp [A.ren, A.cells]
theorem A.cells_dem (k : Nat) (a : A) : (a.dem k).cells = a.cells.map (A.dem k) := by
  cases a with
  | d x => cases x <;> simp [A.dem, A.cells, Function.comp_def]
  | agg l => simp [A.dem, A.cells, A.dems_eq]
  | ref j off => simp only [A.dem]; split <;> simp_all [A.cells, A.dem]
  | own j l => simp only [A.dem]; split <;> simp_all [A.cells, A.dem]
  | arr j => simp only [A.dem]; split <;> simp_all [A.cells, A.dem]
  | eptr j sz i off => simp only [A.dem]; split <;> simp_all [A.cells, A.dem]
  | mp j => simp only [A.dem]; split <;> simp_all [A.cells, A.dem]
  | sl j l => simp only [A.dem]; split <;> simp_all [A.cells, A.dem]
  | _ => simp [A.dem, A.cells, A.dems_eq]
theorem A.flat_ren (ρ : Nat → Nat) (l : List A) : (l.map (A.ren ρ)).flatMap A.cells = (l.flatMap A.cells).map (A.ren ρ) := by
  induction l with
  | nil => rfl
  | cons a l ih => simp [A.cells_ren, ih]
theorem A.flat_dem (k : Nat) (l : List A) : (l.map (A.dem k)).flatMap A.cells = (l.flatMap A.cells).map (A.dem k) := by
  induction l with
  | nil => rfl
  | cons a l ih => simp [A.cells_dem, ih]

section
variable {w w' : World} {I I' : Im} {G G' : List Gh}
mutual
theorem VA.map (hI : ∀ b j, I b j → I' b j) (hc : ∀ b j, I b j → w'.cell? ⟨b, j, none⟩ = w.cell? ⟨b, j, none⟩) (ρ : Nat → Nat)
    (hG : ∀ (k : Nat) (g : Gh), G[k]? = some g → ∃ g' : Gh, G'[ρ k]? = some g' ∧ g'.root = g.root) : ∀ {x c}, VA w I G x c → VA w' I' G' x (c.ren ρ)
  | _, _, .d h => .d (h.mono hI hc)
  | _, _, .agg cs l h h1 => by rw [A.ren]; exact .agg cs _ (VAs.map hI hc ρ hG h) h1
  | _, _, .tup cs l h => by rw [A.ren]; exact .tup cs _ (VAs.map hI hc ρ hG h)
  | _, _, .nil => .nil
  | _, _, .sl b n k l g e1 e2 h1 h => by
    rw [A.ren, A.rens_eq]
    obtain ⟨g', f1, f2⟩ := hG k g e1
    exact .sl b n _ _ g' f1 (f2.trans e2) (by simpa using h1) (by rw [A.flat_ren]; exact VAc.map hI hc ρ hG h)
  | _, _, .rptr b off l h => .rptr b off l (h.mono hI hc)
  | _, _, .ref b k off g h1 h2 => by obtain ⟨g', e1, e2⟩ := hG k g h1; exact .ref b _ off g' e1 (e2.trans h2)
  | _, _, .own k l g h1 h2 h3 => by obtain ⟨g', e1, e2⟩ := hG k g h1; exact .own _ l g' e1 (e2.trans h2) (h3.mono hI hc)
  | _, _, .arr k g h1 h2 h3 => by obtain ⟨g', e1, e2⟩ := hG k g h1; exact .arr _ g' e1 (e2.trans h2) h3
  | _, _, .eptr b k sz i off n c g h1 h2 => by obtain ⟨g', e1, e2⟩ := hG k g h1; exact .eptr b _ sz i off n c g' e1 (e2.trans h2)
  | _, _, .fn f cs l h => by rw [A.ren]; exact .fn f cs _ (VAs.map hI hc ρ hG h)
  | _, _, .mp r k g h1 h2 => by obtain ⟨g', e1, e2⟩ := hG k g h1; exact .mp r _ g' e1 (e2.trans h2)
  | _, _, .raw x h => .raw x h
  | _, _, .any x => .any x
theorem VAs.map (hI : ∀ b j, I b j → I' b j) (hc : ∀ b j, I b j → w'.cell? ⟨b, j, none⟩ = w.cell? ⟨b, j, none⟩) (ρ : Nat → Nat)
    (hG : ∀ (k : Nat) (g : Gh), G[k]? = some g → ∃ g' : Gh, G'[ρ k]? = some g' ∧ g'.root = g.root) : ∀ {x c}, VAs w I G x c → VAs w' I' G' x (A.rens ρ c)
  | _, _, .nil => .nil
  | _, _, .cons h1 h2 => .cons (VA.map hI hc ρ hG h1) (VAs.map hI hc ρ hG h2)
theorem VAc.map (hI : ∀ b j, I b j → I' b j) (hc : ∀ b j, I b j → w'.cell? ⟨b, j, none⟩ = w.cell? ⟨b, j, none⟩) (ρ : Nat → Nat)
    (hG : ∀ (k : Nat) (g : Gh), G[k]? = some g → ∃ g' : Gh, G'[ρ k]? = some g' ∧ g'.root = g.root) : ∀ {b off l}, VAc w I G b off l → VAc w' I' G' b off (l.map (A.ren ρ))
  | _, _, _, .nil b off => .nil b off
  | _, _, _, .cons h1 h2 h3 h4 h5 => .cons ((hc _ _ h2).trans h1) (hI _ _ h2) h3 (VA.map hI hc ρ hG h4) (VAc.map hI hc ρ hG h5)
end
mutual
theorem VA.dem (hI : ∀ b j, I b j → I' b j) (hc : ∀ b j, I b j → w'.cell? ⟨b, j, none⟩ = w.cell? ⟨b, j, none⟩) (q : Nat)
    (hG : ∀ (k : Nat) (g : Gh), k ≠ q → G[k]? = some g → ∃ g' : Gh, G'[k]? = some g' ∧ g'.root = g.root) : ∀ {x c}, VA w I G x c → VA w' I' G' x (c.dem q)
  | _, _, .d h => .d (h.mono hI hc)
  | _, _, .agg cs l h h1 => by rw [A.dem]; exact .agg cs _ (VAs.dem hI hc q hG h) h1
  | _, _, .tup cs l h => by rw [A.dem]; exact .tup cs _ (VAs.dem hI hc q hG h)
  | _, _, .nil => .nil
  | _, _, .sl b n k l g e1 e2 h1 h => by
    rw [A.dem, A.dems_eq]; split
    · exact .any _
    · obtain ⟨g', f1, f2⟩ := hG k g (by assumption) e1
      exact .sl b n _ _ g' f1 (f2.trans e2) (by simpa using h1) (by rw [A.flat_dem]; exact VAc.dem hI hc q hG h)
  | _, _, .rptr b off l h => .rptr b off l (h.mono hI hc)
  | _, _, .ref b k off g h1 h2 => by
    rw [A.dem]; split
    · exact .any _
    · obtain ⟨g', e1, e2⟩ := hG k g (by assumption) h1; exact .ref b _ off g' e1 (e2.trans h2)
  | _, _, .own k l g h1 h2 h3 => by
    rw [A.dem]; split
    · exact .d (h3.mono hI hc)
    · obtain ⟨g', e1, e2⟩ := hG k g (by assumption) h1; exact .own _ l g' e1 (e2.trans h2) (h3.mono hI hc)
  | _, _, .arr k g h1 h2 h3 => by
    rw [A.dem]; split
    · exact .any _
    · obtain ⟨g', e1, e2⟩ := hG k g (by assumption) h1; exact .arr _ g' e1 (e2.trans h2) h3
  | _, _, .eptr b k sz i off n c g h1 h2 => by
    rw [A.dem]; split
    · exact .any _
    · obtain ⟨g', e1, e2⟩ := hG k g (by assumption) h1; exact .eptr b _ sz i off n c g' e1 (e2.trans h2)
  | _, _, .fn f cs l h => by rw [A.dem]; exact .fn f cs _ (VAs.dem hI hc q hG h)
  | _, _, .mp r k g h1 h2 => by
    rw [A.dem]; split
    · exact .any _
    · obtain ⟨g', e1, e2⟩ := hG k g (by assumption) h1; exact .mp r _ g' e1 (e2.trans h2)
  | _, _, .raw x h => .raw x h
  | _, _, .any x => .any x
theorem VAs.dem (hI : ∀ b j, I b j → I' b j) (hc : ∀ b j, I b j → w'.cell? ⟨b, j, none⟩ = w.cell? ⟨b, j, none⟩) (q : Nat)
    (hG : ∀ (k : Nat) (g : Gh), k ≠ q → G[k]? = some g → ∃ g' : Gh, G'[k]? = some g' ∧ g'.root = g.root) : ∀ {x c}, VAs w I G x c → VAs w' I' G' x (A.dems q c)
  | _, _, .nil => .nil
  | _, _, .cons h1 h2 => .cons (VA.dem hI hc q hG h1) (VAs.dem hI hc q hG h2)
theorem VAc.dem (hI : ∀ b j, I b j → I' b j) (hc : ∀ b j, I b j → w'.cell? ⟨b, j, none⟩ = w.cell? ⟨b, j, none⟩) (q : Nat)
    (hG : ∀ (k : Nat) (g : Gh), k ≠ q → G[k]? = some g → ∃ g' : Gh, G'[k]? = some g' ∧ g'.root = g.root) : ∀ {b off l}, VAc w I G b off l → VAc w' I' G' b off (l.map (A.dem q))
  | _, _, _, .nil b off => .nil b off
  | _, _, _, .cons h1 h2 h3 h4 h5 => .cons ((hc _ _ h2).trans h1) (hI _ _ h2) h3 (VA.dem hI hc q hG h4) (VAc.dem hI hc q hG h5)
end
end
mutual
theorem A.ren_id : ∀ a : A, a.ren (fun k => k) = a
  | .agg l => by rw [A.ren, A.rens_id l]
  | .tup l => by rw [A.ren, A.rens_id l]
  | .sl _ l => by rw [A.ren, A.rens_id l]
  | .fn f l => by rw [A.ren, A.rens_id l]
  | .d _ | .nil | .rptr _ | .ref _ _ | .own _ _ | .arr _ | .eptr _ _ _ _ | .mp _ | .raw _ | .any => rfl
theorem A.rens_id : ∀ l : List A, A.rens (fun k => k) l = l
  | [] => rfl
  | a :: l => by rw [A.rens, A.ren_id a, A.rens_id l]
end
section
variable {w w' : World} {I I' : Im} {G G' : List Gh}
theorem VA.mono (hI : ∀ b j, I b j → I' b j) (hc : ∀ b j, I b j → w'.cell? ⟨b, j, none⟩ = w.cell? ⟨b, j, none⟩)
    (hG : ∀ (k : Nat) (g : Gh), G[k]? = some g → ∃ g' : Gh, G'[k]? = some g' ∧ g'.root = g.root) {x c} (h : VA w I G x c) : VA w' I' G' x c := by
  have := h.map hI hc (fun k => k) hG
  rwa [A.ren_id] at this
theorem VAs.mono (hI : ∀ b j, I b j → I' b j) (hc : ∀ b j, I b j → w'.cell? ⟨b, j, none⟩ = w.cell? ⟨b, j, none⟩)
    (hG : ∀ (k : Nat) (g : Gh), G[k]? = some g → ∃ g' : Gh, G'[k]? = some g' ∧ g'.root = g.root) {x c} (h : VAs w I G x c) : VAs w' I' G' x c := by
  have := h.map hI hc (fun k => k) hG
  rwa [A.rens_id] at this
end
end Go.Ab
