/- Abstract values, abstract objects, and what it means that a world holds them. No program is named here. -/
import Derived.WalkKit
import Derived.Laws.AppendOwn
import Derived.Laws.Tables
namespace Go.Ab
open Go

/-- Data that never changes while a function runs: one-cell values, structs (their cells), rows. -/
inductive D where
  | v (x : Value)
  | agg (l : List D)
  | lst (l : List D)
abbrev D.int (n : Int) : D := .v (.int .i64 n)
abbrev D.bool (b : Bool) : D := .v (.bool b)
abbrev D.str (s : ByteArray) : D := .v (.string s)
def D.cells : D → List D
  | .agg l => l
  | d => [d]

/-- What a temporary or a cell may hold. -/
inductive A where
  | d (x : D)
  | agg (l : List A)
  | tup (l : List A)
  | nil
  | sl (k : Nat) (l : List A)
  | rptr (l : List D)
  | ref (k off : Nat)
  | own (k : Nat) (l : List D)
  | arr (k : Nat)
  | eptr (k sz i off : Nat)
  | fn (f : Nat) (l : List A)
  | mp (k : Nat)
  | raw (x : Value)
  | any
abbrev A.int (n : Int) : A := .d (.v (.int .i64 n))
abbrev A.bool (b : Bool) : A := .d (.v (.bool b))
abbrev A.str (s : ByteArray) : A := .d (.v (.string s))
abbrev A.unit : A := .tup []
def A.cells : A → List A
  | .agg l => l
  | .d (.agg l) => l.map A.d
  | a => [a]

/-- Objects: variables in memory, rows that are appended to, rows that are written, maps. -/
inductive O where
  | box (t : TypeId) (l : List A)
  | app (t : TypeId) (sz : Nat) (dp : Bool)
  | row (t : TypeId) (sz : Nat) (l : List A)
  | map (kt vt : TypeId) (l : List (Value × D))
  | opn (r : Value) (t : TypeId) (sz : Nat) (l : List A)
  | forest (l : List (Value × D))
  | dead

structure Gh where
  root : Value
  F : Nat → Prop
abbrev Im := Nat → Nat → Prop

/-- One cell, and no row. -/
def sc : Value → Bool
  | .agg _ | .tuple _ | .slice _ _ _ => false
  | _ => true
theorem sc_one {x : Value} (h : sc x = true) : x.oneCell' = true := by cases x <;> first | rfl | (simp [sc] at h)
theorem sc_slice {x : Value} (h : sc x = true) (a : Option Addr) (n c : Nat) : x ≠ .slice a n c := by intro e; subst e; simp [sc] at h
mutual
inductive VD (w : World) (I : Im) : Value → D → Prop
  | v (x : Value) : sc x = true → VD w I x (.v x)
  | agg (cs : List Value) (l : List D) : VDs w I cs l → VD w I (.agg cs.toArray) (.agg l)
  | lnil : VD w I (.slice none 0 0) (.lst [])
  | lemp (a : Addr) (c : Nat) : VD w I (.slice (some a) 0 c) (.lst [])
  | lst (b off n cap : Nat) (l : List D) : n = l.length → n ≤ cap → VDc w I b off (l.flatMap D.cells) → VD w I (.slice (some ⟨b, off, none⟩) n cap) (.lst l)
inductive VDs (w : World) (I : Im) : List Value → List D → Prop
  | nil : VDs w I [] []
  | cons {x c xs l} : x.oneCell' = true → VD w I x c → VDs w I xs l → VDs w I (x :: xs) (c :: l)
inductive VDc (w : World) (I : Im) : Nat → Nat → List D → Prop
  | nil (b off : Nat) : VDc w I b off []
  | cons {b off x c l} : w.cell? ⟨b, off, none⟩ = some x → I b off → x.oneCell' = true → VD w I x c → VDc w I b (off + 1) l → VDc w I b off (c :: l)
end

mutual
inductive VA (w : World) (I : Im) (G : List Gh) : Value → A → Prop
  | d {x c} : VD w I x c → VA w I G x (.d c)
  | agg (cs : List Value) (l : List A) : VAs w I G cs l → (∀ x ∈ cs, x.oneCell' = true) → VA w I G (.agg cs.toArray) (.agg l)
  | tup (cs : List Value) (l : List A) : VAs w I G cs l → VA w I G (.tuple cs.toArray) (.tup l)
  | nil : VA w I G (.slice none 0 0) .nil
  | sl (b n k : Nat) (l : List A) (g : Gh) : G[k]? = some g → g.root = .slice (some ⟨b, 0, none⟩) n n → n = l.length → VAc w I G b 0 (l.flatMap A.cells) → VA w I G (.slice (some ⟨b, 0, none⟩) n n) (.sl k l)
  | rptr (b off : Nat) (l : List D) : VDc w I b off l → VA w I G (.pointer (some ⟨b, off, none⟩)) (.rptr l)
  | ref (b k off : Nat) (g : Gh) : G[k]? = some g → g.root = .pointer (some ⟨b, 0, none⟩) → VA w I G (.pointer (some ⟨b, off, none⟩)) (.ref k off)
  | own {x : Value} (k : Nat) (l : List D) (g : Gh) : G[k]? = some g → g.root = x → VD w I x (.lst l) → VA w I G x (.own k l)
  | arr {x : Value} (k : Nat) (g : Gh) : G[k]? = some g → g.root = x → x.oneCell' = true → VA w I G x (.arr k)
  | eptr (b k sz i off n c : Nat) (g : Gh) : G[k]? = some g → g.root = .slice (some ⟨b, 0, none⟩) n c → VA w I G (.pointer (some ⟨b, i * sz + off, none⟩)) (.eptr k sz i off)
  | fn (f : Nat) (cs : List Value) (l : List A) : VAs w I G cs l → VA w I G (.func (.func f) #[] cs.toArray) (.fn f l)
  | mp (r k : Nat) (g : Gh) : G[k]? = some g → g.root = .map (some r) → VA w I G (.map (some r)) (.mp k)
  | raw (x : Value) : x.oneCell' = true → VA w I G x (.raw x)
  | any (x : Value) : VA w I G x .any
inductive VAs (w : World) (I : Im) (G : List Gh) : List Value → List A → Prop
  | nil : VAs w I G [] []
  | cons {x c xs l} : VA w I G x c → VAs w I G xs l → VAs w I G (x :: xs) (c :: l)
inductive VAc (w : World) (I : Im) (G : List Gh) : Nat → Nat → List A → Prop
  | nil (b off : Nat) : VAc w I G b off []
  | cons {b off x c l} : w.cell? ⟨b, off, none⟩ = some x → I b off → x.oneCell' = true → VA w I G x c → VAc w I G b (off + 1) l → VAc w I G b off (c :: l)
end

/-- A value whose rows all lie in blocks of F, each block met once. -/
inductive Shp (w : World) : (Nat → Prop) → Value → Prop
  | one (F : Nat → Prop) (x : Value) : (∀ a n c, x = .slice (some a) n c → n = 0) → Shp w F x
  | slc (F : Nat → Prop) (Fs : Nat → Nat → Prop) (b n c t : Nat) (cs : Array Value) : F b → w.heap[b]? = some (.cells cs t (0, 0)) →
      (∀ j x, cs[j]? = some x → Shp w (Fs j) x) → (∀ j k, Fs j k → F k ∧ k ≠ b) → (∀ i j k, i ≠ j → Fs i k → ¬ Fs j k) →
      Shp w F (.slice (some ⟨b, 0, none⟩) n c)

/-- The same of a block's cells, the spare ones too. -/
def ShpB (w : World) (F : Nat → Prop) (b : Nat) (cs : Array Value) : Prop := ∃ Fs : Nat → Nat → Prop,
  (∀ (j : Nat) (x : Value), cs[j]? = some x → Shp w (Fs j) x) ∧ (∀ j k, Fs j k → F k ∧ k ≠ b) ∧ (∀ i j k, i ≠ j → Fs i k → ¬ Fs j k)

/-- A value that stands for d, all of whose rows lie in blocks of F, each met once. -/
inductive TreeV (w : World) : (Nat → Prop) → Value → D → Prop
  | v (F : Nat → Prop) (x : Value) : sc x = true → TreeV w F x (.v x)
  | nil (F : Nat → Prop) : TreeV w F (.slice none 0 0) (.lst [])
  | emp (F : Nat → Prop) (a : Addr) (c : Nat) : TreeV w F (.slice (some a) 0 c) (.lst [])
  | lst (F : Nat → Prop) (Fs : Nat → Nat → Prop) (xs : Nat → Value) (b n c t : Nat) (cs : Array Value) (l : List D) : F b → w.heap[b]? = some (.cells cs t (0, 0)) → n = l.length → n ≤ c →
      (∀ j d, (l.flatMap D.cells)[j]? = some d → cs[j]? = some (xs j) ∧ (xs j).oneCell' = true) → (∀ j d, (l.flatMap D.cells)[j]? = some d → TreeV w (Fs j) (xs j) d) →
      (∀ j k, Fs j k → F k ∧ k ≠ b) → (∀ i j k, i ≠ j → Fs i k → ¬ Fs j k) → TreeV w F (.slice (some ⟨b, 0, none⟩) n c) (.lst l)
/-- Trees that share nothing. -/
def Forest (w : World) (F : Nat → Prop) (l : List (Value × D)) : Prop := ∃ Fs : Nat → Nat → Prop,
  (∀ (m : Nat) (v : Value) (d : D), l[m]? = some (v, d) → v.oneCell' = true ∧ TreeV w (Fs m) v d) ∧ (∀ m k, Fs m k → F k) ∧ (∀ i j k, i ≠ j → Fs i k → ¬ Fs j k)

def MapR (w : World) (I : Im) (es : List MapEntry) (l : List (Value × D)) : Prop :=
  es.map (·.key) = l.map (·.1) ∧ VDs w I (es.map (·.val)) (l.map (·.2))

def ObjR (w : World) (I : Im) (G : List Gh) (g : Gh) : O → Prop
  | .box t l => ∃ b cs, g.root = .pointer (some ⟨b, 0, none⟩) ∧ w.heap[b]? = some (.cells cs t (0, 0)) ∧ VAs w I G cs.toList l ∧
      (∀ x ∈ cs.toList, x.oneCell' = true) ∧ (∀ k, g.F k ↔ k = b) ∧ (∀ j, ¬ I b j)
  | .app t sz dp => (g.root = .slice none 0 0 ∧ ∀ k, ¬ g.F k) ∨ (∃ b o n, g.root = .slice (some ⟨b, o, none⟩) n n ∧ (∀ k, ¬ g.F k) ∧ (dp = true → n = 0)) ∨
      ∃ b n cap cs, g.root = .slice (some ⟨b, 0, none⟩) n cap ∧ w.heap[b]? = some (.cells cs t (0, 0)) ∧ n ≤ cap ∧ cap ≤ maxLen ∧ cs.size = cap * sz ∧
        g.F b ∧ (∀ j, n * sz ≤ j → ¬ I b j) ∧ (dp = true → ShpB w g.F b cs)
  | .row t sz l => ∃ b cs, g.root = .slice (some ⟨b, 0, none⟩) l.length l.length ∧ w.heap[b]? = some (.cells cs t (0, 0)) ∧ VAs w I G cs.toList (l.flatMap A.cells) ∧
      (∀ x ∈ cs.toList, x.oneCell' = true) ∧ (∀ x ∈ l, x.cells.length = sz) ∧ (∀ k, g.F k ↔ k = b) ∧ (∀ j, ¬ I b j)
  | .map _ _ l => ∃ r es c, g.root = .map (some r) ∧ w.heap[r]? = some (.map es c) ∧ MapR w I es.toList l ∧ (∀ k, g.F k ↔ k = r)
  | .opn r _ sz l => g.root = r ∧ ∃ b cs t' sp cap, r = .slice (some ⟨b, 0, none⟩) l.length cap ∧ l.length ≤ cap ∧ w.heap[b]? = some (.cells cs t' (0, 0)) ∧ VAs w I G cs.toList (l.flatMap A.cells ++ List.replicate sp .any) ∧
      (∀ (j : Nat) (x : Value), j < l.length * sz → cs[j]? = some x → x.oneCell' = true) ∧ (∀ x ∈ l, x.cells.length = sz) ∧ (∀ k, g.F k ↔ k = b) ∧ (∀ j, ¬ I b j)
  | .forest l => g.root = .slice none 0 0 ∧ Forest w g.F l ∧ ∀ b j, g.F b → ¬ I b j
  | .dead => ∀ k, ¬ g.F k

structure RelH (w : World) (I : Im) (G : List Gh) (h : List O) : Prop where
  len : G.length = h.length
  obj : ∀ (k : Nat) (g : Gh) (o : O), G[k]? = some g → h[k]? = some o → ObjR w I G g o
  disj : ∀ (i j : Nat) (gi gj : Gh) (b : Nat), G[i]? = some gi → G[j]? = some gj → i ≠ j → gi.F b → ¬ gj.F b
  inb : ∀ (k : Nat) (g : Gh) (b : Nat), G[k]? = some g → g.F b → b < w.heap.size
  imm : ∀ b j, I b j → ∃ x, w.cell? ⟨b, j, none⟩ = some x


/-! ### How they are kept -/
section
variable {w w' : World} {I I' : Im}
mutual
theorem VD.mono (hI : ∀ b j, I b j → I' b j) (hc : ∀ b j, I b j → w'.cell? ⟨b, j, none⟩ = w.cell? ⟨b, j, none⟩) : ∀ {x c}, VD w I x c → VD w' I' x c
  | _, _, .v x h => .v x h
  | _, _, .agg cs l h => .agg cs l (VDs.mono hI hc h)
  | _, _, .lnil => .lnil
  | _, _, .lemp a c => .lemp a c
  | _, _, .lst b off n cap l h1 h2 h => .lst b off n cap l h1 h2 (VDc.mono hI hc h)
theorem VDs.mono (hI : ∀ b j, I b j → I' b j) (hc : ∀ b j, I b j → w'.cell? ⟨b, j, none⟩ = w.cell? ⟨b, j, none⟩) : ∀ {x c}, VDs w I x c → VDs w' I' x c
  | _, _, .nil => .nil
  | _, _, .cons h1 h2 h3 => .cons h1 (VD.mono hI hc h2) (VDs.mono hI hc h3)
theorem VDc.mono (hI : ∀ b j, I b j → I' b j) (hc : ∀ b j, I b j → w'.cell? ⟨b, j, none⟩ = w.cell? ⟨b, j, none⟩) : ∀ {b off l}, VDc w I b off l → VDc w' I' b off l
  | _, _, _, .nil b off => .nil b off
  | _, _, _, .cons h1 h2 h3 h4 h5 => .cons ((hc _ _ h2).trans h1) (hI _ _ h2) h3 (VD.mono hI hc h4) (VDc.mono hI hc h5)
end
end

mutual
/-- The objects' numbers, turned. -/
def A.ren (ρ : Nat → Nat) : A → A
  | .agg l => .agg (A.rens ρ l)
  | .tup l => .tup (A.rens ρ l)
  | .sl k l => .sl (ρ k) (A.rens ρ l)
  | .ref k off => .ref (ρ k) off
  | .own k l => .own (ρ k) l
  | .arr k => .arr (ρ k)
  | .eptr k sz i off => .eptr (ρ k) sz i off
  | .fn f l => .fn f (A.rens ρ l)
  | .mp k => .mp (ρ k)
  | .raw x => .raw x
  | .d x => .d x
  | .nil => .nil
  | .rptr l => .rptr l
  | .any => .any
def A.rens (ρ : Nat → Nat) : List A → List A
  | [] => []
  | a :: l => a.ren ρ :: A.rens ρ l
/-- Row k is no more the caller's to append to: what was read of it stays read. -/
def A.dem (k : Nat) : A → A
  | .agg l => .agg (A.dems k l)
  | .tup l => .tup (A.dems k l)
  | .sl j l => if j = k then .any else .sl j (A.dems k l)
  | .ref j off => if j = k then .any else .ref j off
  | .own j l => if j = k then .d (.lst l) else .own j l
  | .arr j => if j = k then .any else .arr j
  | .eptr j sz i off => if j = k then .any else .eptr j sz i off
  | .fn f l => .fn f (A.dems k l)
  | .mp j => if j = k then .any else .mp j
  | .raw x => .raw x
  | .d x => .d x
  | .nil => .nil
  | .rptr l => .rptr l
  | .any => .any
def A.dems (k : Nat) : List A → List A
  | [] => []
  | a :: l => a.dem k :: A.dems k l
end
theorem A.rens_eq (ρ : Nat → Nat) (l : List A) : A.rens ρ l = l.map (A.ren ρ) := by
  induction l with
  | nil => rfl
  | cons a l ih => simp [A.rens, ih]
theorem A.dems_eq (k : Nat) (l : List A) : A.dems k l = l.map (A.dem k) := by
  induction l with
  | nil => rfl
  | cons a l ih => simp [A.dems, ih]
theorem A.cells_ren (ρ : Nat → Nat) (a : A) : (a.ren ρ).cells = a.cells.map (A.ren ρ) := by
  cases a with
  | d x => cases x <;> simp [A.ren, A.cells, Function.comp_def]
  | agg l => simp [A.ren, A.cells, A.rens_eq]
  | _ => simp [A.ren, A.cells]
theorem A.cells_dem (k : Nat) (a : A) : (a.dem k).cells = a.cells.map (A.dem k) := by
  cases a with
  | d x => cases x <;> simp [A.dem, A.cells, Function.comp_def]
  | agg l => simp [A.dem, A.cells, A.dems_eq]
  | ref j off => simp only [A.dem]; split <;> simp_all [A.cells, A.dem]
  | own j l => simp only [A.dem]; split <;> simp_all [A.cells, A.dem]
  | arr j => simp only [A.dem]; split <;> simp_all [A.cells, A.dem]
  | eptr j sz i off => simp only [A.dem]; split <;> simp_all [A.cells, A.dem]
  | mp j => simp only [A.dem]; split <;> simp_all [A.cells, A.dem]
  | sl j l => simp only [A.dem]; split <;> simp_all [A.cells, A.dem]
  | _ => simp [A.dem, A.cells, A.dems_eq]
theorem A.flat_ren (ρ : Nat → Nat) (l : List A) : (l.map (A.ren ρ)).flatMap A.cells = (l.flatMap A.cells).map (A.ren ρ) := by
  induction l with
  | nil => rfl
  | cons a l ih => simp [A.cells_ren, ih]
theorem A.flat_dem (k : Nat) (l : List A) : (l.map (A.dem k)).flatMap A.cells = (l.flatMap A.cells).map (A.dem k) := by
  induction l with
  | nil => rfl
  | cons a l ih => simp [A.cells_dem, ih]

section
variable {w w' : World} {I I' : Im} {G G' : List Gh}
mutual
theorem VA.map (hI : ∀ b j, I b j → I' b j) (hc : ∀ b j, I b j → w'.cell? ⟨b, j, none⟩ = w.cell? ⟨b, j, none⟩) (ρ : Nat → Nat)
    (hG : ∀ (k : Nat) (g : Gh), G[k]? = some g → ∃ g' : Gh, G'[ρ k]? = some g' ∧ g'.root = g.root) : ∀ {x c}, VA w I G x c → VA w' I' G' x (c.ren ρ)
  | _, _, .d h => .d (h.mono hI hc)
  | _, _, .agg cs l h h1 => by rw [A.ren]; exact .agg cs _ (VAs.map hI hc ρ hG h) h1
  | _, _, .tup cs l h => by rw [A.ren]; exact .tup cs _ (VAs.map hI hc ρ hG h)
  | _, _, .nil => .nil
  | _, _, .sl b n k l g e1 e2 h1 h => by
    rw [A.ren, A.rens_eq]
    obtain ⟨g', f1, f2⟩ := hG k g e1
    exact .sl b n _ _ g' f1 (f2.trans e2) (by simpa using h1) (by rw [A.flat_ren]; exact VAc.map hI hc ρ hG h)
  | _, _, .rptr b off l h => .rptr b off l (h.mono hI hc)
  | _, _, .ref b k off g h1 h2 => by obtain ⟨g', e1, e2⟩ := hG k g h1; exact .ref b _ off g' e1 (e2.trans h2)
  | _, _, .own k l g h1 h2 h3 => by obtain ⟨g', e1, e2⟩ := hG k g h1; exact .own _ l g' e1 (e2.trans h2) (h3.mono hI hc)
  | _, _, .arr k g h1 h2 h3 => by obtain ⟨g', e1, e2⟩ := hG k g h1; exact .arr _ g' e1 (e2.trans h2) h3
  | _, _, .eptr b k sz i off n c g h1 h2 => by obtain ⟨g', e1, e2⟩ := hG k g h1; exact .eptr b _ sz i off n c g' e1 (e2.trans h2)
  | _, _, .fn f cs l h => by rw [A.ren]; exact .fn f cs _ (VAs.map hI hc ρ hG h)
  | _, _, .mp r k g h1 h2 => by obtain ⟨g', e1, e2⟩ := hG k g h1; exact .mp r _ g' e1 (e2.trans h2)
  | _, _, .raw x h => .raw x h
  | _, _, .any x => .any x
theorem VAs.map (hI : ∀ b j, I b j → I' b j) (hc : ∀ b j, I b j → w'.cell? ⟨b, j, none⟩ = w.cell? ⟨b, j, none⟩) (ρ : Nat → Nat)
    (hG : ∀ (k : Nat) (g : Gh), G[k]? = some g → ∃ g' : Gh, G'[ρ k]? = some g' ∧ g'.root = g.root) : ∀ {x c}, VAs w I G x c → VAs w' I' G' x (A.rens ρ c)
  | _, _, .nil => .nil
  | _, _, .cons h1 h2 => .cons (VA.map hI hc ρ hG h1) (VAs.map hI hc ρ hG h2)
theorem VAc.map (hI : ∀ b j, I b j → I' b j) (hc : ∀ b j, I b j → w'.cell? ⟨b, j, none⟩ = w.cell? ⟨b, j, none⟩) (ρ : Nat → Nat)
    (hG : ∀ (k : Nat) (g : Gh), G[k]? = some g → ∃ g' : Gh, G'[ρ k]? = some g' ∧ g'.root = g.root) : ∀ {b off l}, VAc w I G b off l → VAc w' I' G' b off (l.map (A.ren ρ))
  | _, _, _, .nil b off => .nil b off
  | _, _, _, .cons h1 h2 h3 h4 h5 => .cons ((hc _ _ h2).trans h1) (hI _ _ h2) h3 (VA.map hI hc ρ hG h4) (VAc.map hI hc ρ hG h5)
end
mutual
theorem VA.dem (hI : ∀ b j, I b j → I' b j) (hc : ∀ b j, I b j → w'.cell? ⟨b, j, none⟩ = w.cell? ⟨b, j, none⟩) (q : Nat)
    (hG : ∀ (k : Nat) (g : Gh), k ≠ q → G[k]? = some g → ∃ g' : Gh, G'[k]? = some g' ∧ g'.root = g.root) : ∀ {x c}, VA w I G x c → VA w' I' G' x (c.dem q)
  | _, _, .d h => .d (h.mono hI hc)
  | _, _, .agg cs l h h1 => by rw [A.dem]; exact .agg cs _ (VAs.dem hI hc q hG h) h1
  | _, _, .tup cs l h => by rw [A.dem]; exact .tup cs _ (VAs.dem hI hc q hG h)
  | _, _, .nil => .nil
  | _, _, .sl b n k l g e1 e2 h1 h => by
    rw [A.dem, A.dems_eq]; split
    · exact .any _
    · obtain ⟨g', f1, f2⟩ := hG k g (by assumption) e1
      exact .sl b n _ _ g' f1 (f2.trans e2) (by simpa using h1) (by rw [A.flat_dem]; exact VAc.dem hI hc q hG h)
  | _, _, .rptr b off l h => .rptr b off l (h.mono hI hc)
  | _, _, .ref b k off g h1 h2 => by
    rw [A.dem]; split
    · exact .any _
    · obtain ⟨g', e1, e2⟩ := hG k g (by assumption) h1; exact .ref b _ off g' e1 (e2.trans h2)
  | _, _, .own k l g h1 h2 h3 => by
    rw [A.dem]; split
    · exact .d (h3.mono hI hc)
    · obtain ⟨g', e1, e2⟩ := hG k g (by assumption) h1; exact .own _ l g' e1 (e2.trans h2) (h3.mono hI hc)
  | _, _, .arr k g h1 h2 h3 => by
    rw [A.dem]; split
    · exact .any _
    · obtain ⟨g', e1, e2⟩ := hG k g (by assumption) h1; exact .arr _ g' e1 (e2.trans h2) h3
  | _, _, .eptr b k sz i off n c g h1 h2 => by
    rw [A.dem]; split
    · exact .any _
    · obtain ⟨g', e1, e2⟩ := hG k g (by assumption) h1; exact .eptr b _ sz i off n c g' e1 (e2.trans h2)
  | _, _, .fn f cs l h => by rw [A.dem]; exact .fn f cs _ (VAs.dem hI hc q hG h)
  | _, _, .mp r k g h1 h2 => by
    rw [A.dem]; split
    · exact .any _
    · obtain ⟨g', e1, e2⟩ := hG k g (by assumption) h1; exact .mp r _ g' e1 (e2.trans h2)
  | _, _, .raw x h => .raw x h
  | _, _, .any x => .any x
theorem VAs.dem (hI : ∀ b j, I b j → I' b j) (hc : ∀ b j, I b j → w'.cell? ⟨b, j, none⟩ = w.cell? ⟨b, j, none⟩) (q : Nat)
    (hG : ∀ (k : Nat) (g : Gh), k ≠ q → G[k]? = some g → ∃ g' : Gh, G'[k]? = some g' ∧ g'.root = g.root) : ∀ {x c}, VAs w I G x c → VAs w' I' G' x (A.dems q c)
  | _, _, .nil => .nil
  | _, _, .cons h1 h2 => .cons (VA.dem hI hc q hG h1) (VAs.dem hI hc q hG h2)
theorem VAc.dem (hI : ∀ b j, I b j → I' b j) (hc : ∀ b j, I b j → w'.cell? ⟨b, j, none⟩ = w.cell? ⟨b, j, none⟩) (q : Nat)
    (hG : ∀ (k : Nat) (g : Gh), k ≠ q → G[k]? = some g → ∃ g' : Gh, G'[k]? = some g' ∧ g'.root = g.root) : ∀ {b off l}, VAc w I G b off l → VAc w' I' G' b off (l.map (A.dem q))
  | _, _, _, .nil b off => .nil b off
  | _, _, _, .cons h1 h2 h3 h4 h5 => .cons ((hc _ _ h2).trans h1) (hI _ _ h2) h3 (VA.dem hI hc q hG h4) (VAc.dem hI hc q hG h5)
end
end
mutual
theorem A.ren_id : ∀ a : A, a.ren (fun k => k) = a
  | .agg l => by rw [A.ren, A.rens_id l]
  | .tup l => by rw [A.ren, A.rens_id l]
  | .sl _ l => by rw [A.ren, A.rens_id l]
  | .fn f l => by rw [A.ren, A.rens_id l]
  | .d _ | .nil | .rptr _ | .ref _ _ | .own _ _ | .arr _ | .eptr _ _ _ _ | .mp _ | .raw _ | .any => rfl
theorem A.rens_id : ∀ l : List A, A.rens (fun k => k) l = l
  | [] => rfl
  | a :: l => by rw [A.rens, A.ren_id a, A.rens_id l]
end
section
variable {w w' : World} {I I' : Im} {G G' : List Gh}
theorem VA.mono (hI : ∀ b j, I b j → I' b j) (hc : ∀ b j, I b j → w'.cell? ⟨b, j, none⟩ = w.cell? ⟨b, j, none⟩)
    (hG : ∀ (k : Nat) (g : Gh), G[k]? = some g → ∃ g' : Gh, G'[k]? = some g' ∧ g'.root = g.root) {x c} (h : VA w I G x c) : VA w' I' G' x c := by
  have := h.map hI hc (fun k => k) hG
  rwa [A.ren_id] at this
theorem VAs.mono (hI : ∀ b j, I b j → I' b j) (hc : ∀ b j, I b j → w'.cell? ⟨b, j, none⟩ = w.cell? ⟨b, j, none⟩)
    (hG : ∀ (k : Nat) (g : Gh), G[k]? = some g → ∃ g' : Gh, G'[k]? = some g' ∧ g'.root = g.root) {x c} (h : VAs w I G x c) : VAs w' I' G' x c := by
  have := h.map hI hc (fun k => k) hG
  rwa [A.rens_id] at this
end
end Go.Ab
/- The condition of a piece of code: what is to be shown of data, so that the code does what is asked. -/
namespace Go.Ab
open Go

/-- A result of arithmetic, brought back into its kind. -/
@[irreducible] def wr (k : IntKind) (n : Int) : Int := k.wrap n

/-! ### Types -/
structure FI where
  off : Nat
  sz : Nat
  ag : Bool
inductive TK where
  | one
  | boo
  | str
  | slc (e : Nat)
  | st (fs : List FI)
  | mp (k e : Nat)
structure TI where
  k : TK
  sz : Nat
  bytes : Nat
  zero : List A
abbrev Ty := Nat → Option TI
def TI.ag (i : TI) : Bool := match i.k with | .st _ => true | _ => false
def ZOk (x : Value) : A → Prop
  | .nil => x = .slice none 0 0
  | .d (.v y) => x = y ∧ sc y = true
  | _ => False
def ZsOk : List Value → List A → Prop
  | [], [] => True
  | x :: xs, a :: l => ZOk x a ∧ ZsOk xs l
  | _, _ => False
def FsOk (P : Program) : List Field → List FI → Prop
  | [], [] => True
  | f :: fs, i :: is => (f.offset = i.off ∧ P.cellsOf f.type = i.sz ∧ i.sz ≠ 0 ∧
      (i.ag = true → (∃ q, P.underlying f.type = some (.struct q))) ∧
      (i.ag = false → i.sz = 1 ∧ ∃ d, P.underlying f.type = some d ∧ (∀ q, d ≠ .struct q) ∧ (∀ n e, d ≠ .array n e)) ∧ ∃ z, P.info? f.type = some z) ∧ FsOk P fs is
  | _, _ => False
def KOk (P : Program) (t : Nat) (sz : Nat) : TK → Prop
  | .one => sz = 1 ∧ ∃ d, P.underlying t = some d ∧ (∀ q, d ≠ .struct q) ∧ (∀ n e, d ≠ .array n e)
  | .boo => sz = 1 ∧ P.underlying t = some .bool
  | .str => sz = 1 ∧ P.underlying t = some .string
  | .slc e => sz = 1 ∧ P.underlying t = some (.slice e)
  | .st fs => ∃ q, P.underlying t = some (.struct q) ∧ FsOk P q.toList fs
  | .mp k e => sz = 1 ∧ P.underlying t = some (.map k e)
def TIOk (P : Program) (t : Nat) (i : TI) : Prop :=
  ∃ f z, P.info? t = some f ∧ f.size = i.sz ∧ f.bytes = i.bytes ∧ f.zero = some z ∧ ZsOk z.cells.toList i.zero ∧ z.cells.size = i.sz ∧ i.sz ≠ 0 ∧
    (i.ag = false → ∃ x, z.cells = #[x] ∧ x = z) ∧ (i.ag = true → ∃ cs, z = .agg cs) ∧ KOk P t i.sz i.k
def TOk (P : Program) (T : Ty) : Prop := ∀ t i, T t = some i → TIOk P t i

/-! ### States -/
structure St where
  t : List A
  h : List O
  p : Nat
def kon1 : Value → A
  | .slice none 0 0 => .nil
  | .slice _ _ _ => .any
  | .agg _ => .any
  | .tuple _ => .any
  | v => .d (.v v)
def kons : List Value → List A
  | [] => []
  | v :: l => kon1 v :: kons l
def kon : Value → A
  | .agg cs => match cs.toList.all Value.oneCell' with | true => .agg (kons cs.toList) | false => .any
  | v => kon1 v
def opd (t : List A) : Operand → A
  | .tmp i => t.getD i .any
  | .const v => kon v
  | .func f => .fn f []
  | .global _ => .any
def opds (t : List A) : List Operand → List A
  | [] => []
  | x :: l => opd t x :: opds t l
def St.put (s : St) : Option Nat → A → St
  | none, _ => s
  | some d, a => ⟨s.t.set d a, s.h, s.p⟩
def unDs : List A → Option (List D)
  | [] => some []
  | .d x :: l => match unDs l with | some r => some (x :: r) | none => none
  | _ :: _ => none
def pack (l : List A) : A := match unDs l with | some r => .d (.agg r) | none => .agg l
/-- As data, where nothing more than reading is wanted. -/
def A.toD? : A → Option D
  | .d x => some x
  | .own _ l => some (.lst l)
  | .nil => some (.lst [])
  | _ => none
def toDs? : List A → Option (List D)
  | [] => some []
  | a :: l => match a.toD?, toDs? l with | some x, some r => some (x :: r) | _, _ => none
/-- An element (its cells as data). -/
def A.toE? : A → Option D
  | .agg l => match toDs? l with | some r => some (.agg r) | none => none
  | a => a.toD?
def toEs? : List A → Option (List D)
  | [] => some []
  | a :: l => match a.toE?, toEs? l with | some x, some r => some (x :: r) | _, _ => none
/-- A row that can be read. -/
def A.row? : A → Option (List D)
  | .d (.lst l) => some l
  | .own _ l => some l
  | .nil => some []
  | .sl _ l => toEs? l
  | _ => none
def Flat (sz : Nat) (l : List D) : Prop := ∀ x ∈ l, x.cells.length = sz

/-! ### Operations -/
def vcBin (op : BinOp) (a b : A) (K : A → Prop) : Prop :=
  match a, b with
  | .d (.v (.int k x)), .d (.v (.int k' y)) => k = k' ∧
    match op with
    | .add => K (.d (.v (.int k (wr k (x + y)))))
    | .sub => K (.d (.v (.int k (wr k (x - y)))))
    | .mul => K (.d (.v (.int k (wr k (x * y)))))
    | .quo => y ≠ 0 ∧ K (.d (.v (.int k (wr k (x.tdiv y)))))
    | .rem => y ≠ 0 ∧ K (.d (.v (.int k (x.tmod y))))
    | .and => K (.d (.v (.int k (k.wrap (BitVec.ofInt k.bits x &&& BitVec.ofInt k.bits y).toNat))))
    | .or => K (.d (.v (.int k (k.wrap (BitVec.ofInt k.bits x ||| BitVec.ofInt k.bits y).toNat))))
    | .xor => K (.d (.v (.int k (k.wrap (BitVec.ofInt k.bits x ^^^ BitVec.ofInt k.bits y).toNat))))
    | .eql => K (.bool (decide (x = y)))
    | .neq => K (.bool (!decide (x = y)))
    | .lss => K (.bool (decide (x < y)))
    | .leq => K (.bool (decide (x ≤ y)))
    | .gtr => K (.bool (decide (y < x)))
    | .geq => K (.bool (decide (y ≤ x)))
    | _ => False
  | .d (.v (.string x)), .d (.v (.string y)) =>
    match op with
    | .add => x.size + y.size ≤ 4611686018427387904 ∧ K (.str (x ++ y))
    | .eql => K (.bool (decide (x = y)))
    | .neq => K (.bool (!decide (x = y)))
    | _ => False
  | _, _ => False
def vcBinT (T : Ty) (op : BinOp) (t : Nat) (a b : A) (K : A → Prop) : Prop :=
  match a, b with
  | .d (.v (.bool x)), .d (.v (.bool y)) => match T t with
    | some ⟨.boo, _, _, _⟩ => match op with
      | .eql => K (.bool (x == y))
      | .neq => K (.bool (!(x == y)))
      | _ => False
    | _ => False
  | a, b => vcBin op a b K
def vcUn (op : UnOp) (a : A) (K : A → Prop) : Prop :=
  match op, a with
  | .not, .d (.v (.bool b)) => K (.bool !b)
  | .neg, .d (.v (.int k x)) => K (.d (.v (.int k (wr k (0 - x)))))
  | _, _ => False
def fieldOf (T : Ty) (t f : Nat) : Option FI := match T t with | some ⟨.st fs, _, _, _⟩ => fs[f]? | _ => none
def partD (i : FI) (l : List D) (K : A → Prop) : Prop :=
  match i.ag with
  | true => i.off + i.sz ≤ l.length ∧ K (.d (.agg ((l.drop i.off).take i.sz)))
  | false => ∃ x, l[i.off]? = some x ∧ K (.d x)
def partA (i : FI) (l : List A) (K : A → Prop) : Prop :=
  match i.ag with
  | true => i.off + i.sz ≤ l.length ∧ K (pack ((l.drop i.off).take i.sz))
  | false => ∃ x, l[i.off]? = some x ∧ K x
def vcField (T : Ty) (t : Nat) (a : A) (f : Nat) (K : A → Prop) : Prop :=
  match fieldOf T t f, a with
  | some i, .d (.agg l) => partD i l K
  | some i, .agg l => partA i l K
  | _, _ => False
def vcFieldAddr (T : Ty) (t : Nat) (a : A) (f : Nat) (K : A → Prop) : Prop :=
  match fieldOf T t f, a with
  | some i, .rptr l => i.off ≤ l.length ∧ K (.rptr (l.drop i.off))
  | some i, .ref k o => K (.ref k (o + i.off))
  | some i, .eptr k sz j o => K (.eptr k sz j (o + i.off))
  | _, _ => False
def vcLoad (T : Ty) (t : Nat) (a : A) (h : List O) (K : A → Prop) : Prop :=
  match T t with
  | none => False
  | some i =>
    match a with
    | .rptr l => partD ⟨0, i.sz, i.ag⟩ l K
    | .ref k o => match h[k]? with
      | some (.box _ l) => partA ⟨o, i.sz, i.ag⟩ l K
      | _ => False
    | .eptr k sz j o => match h[k]? with
      | some (.row _ sz' l) => sz = sz' ∧ j < l.length ∧ o + i.sz ≤ sz ∧ ∀ x, l[j]? = some x → partA ⟨o, i.sz, i.ag⟩ x.cells K
      | some (.opn _ _ sz' l) => sz = sz' ∧ j < l.length ∧ o + i.sz ≤ sz ∧ ∀ x, l[j]? = some x → partA ⟨o, i.sz, i.ag⟩ x.cells K
      | _ => False
    | _ => False
/-- An element out of its cells. -/
def mkE : Bool → List A → A
  | false, [x] => x
  | _, l => pack l
/-- The cells of a value to be stored. -/
def A.cells? : A → Option (List A)
  | .any => none
  | .tup _ => none
  | .agg l => some l
  | .d (.agg l) => some (l.map A.d)
  | a => some [a]
def splice (l : List A) (o : Nat) (c : List A) : List A := l.take o ++ c ++ l.drop (o + c.length)
def vcStore (T : Ty) (t : Nat) (a x : A) (h : List O) (K : List O → Prop) : Prop :=
  match T t, x.cells? with
  | some i, some c =>
    c.length = i.sz ∧
    match a with
    | .ref k o => match h[k]? with
      | some (.box u l) => o + c.length ≤ l.length ∧ K (h.set k (.box u (splice l o c)))
      | _ => False
    | .eptr k sz j o => match h[k]? with
      | some (.row u sz' l) => match T u with
        | some iu => sz = sz' ∧ sz = iu.sz ∧ j < l.length ∧ match o, c.length == sz with
          | 0, true => K (h.set k (.row u sz (l.set j (mkE iu.ag c))))
          | _, _ => o + c.length ≤ sz ∧ ∀ y, l[j]? = some y → y.cells.length = sz → K (h.set k (.row u sz (l.set j (mkE iu.ag (splice y.cells o c)))))
        | none => False
      | some (.opn r u sz' l) => match T u with
        | some iu => sz = sz' ∧ sz = iu.sz ∧ j < l.length ∧ o + c.length ≤ sz ∧ ∀ y, l[j]? = some y → y.cells.length = sz → K (h.set k (.opn r u sz (l.set j (mkE iu.ag (splice y.cells o c)))))
        | none => False
      | _ => False
    | _ => False
  | _, _ => False
def vcIndexAddr (T : Ty) (t : Nat) (a i : A) (h : List O) (K : A → Prop) : Prop :=
  match T t, i with
  | some ⟨.slc e, _, _, _⟩, .d (.v (.int _ n)) =>
    match T e, a with
    | some ie, .arr k => match h[k]? with
      | some (.row _ sz l) => sz = ie.sz ∧ (0 ≤ n ∧ n < l.length) ∧ K (.eptr k sz n.toNat 0)
      | some (.opn _ _ sz l) => sz = ie.sz ∧ (0 ≤ n ∧ n < l.length) ∧ K (.eptr k sz n.toNat 0)
      | _ => False
    | some ie, a => match a.row? with
      | some l => (0 ≤ n ∧ n < l.length) ∧ Flat ie.sz l ∧ ∀ x, l[n.toNat]? = some x → K (.rptr x.cells)
      | none => False
    | none, _ => False
  | _, _ => False
def vcIndex (T : Ty) (t : Nat) (a i : A) (K : A → Prop) : Prop :=
  match T t, a, i with
  | some ⟨.str, _, _, _⟩, .d (.v (.string s)), .d (.v (.int _ n)) => (0 ≤ n ∧ n < s.size) ∧ ∀ b, s.data[n.toNat]? = some b → K (.d (.v (.int .u8 b.toNat)))
  | _, _, _ => False
/-- The bounds of a cut: low, high, given or not. -/
def cutLo (lo : Option A) (K : Int → Prop) : Prop := match lo with | none => K 0 | some (.d (.v (.int _ n))) => K n | _ => False
def cutHi (hi : Option A) (len : Nat) (K : Int → Prop) : Prop := match hi with | none => K len | some (.d (.v (.int _ n))) => K n | _ => False
def vcSlice (T : Ty) (t : Nat) (a : A) (lo hi : Option A) (K : A → Prop) : Prop :=
  match T t with
  | some ⟨.str, _, _, _⟩ => match a with
    | .d (.v (.string s)) => cutLo lo fun l => cutHi hi s.size fun h => (0 ≤ l ∧ l ≤ h ∧ h ≤ s.size) ∧ K (.str (s.extract l.toNat h.toNat))
    | _ => False
  | some ⟨.slc e, _, _, _⟩ => match T e, a.row? with
    | some ie, some r => cutLo lo fun l => cutHi hi r.length fun h => (0 ≤ l ∧ l ≤ h ∧ h ≤ r.length) ∧ Flat ie.sz r ∧ K (.d (.lst ((r.take h.toNat).drop l.toNat)))
    | _, _ => False
  | _ => False

/-! ### Objects that turn -/
def O.dem (q : Nat) : O → O
  | .box t l => .box t (A.dems q l)
  | .row t sz l => .row t sz (A.dems q l)
  | .opn r t sz l => .opn r t sz (A.dems q l)
  | o => o
def O.demL (q : Nat) : List O → List O
  | [] => []
  | o :: l => o.dem q :: O.demL q l
def St.dem (s : St) (q : Nat) : St := ⟨A.dems q s.t, O.demL q s.h, s.p⟩
def St.kill (s : St) (q : Nat) : St := ⟨A.dems q s.t, (O.demL q s.h).set q .dead, s.p⟩
def St.kills (s : St) : List Nat → St
  | [] => s
  | q :: l => (s.kill q).kills l
def D.plain : D → Bool
  | .v _ => true
  | _ => false
/-- A cell, and the row of the caller's own that goes with it. -/
def A.give? : A → Option (D × List Nat)
  | .d (.v x) => some (.v x, [])
  | .nil => some (.lst [], [])
  | .own m l => some (.lst l, [m])
  | _ => none
def gives? : List A → Option (List D × List Nat)
  | [] => some ([], [])
  | a :: l => match a.give?, gives? l with | some (x, ms), some (r, ns) => some (x :: r, ms ++ ns) | _, _ => none
def dvs? : List D → Bool
  | [] => true
  | a :: l => a.plain && dvs? l
def A.giveE? : A → Option (D × List Nat)
  | .agg l => match gives? l with | some (r, ms) => some (.agg r, ms) | none => none
  | .d (.agg l) => match dvs? l with | true => some (.agg l, []) | false => none
  | a => a.give?
def giveEs? : List A → Option (List D × List Nat)
  | [] => some ([], [])
  | a :: l => match a.giveE?, giveEs? l with | some (x, ms), some (r, ns) => some (x :: r, ms ++ ns) | _, _ => none
def deepApps (h : List O) : List Nat → Prop
  | [] => True
  | m :: l => (∃ t sz, h[m]? = some (.app t sz true)) ∧ m ∉ l ∧ deepApps h l
def Plain (l : List D) : Prop := ∀ x ∈ l, ∀ c ∈ x.cells, c.plain = true
/-- l ++ news, appended to row k. -/
def vcGrow (e : Nat) (ie : TI) (s : St) (k : Nat) (l : List D) (x : A) (K : A → St → Prop) : Prop :=
  match s.h[k]? with
  | some (.app u sz true) => u = e ∧ sz = ie.sz ∧ Flat ie.sz l ∧
    match x with
    | .sl _ lx => match giveEs? lx with
      | some (ds, ms) => (l.length + ds.length) * ie.bytes ≤ 140737488355328 ∧ Flat ie.sz ds ∧ deepApps s.h ms ∧ k ∉ ms ∧ K (.own k (l ++ ds)) ((s.kills ms).dem k)
      | none => False
    | x => match x.row? with
      | some ds => (l.length + ds.length) * ie.bytes ≤ 140737488355328 ∧ Flat ie.sz ds ∧ Plain ds ∧ K (.own k (l ++ ds)) (s.dem k)
      | none => False
  | some (.app u sz false) => u = e ∧ sz = ie.sz ∧ Flat ie.sz l ∧
    match x.row? with
    | some ds => (l.length + ds.length) * ie.bytes ≤ 140737488355328 ∧ Flat ie.sz ds ∧ K (.own k (l ++ ds)) (s.dem k)
    | none => False
  | _ => False
def vcAppend (T : Ty) (t u : Nat) (a x : A) (s : St) (K : A → St → Prop) : Prop :=
  match T t with
  | some ⟨.slc e, _, _, _⟩ => t = u ∧
    match T e with
    | some ie => ie.bytes ≠ 0 ∧
      match a with
      | .nil => vcGrow e ie ⟨s.t, s.h ++ [.app e ie.sz false], s.p⟩ s.h.length [] x K
      | .own k l => vcGrow e ie s k l x K
      | .sl k l => match toEs? l with
        | some ds => vcGrow e ie s k ds x K
        | none => False
      | _ => False
    | none => False
  | _ => False
def vcBuildSlice (T : Ty) (t n : Nat) (idx : List Nat) (l : List A) (s : St) (K : A → St → Prop) : Prop :=
  match T t with
  | some ⟨.slc e, _, _, _⟩ => match T e with
    | some ie => idx = List.range n ∧ n * ie.sz ≤ 16777216 ∧ (∀ a ∈ l, ∃ c, a.cells? = some c ∧ c.length = ie.sz) ∧
      K (.sl s.h.length l) ⟨s.t, s.h ++ [.app e ie.sz (match giveEs? l with | some (_, []) => true | _ => false)], s.p⟩
    | none => False
  | _ => False
def vcMakeSlice (T : Ty) (t : Nat) (a b : A) (s : St) (K : A → St → Prop) : Prop :=
  match T t, a, b with
  | some ⟨.slc e, _, _, _⟩, .d (.v (.int .i64 n)), .d (.v (.int .i64 m)) => n = m ∧ 0 ≤ n ∧
    match T e with
    | some ie => n * ie.bytes ≤ 140737488355328 ∧ ie.bytes ≠ 0 ∧ K (.arr s.h.length) ⟨s.t, s.h ++ [.row e ie.sz (List.replicate n.toNat (mkE ie.ag ie.zero))], s.p⟩
    | none => False
  | _, _, _ => False
/-- A struct out of its parts: the zero's cells, written over. -/
def fillA (T : Ty) (fs : List FI) : List A → List (Nat × A) → Option (List A)
  | c, [] => some c
  | c, (i, a) :: r => match fs[i]?, a.cells? with
    | some f, some x => if x.length = f.sz ∧ f.off + f.sz ≤ c.length then fillA T fs (splice c f.off x) r else none
    | _, _ => none
def vcBuild (T : Ty) (t : Nat) (parts : List (Nat × A)) (K : A → Prop) : Prop :=
  match T t with
  | some ⟨.st fs, _, _, z⟩ => match fillA T fs z parts with
    | some c => K (pack c)
    | none => False
  | _ => False
def A.len? (h : List O) : A → Option Nat
  | .d (.v (.string s)) => some s.size
  | .sl _ l => some l.length
  | .arr k => match h[k]? with | some (.row _ _ l) => some l.length | some (.opn _ _ _ l) => some l.length | _ => none
  | .mp k => match h[k]? with | some (.map _ _ l) => some l.length | _ => none
  | a => match a.row? with | some l => some l.length | none => none
def lenOk (T : Ty) (t : Nat) (a : A) : Prop :=
  match T t, a with
  | some ⟨.str, _, _, _⟩, .d (.v (.string _)) => True
  | some ⟨.mp _ _, _, _, _⟩, .mp _ => True
  | some ⟨.slc _, _, _, _⟩, .d (.v (.string _)) => False
  | some ⟨.slc _, _, _, _⟩, .mp _ => False
  | some ⟨.slc _, _, _, _⟩, _ => True
  | _, _ => False
end Go.Ab
/- A frame and a world that hold an abstract state; the condition of code; contracts. -/
namespace Go.Ab
open Go

/-- The call that is being made: its world, what may be read for good, what may be changed. -/
structure Cx where
  w : World
  I : Im
  F : Nat → Prop
  R : Nat → Option Value
structure Fr (c : Cx) (w : World) (I : Im) (G : List Gh) : Prop where
  os : w.os = c.w.os
  tape : w.tape = c.w.tape
  output : w.output = c.w.output
  size : c.w.heap.size ≤ w.heap.size
  block : ∀ b, b < c.w.heap.size → ¬ c.F b → w.heap[b]? = c.w.heap[b]?
  cell : ∀ b j, c.I b j → I b j ∧ w.cell? ⟨b, j, none⟩ = c.w.cell? ⟨b, j, none⟩
  im : ∀ b j, I b j → c.I b j ∨ c.F b ∨ c.w.heap.size ≤ b
  own : ∀ (k : Nat) (g : Gh) (b : Nat), G[k]? = some g → g.F b → c.F b ∨ c.w.heap.size ≤ b
structure RelX (c : Cx) (s : St) (a : Act) (w : World) (I : Im) (G : List Gh) : Prop where
  defers : a.defers = []
  tmps : VAs w I G a.tmps.toList s.t
  objs : RelH w I G s.h
  fr : Fr c w I G
  pr : ∀ (k : Nat) (v : Value), c.R k = some v → k < s.p ∧ (∀ a n q, v ≠ .slice a n q) ∧ ∃ g : Gh, G[k]? = some g ∧ g.root = v
def Rel (c : Cx) (s : St) (a : Act) (w : World) : Prop := ∃ I G, RelX c s a w I G

def Has (P : Program) (f : FuncId) : Prop := ∃ fn, P.funcs[f]? = some fn ∧ (fn.name == "runtime.NumGoroutine") = false ∧ fn.body.isNone = false
/-- A call of f with these arguments, from this state. -/
def callVC (P : Program) (f : FuncId) (args : List A) (s : St) (dst : Option Nat) (K : St → Prop) : Prop :=
  Has P f ∧ ∀ c a w I G, RelX c s a w I G → ∀ vs : List Value, VAs w I G vs args →
    Calls P f vs.toArray w fun e w' => ∃ v, e = .returned v ∧ ∃ s', K s' ∧ Rel c s' (a.put dst v) w'
def post (c : Cx) (Kn Kr : St → Prop) (Kx : Nat → St → Prop) : Exit → Act → World → Prop
  | .normal, a, w => ∃ s, Kn s ∧ Rel c s a w
  | .ret, a, w => ∃ s, Kr s ∧ Rel c s a w
  | .exit i, a, w => ∃ s, Kx i s ∧ Rel c s a w
  | _, _, _ => False
def loopVC (P : Program) (body : Code) (Kn Kr : St → Prop) (Kx : Nat → St → Prop) (s : St) : Prop :=
  ∀ c a w, Rel c s a w → (Code.loop body).wp P (post c Kn Kr Kx) a w
def drawVC (P : Program) (id : Nat) (ops : Array Oper) (K : St → Prop) (s : St) : Prop :=
  ∀ c a w, Rel c s a w → (Code.region id ops true).wp P (post c K (fun _ => False) (fun _ _ => False)) a w

def vcCall (P : Program) (f : A) (args : List A) (s : St) (dst : Option Nat) (K : St → Prop) : Prop :=
  match f with
  | .fn g caps => callVC P g (args ++ caps) s dst K
  | _ => False
def vcBuiltin (T : Ty) (b : Builtin) (ts : List Nat) (args : List A) (s : St) (dst : Option Nat) (K : St → Prop) : Prop :=
  match b, ts, args with
  | .len, [t], [a] => lenOk T t a ∧ match a.len? s.h with | some n => K (s.put dst (.int n)) | none => False
  | .append, [t, u], [a, x] => vcAppend T t u a x s fun r s' => K (s'.put dst r)
  | .min, _, [.d (.v (.int .i64 a)), .d (.v (.int .i64 b))] => K (s.put dst (.int (if b < a then b else a)))
  | .max, _, [.d (.v (.int .i64 a)), .d (.v (.int .i64 b))] => K (s.put dst (.int (if a < b then b else a)))
  | _, _, _ => False
/-- An operation, told by what it does. -/
def semVC (P : Program) (o : Op) (dst : Option Nat) (s : St) (K : St → Prop) : Prop :=
  ∀ (ty : TypeId) (pos : String) (after : Array Edge) (guard : Option (Nat × Bool)) (c : Cx) (a : Act) (w : World), Rel c s a w →
    ∀ (N : Act → World → Prop) (Q : Exit → Act → World → Prop), (∀ s' a' w', K s' → Rel c s' a' w' → N a' w') → (Oper.mk dst o ty pos after guard).wp P a w N Q
/-- Is it told by its own rule, not by what it does? -/
def semFree (t : List A) : Op → Bool
  | .slice _ x _ _ none => match opd t x with | .arr _ => false | _ => true
  | .move _ => true
  | .assign _ => true
  | .pick _ _ _ => true
  | .load _ _ => true
  | .nilCheck _ => true
  | .binOp _ _ _ _ _ => true
  | .unOp _ _ _ => true
  | .fieldAddr _ _ _ => true
  | .field _ _ _ => true
  | .indexAddr _ _ _ => true
  | .index _ _ _ => true
  | .build _ _ => true
  | .makeFunc (.func _) ⟨[]⟩ _ => true
  | .extract _ _ => true
  | .call ⟨.builtin .len, _, _⟩ => true
  | _ => false
/-- One operation. -/
def vcOp (P : Program) (T : Ty) (o : Op) (dst : Option Nat) (s : St) (K : St → Prop) : Prop :=
  match o with
  | .move x => K (s.put dst (opd s.t x))
  | .assign x => K (s.put dst (opd s.t x))
  | .pick c a b => match opd s.t c with
    | .d (.v (.bool t)) => (t = true → K (s.put dst (opd s.t a))) ∧ (t = false → K (s.put dst (opd s.t b)))
    | _ => False
  | .box t x => match (opd s.t x).cells? with
    | some l => K ((St.mk s.t (s.h ++ [.box t l]) s.p).put dst (.ref s.h.length 0))
    | none => False
  | .alloc t => match T t with
    | some i => K ((St.mk s.t (s.h ++ [.box t i.zero]) s.p).put dst (.ref s.h.length 0))
    | none => False
  | .load t x => vcLoad T t (opd s.t x) s.h fun r => K (s.put dst r)
  | .store t a x => vcStore T t (opd s.t a) (opd s.t x) s.h fun h => K ((St.mk s.t h s.p).put dst .any)
  | .nilCheck x => match opd s.t x with
    | .rptr l => K (s.put dst (.rptr l))
    | .ref k o => K (s.put dst (.ref k o))
    | .eptr k sz j o => K (s.put dst (.eptr k sz j o))
    | .fn f l => K (s.put dst (.fn f l))
    | _ => False
  | .binOp b t x y _ => vcBinT T b t (opd s.t x) (opd s.t y) fun r => K (s.put dst r)
  | .unOp u _ x => vcUn u (opd s.t x) fun r => K (s.put dst r)
  | .fieldAddr t x f => vcFieldAddr T t (opd s.t x) f fun r => K (s.put dst r)
  | .field t x f => vcField T t (opd s.t x) f fun r => K (s.put dst r)
  | .indexAddr t x i => vcIndexAddr T t (opd s.t x) (opd s.t i) s.h fun r => K (s.put dst r)
  | .index t x i => vcIndex T t (opd s.t x) (opd s.t i) fun r => K (s.put dst r)
  | .slice t x lo hi none => match opd s.t x with
    | .arr _ => semVC P (.slice t x lo hi none) dst s K
    | y => vcSlice T t y (lo.map (opd s.t)) (hi.map (opd s.t)) fun r => K (s.put dst r)
  | .build t parts => vcBuild T t (parts.toList.map fun p => (p.1, opd s.t p.2)) fun r => K (s.put dst r)
  | .buildSlice t n parts => vcBuildSlice T t n (parts.toList.map (·.1)) (parts.toList.map fun p => opd s.t p.2) s fun r s' => K (s'.put dst r)
  | .makeSlice t a b => vcMakeSlice T t (opd s.t a) (opd s.t b) s fun r s' => K (s'.put dst r)
  | .makeFunc (.func f) ⟨[]⟩ caps => K (s.put dst (.fn f (opds s.t caps.toList)))
  | .extract x i => match opd s.t x with
    | .tup l => ∃ y, l[i]? = some y ∧ K (s.put dst y)
    | _ => False
  | .call ⟨.builtin .copy, args, ts⟩ => semVC P (.call ⟨.builtin .copy, args, ts⟩) dst s K
  | .call ⟨.builtin .clear, args, ts⟩ => semVC P (.call ⟨.builtin .clear, args, ts⟩) dst s K
  | .call ⟨.builtin .cap, args, ts⟩ => semVC P (.call ⟨.builtin .cap, args, ts⟩) dst s K
  | .call ⟨.builtin .append, args, ts⟩ => match opds s.t args.toList with
    | [_, .d (.v (.string _))] => semVC P (.call ⟨.builtin .append, args, ts⟩) dst s K
    | l => vcBuiltin T .append ts.toList l s dst K
  | .call ⟨.builtin b, args, ts⟩ => vcBuiltin T b ts.toList (opds s.t args.toList) s dst K
  | .call ⟨.value f, args, _⟩ => vcCall P (opd s.t f) (opds s.t args.toList) s dst K
  | o => semVC P o dst s K
def vcGuard (ops : List Oper) (g : Option (Nat × Bool)) (s : St) (yes no : St → Prop) : Prop :=
  match g with
  | none => yes s
  | some (j, want) => match (ops[j]?).bind (·.dst) with
    | none => False
    | some d => match s.t.getD d .any with
      | .d (.v (.bool b)) => (b = want → yes ⟨s.t.set d (.bool want), s.h, s.p⟩) ∧ (b = !want → no ⟨s.t.set d (.bool !want), s.h, s.p⟩)
      | .tup [] => no s
      | _ => False
def vcOps (P : Program) (T : Ty) (ops : List Oper) : List Oper → St → (St → Prop) → Prop
  | [], s, K => K s
  | o :: r, s, K => vcGuard ops o.guard s (fun s => vcOp P T o.op o.dst s fun s => vcOps P T ops r s K) (fun s => vcOps P T ops r (s.put o.dst (.tup [])) K)
def vc (P : Program) (T : Ty) : Code → (Kn Kr : St → Prop) → (Kx : Nat → St → Prop) → St → Prop
  | .skip, Kn, _, _, s => Kn s
  | .region _ ops false, Kn, _, _, s => vcOps P T ops.toList ops.toList s Kn
  | .region id ops true, Kn, _, _, s => drawVC P id ops Kn s
  | .seq a b, Kn, Kr, Kx, s => vc P T a (fun s => vc P T b Kn Kr Kx s) Kr Kx s
  | .cond c a b, Kn, Kr, Kx, s => match opd s.t c with
    | .d (.v (.bool t)) => (t = true → vc P T a Kn Kr Kx s) ∧ (t = false → vc P T b Kn Kr Kx s)
    | _ => False
  | .block id c, Kn, Kr, Kx, s => vc P T c Kn Kr (fun i s => if i = id then Kn s else Kx i s) s
  | .exit id, _, _, Kx, s => Kx id s
  | .ret, _, Kr, _, s => Kr s
  | .loop c, Kn, Kr, Kx, s => loopVC P c Kn Kr Kx s
  | _, _, _, _, _ => False
end Go.Ab
/- Each operation does what its condition says: reading and reckoning. -/
namespace Go.Ab
open Go
set_option linter.unusedVariables false
set_option linter.unusedSimpArgs false
section lists
variable {w : World} {I : Im} {G : List Gh}
theorem VAs.len : ∀ {xs l}, VAs w I G xs l → xs.length = l.length
  | _, _, .nil => rfl
  | _, _, .cons _ h => by simp [h.len]
theorem VDs.len : ∀ {xs l}, VDs w I xs l → xs.length = l.length
  | _, _, .nil => rfl
  | _, _, .cons _ _ h => by simp [h.len]
theorem VAs.get : ∀ {xs l}, VAs w I G xs l → ∀ {i : Nat} {a}, l[i]? = some a → ∃ x, xs[i]? = some x ∧ VA w I G x a
  | _, _, .nil, i, a, h => by simp at h
  | _, _, .cons h1 h2, 0, a, h => by simp at h; subst h; exact ⟨_, rfl, h1⟩
  | _, _, .cons h1 h2, i + 1, a, h => by simpa using h2.get (by simpa using h)
theorem VAs.getx : ∀ {xs l}, VAs w I G xs l → ∀ {i : Nat} {x}, xs[i]? = some x → ∃ a, l[i]? = some a ∧ VA w I G x a
  | _, _, .nil, i, a, h => by simp at h
  | _, _, .cons h1 h2, 0, a, h => by simp at h; subst h; exact ⟨_, rfl, h1⟩
  | _, _, .cons h1 h2, i + 1, a, h => by simpa using h2.getx (by simpa using h)
theorem VDs.get : ∀ {xs l}, VDs w I xs l → ∀ {i : Nat} {a}, l[i]? = some a → ∃ x, xs[i]? = some x ∧ VD w I x a ∧ x.oneCell' = true
  | _, _, .nil, i, a, h => by simp at h
  | _, _, .cons h0 h1 h2, 0, a, h => by simp at h; subst h; exact ⟨_, rfl, h1, h0⟩
  | _, _, .cons h0 h1 h2, i + 1, a, h => by simpa using h2.get (by simpa using h)
theorem VAs.set : ∀ {xs l}, VAs w I G xs l → ∀ (i : Nat) {x a}, VA w I G x a → VAs w I G (xs.set i x) (l.set i a)
  | _, _, .nil, _, _, _, _ => .nil
  | _, _, .cons _ h2, 0, _, _, h => .cons h h2
  | _, _, .cons h1 h2, i + 1, _, _, h => .cons h1 (h2.set i h)
theorem VAs.append : ∀ {xs l ys m}, VAs w I G xs l → VAs w I G ys m → VAs w I G (xs ++ ys) (l ++ m)
  | _, _, _, _, .nil, h => h
  | _, _, _, _, .cons h1 h2, h => .cons h1 (h2.append h)
theorem VAs.take : ∀ {xs l}, VAs w I G xs l → ∀ n, VAs w I G (xs.take n) (l.take n)
  | _, _, .nil, n => by simp; exact .nil
  | _, _, .cons h1 h2, 0 => .nil
  | _, _, .cons h1 h2, n + 1 => .cons h1 (h2.take n)
theorem VAs.drop : ∀ {xs l}, VAs w I G xs l → ∀ n, VAs w I G (xs.drop n) (l.drop n)
  | _, _, .nil, n => by simp; exact .nil
  | _, _, .cons h1 h2, 0 => .cons h1 h2
  | _, _, .cons h1 h2, n + 1 => h2.drop n
theorem VDs.take : ∀ {xs l}, VDs w I xs l → ∀ n, VDs w I (xs.take n) (l.take n)
  | _, _, .nil, n => by simp; exact .nil
  | _, _, .cons h0 h1 h2, 0 => .nil
  | _, _, .cons h0 h1 h2, n + 1 => .cons h0 h1 (h2.take n)
theorem VDs.drop : ∀ {xs l}, VDs w I xs l → ∀ n, VDs w I (xs.drop n) (l.drop n)
  | _, _, .nil, n => by simp; exact .nil
  | _, _, .cons h0 h1 h2, 0 => .cons h0 h1 h2
  | _, _, .cons h0 h1 h2, n + 1 => h2.drop n
theorem VDs.one : ∀ {xs l}, VDs w I xs l → ∀ x ∈ xs, x.oneCell' = true
  | _, _, .nil, x, h => by cases h
  | _, _, .cons h0 h1 h2, x, h => by
    cases h with
    | head => exact h0
    | tail _ h => exact h2.one x h
theorem VDs.toA : ∀ {xs l}, VDs w I xs l → VAs w I G xs (l.map A.d)
  | _, _, .nil => .nil
  | _, _, .cons _ h1 h2 => .cons (.d h1) h2.toA
theorem VDc.get : ∀ {b off l}, VDc w I b off l → ∀ {i : Nat} {c}, l[i]? = some c → ∃ x, w.cell? ⟨b, off + i, none⟩ = some x ∧ I b (off + i) ∧ x.oneCell' = true ∧ VD w I x c
  | _, _, _, .nil _ _, i, c, h => by simp at h
  | _, _, _, .cons h1 h2 h3 h4 h5, 0, c, h => by simp at h; subst h; exact ⟨_, h1, h2, h3, h4⟩
  | _, off, _, .cons h1 h2 h3 h4 h5, i + 1, c, h => by
    obtain ⟨x, e⟩ := h5.get (i := i) (by simpa using h)
    rw [show off + 1 + i = off + (i + 1) by omega] at e
    exact ⟨x, e⟩
theorem VDc.drop : ∀ {b off l}, VDc w I b off l → ∀ n, n ≤ l.length → VDc w I b (off + n) (l.drop n)
  | _, _, _, .nil b off, n, h => by
    have : n = 0 := by simpa using h
    subst this; exact .nil b off
  | _, _, _, .cons h1 h2 h3 h4 h5, 0, _ => .cons h1 h2 h3 h4 h5
  | _, off, _, .cons h1 h2 h3 h4 h5, n + 1, h => by
    have := h5.drop n (by simpa using h)
    rw [show off + 1 + n = off + (n + 1) by omega] at this
    exact this
theorem VDc.take : ∀ {b off l}, VDc w I b off l → ∀ n, VDc w I b off (l.take n)
  | _, _, _, .nil b off, n => by simp; exact .nil b off
  | _, _, _, .cons h1 h2 h3 h4 h5, 0 => .nil _ _
  | _, _, _, .cons h1 h2 h3 h4 h5, n + 1 => .cons h1 h2 h3 h4 (h5.take n)
theorem VDc.append : ∀ {b off l m}, VDc w I b off l → VDc w I b (off + l.length) m → VDc w I b off (l ++ m)
  | _, _, _, _, .nil b off, h => by simpa using h
  | _, off, _, _, .cons (l := l) h1 h2 h3 h4 h5, h => .cons h1 h2 h3 h4 (h5.append (by
      simp only [List.length_cons] at h
      rw [show off + 1 + l.length = off + (l.length + 1) by omega]; exact h))
/-- The cells of a row that is read, as values. -/
theorem VDc.vals : ∀ {b off l}, VDc w I b off l → ∃ xs, VDs w I xs l ∧ ∀ (j : Nat) (v : Value), xs[j]? = some v → w.cell? ⟨b, off + j, none⟩ = some v
  | _, _, _, .nil _ _ => ⟨[], .nil, fun j v h => by simp at h⟩
  | _, off, _, .cons h1 h2 h3 h4 h5 => by
    obtain ⟨xs, e1, e2⟩ := h5.vals
    refine ⟨_ :: xs, .cons h3 h4 e1, fun j v h => ?_⟩
    cases j with
    | zero => simp at h; subst h; exact h1
    | succ j => rw [show off + (j + 1) = off + 1 + j by omega]; exact e2 j v (by simpa using h)
theorem VAc.get : ∀ {b off l}, VAc w I G b off l → ∀ {i : Nat} {c}, l[i]? = some c → ∃ x, w.cell? ⟨b, off + i, none⟩ = some x ∧ I b (off + i) ∧ x.oneCell' = true ∧ VA w I G x c
  | _, _, _, .nil _ _, i, c, h => by simp at h
  | _, _, _, .cons h1 h2 h3 h4 h5, 0, c, h => by simp at h; subst h; exact ⟨_, h1, h2, h3, h4⟩
  | _, off, _, .cons h1 h2 h3 h4 h5, i + 1, c, h => by
    obtain ⟨x, e⟩ := h5.get (i := i) (by simpa using h)
    rw [show off + 1 + i = off + (i + 1) by omega] at e
    exact ⟨x, e⟩
theorem VAc.vals : ∀ {b off l}, VAc w I G b off l → ∃ xs, VAs w I G xs l ∧ (∀ x ∈ xs, x.oneCell' = true) ∧ ∀ (j : Nat) (v : Value), xs[j]? = some v → w.cell? ⟨b, off + j, none⟩ = some v
  | _, _, _, .nil _ _ => ⟨[], .nil, (fun x h => (by cases h)), (fun j v h => (by simp at h))⟩
  | _, off, _, .cons h1 h2 h3 h4 h5 => by
    obtain ⟨xs, e1, e0, e2⟩ := h5.vals
    refine ⟨_ :: xs, .cons h4 e1, fun x hx => ?_, fun j v h => ?_⟩
    · cases hx with
      | head => exact h3
      | tail _ hx => exact e0 x hx
    · cases j with
      | zero => simp at h; subst h; exact h1
      | succ j => rw [show off + (j + 1) = off + 1 + j by omega]; exact e2 j v (by simpa using h)
/-- Data out of parts. -/
theorem unDs_spec : ∀ {l r}, unDs l = some r → l = r.map A.d
  | [], r, h => by simp [unDs] at h; subst h; rfl
  | .d x :: l, r, h => by
    simp only [unDs] at h
    split at h
    · rename_i r' e; cases h; simp [unDs_spec e]
    · cases h
  | .agg _ :: _, r, h | .tup _ :: _, r, h | .nil :: _, r, h | .sl _ _ :: _, r, h | .rptr _ :: _, r, h | .ref _ _ :: _, r, h | .own _ _ :: _, r, h | .arr _ :: _, r, h
  | .eptr _ _ _ _ :: _, r, h | .fn _ _ :: _, r, h | .mp _ :: _, r, h | .any :: _, r, h => by simp [unDs] at h
theorem VAs.unD : ∀ {xs r}, (∀ x ∈ xs, x.oneCell' = true) → VAs w I G xs (r.map A.d) → VDs w I xs r
  | [], [], _, _ => .nil
  | x :: xs, c :: r, h1, h => by
    cases h with
    | cons h2 h3 =>
      cases h2 with
      | d h2 => exact .cons (h1 x List.mem_cons_self) h2 (VAs.unD (fun y hy => h1 y (List.mem_cons_of_mem _ hy)) h3)
  | [], _ :: _, _, h => by cases h
  | _ :: _, [], _, h => by cases h
theorem VA.pack {xs : List Value} {l : List A} (h1 : ∀ x ∈ xs, x.oneCell' = true) (h : VAs w I G xs l) : VA w I G (.agg xs.toArray) (pack l) := by
  unfold Ab.pack
  split
  · rename_i r e
    rw [unDs_spec e] at h
    exact .d (.agg xs r (h.unD h1))
  · exact .agg xs l h h1
/-- The cells of a value. -/
theorem VA.cells {x : Value} {a : A} {c : List A} (h : VA w I G x a) (hc : a.cells? = some c) : VAs w I G x.cells.toList c ∧ (∀ y ∈ x.cells.toList, y.oneCell' = true) := by
  cases h with
  | d h =>
    cases h with
    | v x h1 => simp only [A.cells?] at hc; cases hc; cases x <;> simp_all [Value.cells, Value.oneCell', sc] <;> exact .cons (.d (.v _ rfl)) .nil
    | agg cs l h => simp only [A.cells?] at hc; cases hc; exact ⟨h.toA, h.one⟩
    | lnil => simp only [A.cells?] at hc; cases hc; exact ⟨.cons (.d .lnil) .nil, by simp [Value.cells, Value.oneCell']⟩
    | lemp a c => simp only [A.cells?] at hc; cases hc; exact ⟨.cons (.d (.lemp a c)) .nil, by simp [Value.cells, Value.oneCell']⟩
    | lst b off n cap l h1 h2 h3 => simp only [A.cells?] at hc; cases hc; exact ⟨.cons (.d (.lst b off n cap l h1 h2 h3)) .nil, by simp [Value.cells, Value.oneCell']⟩
  | agg cs l h h1 => simp only [A.cells?] at hc; cases hc; exact ⟨h, h1⟩
  | tup cs l h => simp [A.cells?] at hc
  | any x => simp [A.cells?] at hc
  | nil => simp only [A.cells?] at hc; cases hc; exact ⟨.cons .nil .nil, by simp [Value.cells, Value.oneCell']⟩
  | sl b n k l g h1 h2 h3 h4 => simp only [A.cells?] at hc; cases hc; exact ⟨.cons (.sl b n k l g h1 h2 h3 h4) .nil, by simp [Value.cells, Value.oneCell']⟩
  | rptr b off l h => simp only [A.cells?] at hc; cases hc; exact ⟨.cons (.rptr b off l h) .nil, by simp [Value.cells, Value.oneCell']⟩
  | ref b k off g h1 h2 => simp only [A.cells?] at hc; cases hc; exact ⟨.cons (.ref b k off g h1 h2) .nil, by simp [Value.cells, Value.oneCell']⟩
  | own k l g h1 h2 h3 =>
    simp only [A.cells?] at hc; cases hc
    cases h3 with
    | lnil => exact ⟨.cons (.own k _ g h1 h2 .lnil) .nil, by simp [Value.cells, Value.oneCell']⟩
    | lemp a c => exact ⟨.cons (.own k _ g h1 h2 (.lemp a c)) .nil, by simp [Value.cells, Value.oneCell']⟩
    | lst b off n cap l e1 e2 e3 => exact ⟨.cons (.own k _ g h1 h2 (.lst b off n cap l e1 e2 e3)) .nil, by simp [Value.cells, Value.oneCell']⟩
  | arr k g h1 h2 h3 => simp only [A.cells?] at hc; cases hc; cases x <;> simp_all [Value.cells, Value.oneCell'] <;> exact .cons (.arr k g h1 h2 rfl) .nil
  | eptr b k sz i off n c g h1 h2 => simp only [A.cells?] at hc; cases hc; exact ⟨.cons (.eptr b k sz i off n _ g h1 h2) .nil, by simp [Value.cells, Value.oneCell']⟩
  | fn f cs l h => simp only [A.cells?] at hc; cases hc; exact ⟨.cons (.fn f cs l h) .nil, by simp [Value.cells, Value.oneCell']⟩
  | mp r k g h1 h2 => simp only [A.cells?] at hc; cases hc; exact ⟨.cons (.mp r k g h1 h2) .nil, by simp [Value.cells, Value.oneCell']⟩
  | raw x h1 => simp only [A.cells?] at hc; cases hc; cases x <;> simp_all [Value.cells, Value.oneCell'] <;> exact .cons (.raw _ rfl) .nil
end lists
end Go.Ab
/- Operations that leave the world alone yield what their conditions say. -/
namespace Go.Ab
open Go
set_option linter.unusedVariables false
set_option linter.unusedSimpArgs false
section
variable {P : Program} {T : Ty} {w : World} {I : Im} {G : List Gh}
theorem VA.inv_v {x y : Value} (h : VA w I G x (.d (.v y))) : x = y := by
  cases h with
  | d h => cases h with
    | v => rfl
theorem VA.kon1 (v : Value) : VA w I G v (kon1 v) := by
  unfold Ab.kon1
  split
  · exact .nil
  · exact .any _
  · exact .any _
  · exact .any _
  · rename_i h0 h1 h2 h3
    refine .d (.v v ?_)
    cases v <;> first | rfl | (exfalso; first | exact h1 _ _ _ rfl | exact h2 _ rfl | exact h3 _ rfl)
theorem VAs.kons : ∀ l : List Value, VAs w I G l (kons l)
  | [] => .nil
  | v :: l => .cons (VA.kon1 v) (VAs.kons l)
theorem VA.kon (v : Value) : VA w I G v (kon v) := by
  unfold Ab.kon
  split
  · rename_i cs
    split
    · rename_i h
      have := VA.agg (w := w) (I := I) (G := G) cs.toList (kons cs.toList) (VAs.kons _) (List.all_eq_true.mp h)
      rwa [Array.toArray_toList] at this
    · exact .any _
  · exact VA.kon1 v
theorem VA.eval {a : Act} {t : List A} (h : VAs w I G a.tmps.toList t) (x : Operand) : VA w I G (a.eval x) (opd t x) := by
  cases x with
  | tmp i =>
    simp only [Act.eval, opd]
    by_cases hi : i < t.length
    · obtain ⟨y, e1, e2⟩ := h.get (i := i) (a := t[i]) (by simp [hi])
      have : a.tmps.getD i undef = y := by
        have := e1
        simp only [Array.getElem?_toList] at this
        simp [this]
      rw [this]
      simpa [hi] using e2
    · have e : t.getD i .any = .any := by rw [List.getD_eq_getElem?_getD, List.getElem?_eq_none (Nat.le_of_not_lt hi)]; rfl
      rw [e]
      exact .any _
  | const v => exact VA.kon v
  | global g => exact .any _
  | func f => exact .fn f [] [] .nil
theorem VAs.evals {a : Act} {t : List A} (h : VAs w I G a.tmps.toList t) : ∀ l : List Operand, VAs w I G (l.map a.eval) (opds t l)
  | [] => .nil
  | x :: l => .cons (VA.eval h x) (VAs.evals h l)
theorem VAs.evals' {a : Act} {t : List A} (h : VAs w I G a.tmps.toList t) : ∀ l : List Operand, VAs w I G (l.map a.eval) (l.map (opd t))
  | [] => .nil
  | x :: l => .cons (VA.eval h x) (VAs.evals' h l)

/-- All blocks of the one world stand in the other as they were. -/
def Ext (w w' : World) : Prop := ∀ (b : Nat) (x : Obj), w.heap[b]? = some x → w'.heap[b]? = some x
theorem Ext.refl (w : World) : Ext w w := fun _ _ h => h
theorem Ext.cell {w w' : World} (h : Ext w w') {a : Addr} {v : Value} (e : w.cell? a = some v) : w'.cell? a = some v := by
  unfold World.cell? at *
  cases hb : w.heap[a.block]? with
  | none => simp [hb] at e
  | some x => rw [hb] at e; rw [h _ _ hb]; exact e
/-- A computation that leaves the world alone and hands back a value of which K holds, the same in every world that has grown out of this one. -/
def Yields (P : Program) (w : World) (I : Im) (G : List Gh) (m : Sem Value) (K : A → Prop) : Prop := ∃ v r, (∀ w', Ext w w' → m.run P w' = .ok v w') ∧ VA w I G v r ∧ K r

theorem toList_eq (x y : ByteArray) : (x.toList == y.toList) = decide (x = y) := by
  rw [ByteArray.toList_eq, ByteArray.toList_eq, Bool.eq_iff_iff, beq_iff_eq, decide_eq_true_eq]
  constructor
  · intro h
    obtain ⟨⟨x⟩⟩ := x
    obtain ⟨⟨y⟩⟩ := y
    simp at h
    rw [h]
  · intro h; rw [h]
theorem yields_bin {op : BinOp} {t : Nat} {ox oy : Operand} {x y : Value} {a b : A} {K : A → Prop} (hx : VA w I G x a) (hy : VA w I G y b) (h : vcBin op a b K) :
    Yields P w I G (do eqGuard op t ox oy x y; binOp op t x y) K := by
  unfold vcBin at h
  split at h
  · rename_i k n k' m
    obtain rfl := hx.inv_v
    obtain rfl := hy.inv_v
    obtain ⟨rfl, h⟩ := h
    have hg : ∀ op (w : World), (eqGuard op t ox oy (.int k n) (.int k m)).run P w = .ok () w := fun op w => by cases op <;> simp [eqGuard]
    cases op <;> simp only at h <;> first
      | exact h.elim
      | (refine ⟨_, _, fun w' _ => ?_, .d (.v _ rfl), h⟩; simp only [Sem.run_bind, hg, Result.andThen_ok, binOp, Op.intArith, wr, ne_eq, not_true_eq_false, if_false, Sem.run_pure]; done)
      | (refine ⟨_, _, fun w' _ => ?_, .d (.v _ rfl), h.2⟩; simp only [Sem.run_bind, hg, Result.andThen_ok, binOp, Op.intDiv, h.1, wr, ne_eq, not_true_eq_false, if_false, Sem.run_pure]; done)
      | (refine ⟨_, _, fun w' _ => ?_, .d (.v _ rfl), h⟩; simp only [Sem.run_bind, hg, Result.andThen_ok, binOp, Op.intBits, ne_eq, not_true_eq_false, if_false, Sem.run_pure]; done)
      | (refine ⟨_, _, fun w' _ => ?_, .d (.v _ rfl), h⟩; simp only [Sem.run_bind, hg, Result.andThen_ok, binOp, Op.intCmp, ne_eq, not_true_eq_false, if_false, Sem.run_pure]; first | done | rfl | (congr 2; done) | (congr 2; simp [bne, BEq.beq]; done))
  · rename_i n m
    obtain rfl := hx.inv_v
    obtain rfl := hy.inv_v
    have hg : ∀ op (w : World), (eqGuard op t ox oy (.string n) (.string m)).run P w = .ok () w := fun op w => by cases op <;> simp [eqGuard]
    cases op <;> simp only at h <;> first
      | exact h.elim
      | (refine ⟨_, _, fun w' _ => ?_, .d (.v _ rfl), h⟩; simp only [Sem.run_bind, hg, Result.andThen_ok, binOp, Op.stringOp, Sem.run_pure, toList_eq]; done)
      | (have hs := h.1
         refine ⟨_, _, fun w' _ => ?_, .d (.v _ rfl), h.2⟩
         have : ¬ ((n.size + m.size : Nat) : Int) > IntKind.i64.max := by simp only [IntKind.max, IntKind.signed, IntKind.bits, if_true]; omega
         simp only [Sem.run_bind, hg, Result.andThen_ok, binOp, Op.stringOp, this, if_false, Sem.run_pure]; done)
  · exact h.elim
theorem yields_un {op : UnOp} {x : Value} {a : A} {K : A → Prop} (hx : VA w I G x a) (h : vcUn op a K) : Yields P w I G (Op.unary op x) K := by
  unfold vcUn at h
  split at h
  · obtain rfl := hx.inv_v
    exact ⟨_, _, (fun w' _ => by simp [Op.unary]), .d (.v _ rfl), h⟩
  · obtain rfl := hx.inv_v
    exact ⟨_, _, (fun w' _ => by simp [Op.unary, Op.intArith, wr]), .d (.v _ rfl), h⟩
  · exact h.elim

/-! ### Types, asked -/
theorem run_info {t : Nat} {i : TI} (h : TIOk P t i) : ∃ f, (typeInfo t).run P w = .ok f w ∧ f.size = i.sz ∧ f.bytes = i.bytes := by
  obtain ⟨f, z, h1, h2, h3, _⟩ := h
  exact ⟨f, by simp [typeInfo, h1], h2, h3⟩
theorem run_size {t : Nat} {i : TI} (h : TIOk P t i) : (sizeOf t).run P w = .ok i.sz w := by
  obtain ⟨f, h1, h2, _⟩ := run_info (w := w) h
  simp [sizeOf, h1, h2]
theorem run_under {t : Nat} {d : TypeDesc} (h : P.underlying t = some d) : (underlying t).run P w = .ok d w := by
  simp [underlying, h]
theorem isAgg_of {t : Nat} {d : TypeDesc} (h : P.underlying t = some d) (h1 : ∀ q, d ≠ .struct q) (h2 : ∀ n e, d ≠ .array n e) : (isAgg t).run P w = .ok false w := by
  simp only [isAgg, Sem.run_bind, run_under h, Result.andThen_ok]
  rfl
theorem isAgg_st {t : Nat} {q : Array Field} (h : P.underlying t = some (.struct q)) : (isAgg t).run P w = .ok true w := by
  simp only [isAgg, Sem.run_bind, run_under h, Result.andThen_ok]
  rfl
theorem run_isAgg {t : Nat} {i : TI} (h : TIOk P t i) : (isAgg t).run P w = .ok i.ag w := by
  obtain ⟨f, z, _, _, _, _, _, _, _, _, _, hk⟩ := h
  obtain ⟨k, sz, by_, ze⟩ := i
  cases k with
  | one => obtain ⟨_, d, e, e1, e2⟩ := hk; exact isAgg_of e e1 e2
  | boo => exact isAgg_of hk.2 (by intro q h; cases h) (by intro n e h; cases h)
  | str => exact isAgg_of hk.2 (by intro q h; cases h) (by intro n e h; cases h)
  | slc e => exact isAgg_of hk.2 (by intro q h; cases h) (by intro n e h; cases h)
  | st fs => obtain ⟨q, e, _⟩ := hk; exact isAgg_st e
  | mp k e => exact isAgg_of hk.2 (by intro q h; cases h) (by intro n e h; cases h)
theorem ag_one {t : Nat} {i : TI} (h : TIOk P t i) (ha : i.ag = false) : i.sz = 1 := by
  obtain ⟨f, z, _, _, _, _, _, _, _, _, _, hk⟩ := h
  obtain ⟨k, sz, by_, ze⟩ := i
  cases k with
  | one => exact hk.1
  | boo => exact hk.1
  | str => exact hk.1
  | slc e => exact hk.1
  | st fs => cases ha
  | mp k e => exact hk.1
theorem yields_binT (hT : TOk P T) {op : BinOp} {t : Nat} {ox oy : Operand} {x y : Value} {a b : A} {K : A → Prop} (hx : VA w I G x a) (hy : VA w I G y b) (h : vcBinT T op t a b K) :
    Yields P w I G (do eqGuard op t ox oy x y; binOp op t x y) K := by
  unfold vcBinT at h
  split at h
  · rename_i n m
    obtain rfl := hx.inv_v
    obtain rfl := hy.inv_v
    split at h
    · rename_i sz by_ z et
      obtain ⟨_, _, _, _, _, _, _, _, _, _, _, _, hu⟩ := hT t _ et
      have hg : ∀ op (w : World), (eqGuard op t ox oy (.bool n) (.bool m)).run P w = .ok () w := fun op w => by cases op <;> simp [eqGuard]
      have he : ∀ w : World, (Op.equal t (.bool n) (.bool m)).run P w = .ok (n == m) w := fun w => by
        have h1 : ∀ d, (Op.equalIn (d + 1) t (.bool n) (.bool m)).run P w = .ok (n == m) w := fun d => by
          rw [Op.equalIn]
          simp only [Sem.run_bind, run_under hu, Result.andThen_ok, Sem.run_pure]
        exact h1 9999
      split at h
      · refine ⟨_, _, fun w' _ => ?_, .d (.v _ rfl), h⟩
        simp only [Sem.run_bind, hg, Result.andThen_ok, binOp, he, Sem.run_pure]
      · refine ⟨_, _, fun w' _ => ?_, .d (.v _ rfl), h⟩
        simp only [Sem.run_bind, hg, Result.andThen_ok, binOp, he, Sem.run_pure]
      · exact h.elim
    · exact h.elim
  · exact yields_bin hx hy h
theorem add_at (b o j : Nat) : (⟨b, o, none⟩ : Addr).add j = ⟨b, o + j, none⟩ := by
  unfold Addr.add; split <;> simp_all
theorem run_loadVar_ag {t : Nat} {i : TI} (h : TIOk P t i) (ha : i.ag = true) {b off : Nat} {cs : List Value} (hl : cs.length = i.sz)
    (hc : ∀ (j : Nat) (v : Value), cs[j]? = some v → w.cell? ⟨b, off + j, none⟩ = some v) : (loadVar t ⟨b, off, none⟩).run P w = .ok (.agg cs.toArray) w := by
  have hr := run_loadCells_list (P := P) w ⟨b, off, none⟩ cs (fun j v hv => by rw [add_at]; exact hc j v hv)
  rw [hl] at hr
  simp [loadVar, run_isAgg h, ha, run_size h, hr]
theorem run_loadVar_one {t : Nat} {i : TI} (h : TIOk P t i) (ha : i.ag = false) {a : Addr} {v : Value} (hc : w.cell? a = some v) : (loadVar t a).run P w = .ok v w := by
  simp [loadVar, run_isAgg h, ha, hc]
theorem run_part_ag {t : Nat} {q : Array Field} {n : Nat} (hu : P.underlying t = some (.struct q)) (hs : P.cellsOf t = n) (hi : ∃ z, P.info? t = some z) (cs : Array Value) (off : Nat) :
    (part t cs off).run P w = .ok (.agg (cs.extract off (off + n))) w := by
  obtain ⟨z, hz⟩ := hi
  have : z.size = n := by simpa [Program.cellsOf, hz] using hs
  simp [part, isAgg_st hu, sizeOf, typeInfo, hz, this]
theorem fs_get : ∀ {fs : List Field} {is : List FI}, FsOk P fs is → ∀ {f : Nat} {i}, is[f]? = some i → ∃ fd, fs[f]? = some fd ∧ fd.offset = i.off ∧ P.cellsOf fd.type = i.sz ∧ i.sz ≠ 0 ∧
    (i.ag = true → (∃ q, P.underlying fd.type = some (.struct q))) ∧
    (i.ag = false → i.sz = 1 ∧ ∃ d, P.underlying fd.type = some d ∧ (∀ q, d ≠ .struct q) ∧ (∀ n e, d ≠ .array n e)) ∧ ∃ z, P.info? fd.type = some z
  | [], [], _, f, i, h => by simp at h
  | [], _ :: _, h, _, _, _ => h.elim
  | _ :: _, [], h, _, _, _ => h.elim
  | fd :: fs, j :: is, h, 0, i, hi => by
    simp at hi; subst hi
    obtain ⟨⟨h1, h2, h3, h4, h5, h6⟩, _⟩ := h
    exact ⟨fd, rfl, h1, h2, h3, h4, h5, h6⟩
  | fd :: fs, j :: is, h, f + 1, i, hi => by
    obtain ⟨fd', e⟩ := fs_get h.2 (f := f) (by simpa using hi)
    exact ⟨fd', by simpa using e.1, e.2⟩
theorem field_of (hT : TOk P T) {t f : Nat} {i : FI} (h : fieldOf T t f = some i) : ∃ q fd, P.underlying t = some (.struct q) ∧ q[f]? = some fd ∧ fd.offset = i.off ∧ P.cellsOf fd.type = i.sz ∧ i.sz ≠ 0 ∧
    (i.ag = true → (∃ q, P.underlying fd.type = some (.struct q))) ∧
    (i.ag = false → i.sz = 1 ∧ ∃ d, P.underlying fd.type = some d ∧ (∀ q, d ≠ .struct q) ∧ (∀ n e, d ≠ .array n e)) ∧ ∃ z, P.info? fd.type = some z := by
  unfold fieldOf at h
  split at h
  · rename_i fs sz by_ z e
    obtain ⟨_, _, _, _, _, _, _, _, _, _, _, q, hu, hf⟩ := hT t _ e
    obtain ⟨fd, h1, h2⟩ := fs_get hf h
    exact ⟨q, fd, hu, by simpa using h1, h2⟩
  · cases h
theorem yields_partD {i : FI} {b o : Nat} {l : List D} {t : Nat} {ti : TI} {K : A → Prop} (hT : TIOk P t ti) (hs : ti.sz = i.sz) (ha : ti.ag = i.ag) (hl : VDc w I b o l) (h : partD i l K) :
    Yields P w I G (loadVar t ⟨b, o + i.off, none⟩) K := by
  unfold partD at h
  split at h
  · rename_i e
    obtain ⟨h1, h2⟩ := h
    obtain ⟨xs, e1, e2⟩ := ((hl.drop i.off (by omega)).take i.sz).vals
    refine ⟨_, _, fun w' hw => run_loadVar_ag hT (ha.trans e) (cs := xs) (by rw [e1.len, hs]; simp; omega) (fun j v hv => hw.cell (e2 j v hv)), .d (.agg xs _ e1), h2⟩
  · rename_i e
    obtain ⟨x, h1, h2⟩ := h
    obtain ⟨y, e1, _, _, e4⟩ := hl.get h1
    exact ⟨y, _, (fun w' hw => run_loadVar_one hT (ha.trans e) (hw.cell e1)), .d e4, h2⟩
theorem yields_partA {i : FI} {b o : Nat} {l : List A} {t : Nat} {ti : TI} {K : A → Prop} {cs : List Value} (hT : TIOk P t ti) (hs : ti.sz = i.sz) (ha : ti.ag = i.ag) (hl : VAs w I G cs l)
    (h1 : ∀ x ∈ cs, x.oneCell' = true) (hc : ∀ (j : Nat) (v : Value), cs[j]? = some v → w.cell? ⟨b, o + j, none⟩ = some v) (h : partA i l K) :
    Yields P w I G (loadVar t ⟨b, o + i.off, none⟩) K := by
  unfold partA at h
  split at h
  · rename_i e
    obtain ⟨h2, h3⟩ := h
    have hv := (hl.drop i.off).take i.sz
    refine ⟨_, _, fun w' hw => run_loadVar_ag hT (ha.trans e) (cs := (cs.drop i.off).take i.sz) (by have := hl.len; simp; omega) (fun j v hv => ?_), VA.pack (fun x hx => h1 x (List.mem_of_mem_drop (List.mem_of_mem_take hx))) hv, h3⟩
    rw [List.getElem?_take] at hv
    split at hv
    · rw [Nat.add_assoc]; exact hw.cell (hc _ v (by simpa using hv))
    · cases hv
  · rename_i e
    obtain ⟨x, h2, h3⟩ := h
    obtain ⟨y, e1, e2⟩ := hl.get h2
    exact ⟨y, _, (fun w' hw => run_loadVar_one hT (ha.trans e) (hw.cell (hc _ _ e1))), e2, h3⟩
theorem Yields.mono {m : Sem Value} {K K' : A → Prop} (h : Yields P w I G m K) (hk : ∀ r, K r → K' r) : Yields P w I G m K' :=
  let ⟨v, r, h1, h2, h3⟩ := h; ⟨v, r, h1, h2, hk r h3⟩
theorem RelH.get {h : List O} (hh : RelH w I G h) {k : Nat} {o : O} (e : h[k]? = some o) : ∃ g, G[k]? = some g ∧ ObjR w I G g o := by
  have hk : k < G.length := by rw [hh.len]; exact (List.getElem?_eq_some_iff.1 e).1
  exact ⟨G[k], by simp [hk], hh.obj k _ o (by simp [hk]) e⟩
theorem cell_in {b : Nat} {cs : Array Value} {t : Nat} (h : w.heap[b]? = some (.cells cs t (0, 0))) (j : Nat) : w.cell? ⟨b, j, none⟩ = cs[j]? := cell_of_row w b j cs t (0, 0) h
theorem flat_get {sz : Nat} : ∀ {l : List A}, (∀ x ∈ l, x.cells.length = sz) → ∀ {j : Nat} {x : A}, l[j]? = some x → ((l.flatMap A.cells).drop (j * sz)).take sz = x.cells
  | [], _, j, x, h => by simp at h
  | y :: l, hs, 0, x, h => by
    simp at h; subst h
    have := hs y List.mem_cons_self
    simp [← this]
  | y :: l, hs, j + 1, x, h => by
    have hy := hs y List.mem_cons_self
    have ih := flat_get (fun z hz => hs z (List.mem_cons_of_mem _ hz)) (j := j) (x := x) (by simpa using h)
    rw [List.flatMap_cons, List.drop_append, hy]
    rw [List.drop_eq_nil_of_le (by rw [hy, Nat.add_mul]; omega), List.nil_append, show (j + 1) * sz - sz = j * sz by rw [Nat.add_mul]; omega]
    exact ih
theorem flat_getD {sz : Nat} : ∀ {l : List D}, Flat sz l → ∀ {j : Nat} {x : D}, l[j]? = some x → ((l.flatMap D.cells).drop (j * sz)).take sz = x.cells ∧ (j + 1) * sz ≤ (l.flatMap D.cells).length
  | [], _, j, x, h => by simp at h
  | y :: l, hs, 0, x, h => by
    simp at h; subst h
    have := hs y List.mem_cons_self
    simp [← this]
  | y :: l, hs, j + 1, x, h => by
    have hy := hs y List.mem_cons_self
    have ih := flat_getD (fun z hz => hs z (List.mem_cons_of_mem _ hz)) (j := j) (x := x) (by simpa using h)
    rw [List.flatMap_cons, List.drop_append, hy]
    rw [List.drop_eq_nil_of_le (by rw [hy, Nat.add_mul]; omega), List.nil_append, show (j + 1) * sz - sz = j * sz by rw [Nat.add_mul]; omega]
    refine ⟨ih.1, ?_⟩
    rw [List.length_append, hy, show (j + 1 + 1) * sz = sz + (j + 1) * sz by rw [Nat.add_mul (j + 1)]; omega]
    have := ih.2
    omega
theorem flat_getx {sz : Nat} {l : List A} (hs : ∀ x ∈ l, x.cells.length = sz) {j : Nat} {x : A} (h : l[j]? = some x) (r : List A) : ((l.flatMap A.cells ++ r).drop (j * sz)).take sz = x.cells := by
  have h1 := flat_get hs h
  have h2 : ((l.flatMap A.cells).drop (j * sz)).length ≥ sz := by
    have := hs x (List.mem_of_getElem? h)
    have h3 := congrArg List.length h1
    rw [List.length_take, this] at h3; omega
  have h4 : j * sz ≤ (l.flatMap A.cells).length := by
    rw [List.length_drop] at h2
    rcases Nat.eq_zero_or_pos sz with e | e
    · subst e; omega
    · omega
  rw [List.drop_append_of_le_length h4, List.take_append_of_le_length h2, h1]
theorem yields_load (hT : TOk P T) {h : List O} (hh : RelH w I G h) {t : Nat} {x : Value} {a : A} {K : A → Prop} (hx : VA w I G x a) (hk : vcLoad T t a h K) : Yields P w I G (Instr.loadAt t x) K := by
  unfold vcLoad at hk
  split at hk
  · exact hk.elim
  · rename_i i ei
    have hti := hT t i ei
    split at hk
    · rename_i l
      cases hx with
      | rptr b off l hl =>
        have := yields_partD (G := G) hti rfl rfl hl hk
        obtain ⟨v, r, h1, h2, h3⟩ := this
        exact ⟨v, r, (fun w' hw => by simpa [Instr.loadAt, Instr.sureAddr] using h1 w' hw), h2, h3⟩
    · rename_i k o
      cases hx with
      | ref b k off g hg hr =>
        split at hk
        · rename_i u l e
          obtain ⟨g', hg', b', cs, e1, e2, e3, e4, _⟩ := hh.get e
          rw [hg] at hg'; cases hg'
          rw [hr] at e1; cases e1
          have := yields_partA (b := b) (o := 0) hti rfl rfl e3 e4 (fun j v hv => by rw [Nat.zero_add, cell_in e2]; simpa using hv) hk
          obtain ⟨v, r, h1, h2, h3⟩ := this
          exact ⟨v, r, (fun w' hw => by simpa [Instr.loadAt, Instr.sureAddr] using h1 w' hw), h2, h3⟩
        · exact hk.elim
    · rename_i k sz j o
      cases hx with
      | eptr b k sz j o n c g hg hr =>
        split at hk
        · rename_i u sz' l e
          obtain ⟨rfl, hj, hle, hk⟩ := hk
          obtain ⟨g', hg', b', cs, e1, e2, e3, e4, e5, _⟩ := hh.get e
          rw [hg] at hg'; cases hg'
          rw [hr] at e1; cases e1
          have hlj : l[j]? = some l[j] := by simp [hj]
          have hfl := flat_get e5 hlj
          have hv := (e3.drop (j * sz)).take sz
          rw [hfl] at hv
          have := yields_partA (b := b) (o := j * sz) hti rfl rfl hv (fun x hx => e4 x (List.mem_of_mem_drop (List.mem_of_mem_take hx)))
            (fun m v hv => by
              rw [cell_in e2]
              rw [List.getElem?_take] at hv
              split at hv
              · simpa using hv
              · cases hv) (hk _ hlj)
          obtain ⟨v, r, h1, h2, h3⟩ := this
          exact ⟨v, r, (fun w' hw => by simpa [Instr.loadAt, Instr.sureAddr] using h1 w' hw), h2, h3⟩
        · rename_i r u sz' l e
          obtain ⟨rfl, hj, hle, hk⟩ := hk
          obtain ⟨g', hg', hroot, b', cs, t', sp, cap, e1, ecap, e2, e3, e4, e5, _⟩ := hh.get e
          rw [hg] at hg'; cases hg'
          rw [hr, e1] at hroot; cases hroot
          have hlj : l[j]? = some l[j] := by simp [hj]
          have hfl := flat_getx e5 hlj (List.replicate sp .any)
          have hv := (e3.drop (j * sz)).take sz
          rw [hfl] at hv
          have := yields_partA (b := b) (o := j * sz) hti rfl rfl hv (fun x hx => by
              obtain ⟨m, hm⟩ := List.mem_iff_getElem?.1 hx
              rw [List.getElem?_take] at hm
              split at hm
              · rename_i hlt
                rw [List.getElem?_drop] at hm
                exact e4 (j * sz + m) x (by have : j * sz + sz ≤ l.length * sz := by rw [← Nat.succ_mul]; exact Nat.mul_le_mul_right _ hj
                                            omega) (by simpa using hm)
              · cases hm)
            (fun m v hv => by
              rw [cell_in e2]
              rw [List.getElem?_take] at hv
              split at hv
              · simpa using hv
              · cases hv) (hk _ hlj)
          obtain ⟨v, r, h1, h2, h3⟩ := this
          exact ⟨v, r, (fun w' hw => by simpa [Instr.loadAt, Instr.sureAddr] using h1 w' hw), h2, h3⟩
        · exact hk.elim
    · exact hk.elim
end
end Go.Ab
/- Fields, places, cuts. -/
namespace Go.Ab
open Go
set_option linter.unusedVariables false
set_option linter.unusedSimpArgs false
section
variable {P : Program} {T : Ty} {w : World} {I : Im} {G : List Gh}
theorem VDs.extract {xs : List Value} {l : List D} (h : VDs w I xs l) (a n : Nat) : VDs w I ((xs.toArray.extract a (a + n)).toList) ((l.drop a).take n) := by
  have : (xs.toArray.extract a (a + n)).toList = (xs.drop a).take n := by
    simp [List.extract_eq_take_drop]
  rw [this]
  exact (h.drop a).take n
theorem VAs.extract {xs : List Value} {l : List A} (h : VAs w I G xs l) (a n : Nat) : VAs w I G ((xs.toArray.extract a (a + n)).toList) ((l.drop a).take n) := by
  have : (xs.toArray.extract a (a + n)).toList = (xs.drop a).take n := by
    simp [List.extract_eq_take_drop]
  rw [this]
  exact (h.drop a).take n
theorem VDs.toE {xs : List Value} {l : List D} (h : VDs w I xs l) : VD w I (.agg xs.toArray) (.agg l) := .agg xs l h
theorem VDs.toE' {xs : Array Value} {l : List D} (h : VDs w I xs.toList l) : VD w I (.agg xs) (.agg l) := by
  have := VD.agg xs.toList l h
  rwa [Array.toArray_toList] at this
theorem VA.pack' {xs : Array Value} {l : List A} (h1 : ∀ x ∈ xs.toList, x.oneCell' = true) (h : VAs w I G xs.toList l) : VA w I G (.agg xs) (Ab.pack l) := by
  have := VA.pack h1 h
  rwa [Array.toArray_toList] at this
theorem yields_field (hT : TOk P T) {t f : Nat} {x : Value} {a : A} {K : A → Prop} (hx : VA w I G x a) (hk : vcField T t a f K) : Yields P w I G (Instr.field t x f) K := by
  unfold vcField at hk
  split at hk
  · rename_i i l e
    obtain ⟨q, fd, hu, hf, ho, hs, h0, hag, hon, hin⟩ := field_of hT e
    cases hx with
    | d hx => cases hx with
      | agg cs l hl =>
        have hr : ∀ w : World, (Instr.field t (.agg cs.toArray) f).run P w = (part fd.type cs.toArray fd.offset).run P w := fun w => by
          simp [Instr.field, run_under hu, hf, asAgg]
        unfold partD at hk
        split at hk
        · rename_i ea
          obtain ⟨q', hq'⟩ := hag ea
          refine ⟨_, _, fun w' _ => (hr w').trans (run_part_ag hq' hs hin _ _), .d (VDs.toE' ?_), hk.2⟩
          rw [ho]; exact hl.extract _ _
        · rename_i ea
          obtain ⟨y, hy, hk⟩ := hk
          obtain ⟨_, d, hd, hd1, hd2⟩ := hon ea
          obtain ⟨v, e1, e2, _⟩ := hl.get hy
          refine ⟨v, _, fun w' _ => ?_, .d e2, hk⟩
          rw [hr]
          simp [part, isAgg_of hd hd1 hd2, ho, e1]
  · rename_i i l e
    obtain ⟨q, fd, hu, hf, ho, hs, h0, hag, hon, hin⟩ := field_of hT e
    cases hx with
    | agg cs l hl h1 =>
      have hr : ∀ w : World, (Instr.field t (.agg cs.toArray) f).run P w = (part fd.type cs.toArray fd.offset).run P w := fun w => by
        simp [Instr.field, run_under hu, hf, asAgg]
      unfold partA at hk
      split at hk
      · rename_i ea
        obtain ⟨q', hq'⟩ := hag ea
        refine ⟨_, _, fun w' _ => (hr w').trans (run_part_ag hq' hs hin _ _), VA.pack' (fun x hx => ?_) (by rw [ho]; exact hl.extract _ _), hk.2⟩
        have : x ∈ (cs.drop fd.offset).take i.sz := by
          simpa [List.extract_eq_take_drop] using hx
        exact h1 x (List.mem_of_mem_drop (List.mem_of_mem_take this))
      · rename_i ea
        obtain ⟨y, hy, hk⟩ := hk
        obtain ⟨_, d, hd, hd1, hd2⟩ := hon ea
        obtain ⟨v, e1, e2⟩ := hl.get hy
        refine ⟨v, _, fun w' _ => ?_, e2, hk⟩
        rw [hr]
        simp [part, isAgg_of hd hd1 hd2, ho, e1]
  · exact hk.elim
theorem run_fieldAt (hT : TOk P T) {t f : Nat} {i : FI} (e : fieldOf T t f = some i) (b o : Nat) : (Instr.fieldAt t (.pointer (some ⟨b, o, none⟩)) f).run P w = .ok (.pointer (some ⟨b, o + i.off, none⟩)) w := by
  obtain ⟨q, fd, hu, hf, ho, hs, h0, hag, hon, z, hz⟩ := field_of hT e
  have hsz : z.size = i.sz := by simpa [Program.cellsOf, hz] using hs
  have hpl : (fieldPlace ⟨b, o, none⟩ fd).run P w = .ok ⟨b, o + i.off, none⟩ w := by
    simp [fieldPlace, sizeOf, typeInfo, hz, hsz, h0, ho, add_at]
  simp [Instr.fieldAt, run_under hu, hf, Instr.sureAddr, hpl]
theorem yields_fieldAddr (hT : TOk P T) {t f : Nat} {x : Value} {a : A} {K : A → Prop} (hx : VA w I G x a) (hk : vcFieldAddr T t a f K) : Yields P w I G (Instr.fieldAt t x f) K := by
  unfold vcFieldAddr at hk
  split at hk
  · rename_i i l e
    cases hx with
    | rptr b off l hl => exact ⟨_, _, (fun w' _ => run_fieldAt hT e b off), .rptr b _ _ (hl.drop i.off hk.1), hk.2⟩
  · rename_i i k o e
    cases hx with
    | ref b k o' g h1 h2 => exact ⟨_, _, (fun w' _ => run_fieldAt hT e b _), VA.ref b _ _ g h1 h2, hk⟩
  · rename_i i k sz j o e
    cases hx with
    | eptr b k sz j off n c g h1 h2 =>
      refine ⟨_, _, fun w' _ => run_fieldAt hT e _ _, ?_, hk⟩
      rw [Nat.add_assoc]
      exact VA.eptr b _ _ _ _ n c g h1 h2
  · exact hk.elim
/-- A row that is read. -/
theorem VD.row {x : Value} {l : List D} (h : VD w I x (.lst l)) : ∃ A c, x = .slice A l.length c ∧ l.length ≤ c ∧ (∀ b o s, A = some ⟨b, o, s⟩ → (s = none ∨ l = []) ∧ VDc w I b o (l.flatMap D.cells)) ∧ (A = none → l = []) := by
  cases h with
  | lnil => exact ⟨none, 0, rfl, Nat.le_refl _, (fun b o s h => (by cases h)), fun _ => rfl⟩
  | lemp a c => exact ⟨some a, c, rfl, Nat.zero_le _, (fun b o s h => ⟨.inr rfl, .nil _ _⟩), fun h => (by cases h)⟩
  | lst b off n cap l h1 h2 h3 => subst h1; exact ⟨_, cap, rfl, h2, (fun b o s h => (by cases h; exact ⟨.inl rfl, h3⟩)), fun h => (by cases h)⟩
theorem toDs_cells : ∀ {cs : List Value} {l : List A} {r : List D}, (∀ x ∈ cs, x.oneCell' = true) → VAs w I G cs l → toDs? l = some r → VDs w I cs r
  | _, _, r, _, .nil, h => by simp [toDs?] at h; subst h; exact .nil
  | x :: xs, a :: l, r, h1, .cons h2 h3, h => by
    simp only [toDs?] at h
    split at h
    · rename_i y q e1 e2
      cases h
      refine .cons (h1 x List.mem_cons_self) ?_ (toDs_cells (fun z hz => h1 z (List.mem_cons_of_mem _ hz)) h3 e2)
      cases h2 with
      | d h2 => simp only [A.toD?] at e1; cases e1; exact h2
      | own k l g _ _ h4 => simp only [A.toD?] at e1; cases e1; exact h4
      | nil => simp only [A.toD?] at e1; cases e1; exact .lnil
      | _ => simp [A.toD?] at e1
    · cases h
theorem toD_val {x : Value} {a : A} {c : D} (h : VA w I G x a) (e : a.toD? = some c) : VD w I x c := by
  cases h with
  | d h2 => simp only [A.toD?] at e; cases e; exact h2
  | own k l g _ _ h4 => simp only [A.toD?] at e; cases e; exact h4
  | nil => simp only [A.toD?] at e; cases e; exact .lnil
  | _ => simp [A.toD?] at e
theorem toDs_len : ∀ {l : List A} {r : List D}, toDs? l = some r → l.length = r.length
  | [], r, h => by simp [toDs?] at h; subst h; rfl
  | a :: l, r, h => by
    simp only [toDs?] at h
    split at h
    · rename_i y q e1 e2; cases h; simp [toDs_len e2]
    · cases h
theorem toEs_len : ∀ {l : List A} {r : List D}, toEs? l = some r → l.length = r.length
  | [], r, h => by simp [toEs?] at h; subst h; rfl
  | a :: l, r, h => by
    simp only [toEs?] at h
    split at h
    · rename_i y q e1 e2; cases h; simp [toEs_len e2]
    · cases h
theorem toE_cells {a : A} {c : D} (e : a.toE? = some c) : toDs? a.cells = some c.cells := by
  cases a with
  | agg l =>
    simp only [A.toE?] at e
    split at e
    · rename_i r e1; cases e; simpa [A.cells, D.cells] using e1
    · cases e
  | d x =>
    simp only [A.toE?, A.toD?] at e; cases e
    cases c with
    | agg l =>
      simp only [A.cells, D.cells]
      induction l with
      | nil => rfl
      | cons y l ih => simp only [List.map_cons, toDs?, A.toD?, ih]
    | v x => simp [A.cells, D.cells, toDs?, A.toD?]
    | lst x => simp [A.cells, D.cells, toDs?, A.toD?]
  | own k l => simp only [A.toE?, A.toD?] at e; cases e; simp [A.cells, D.cells, toDs?, A.toD?]
  | nil => simp only [A.toE?, A.toD?] at e; cases e; simp [A.cells, D.cells, toDs?, A.toD?]
  | _ => simp [A.toE?, A.toD?] at e
theorem toDs_append : ∀ {l m : List A} {r s : List D}, toDs? l = some r → toDs? m = some s → toDs? (l ++ m) = some (r ++ s)
  | [], m, r, s, h, h2 => by simp [toDs?] at h; subst h; simpa using h2
  | a :: l, m, r, s, h, h2 => by
    simp only [toDs?] at h
    split at h
    · rename_i y q e1 e2; cases h
      simp only [List.cons_append, toDs?, e1, toDs_append e2 h2]
    · cases h
theorem toEs_cells : ∀ {l : List A} {r : List D}, toEs? l = some r → toDs? (l.flatMap A.cells) = some (r.flatMap D.cells)
  | [], r, h => by simp [toEs?] at h; subst h; rfl
  | a :: l, r, h => by
    simp only [toEs?] at h
    split at h
    · rename_i y q e1 e2; cases h
      simp only [List.flatMap_cons]
      exact toDs_append (toE_cells e1) (toEs_cells e2)
    · cases h
theorem VAc.toD : ∀ {b off} {l : List A} {r : List D}, VAc w I G b off l → toDs? l = some r → VDc w I b off r
  | _, _, _, r, .nil b off, h => by simp [toDs?] at h; subst h; exact .nil b off
  | _, _, _, r, .cons h1 h2 h3 h4 h5, h => by
    simp only [toDs?] at h
    split at h
    · rename_i y q e1 e2; cases h
      exact .cons h1 h2 h3 (toD_val h4 e1) (h5.toD e2)
    · cases h
theorem VA.row {x : Value} {a : A} {l : List D} (h : VA w I G x a) (e : a.row? = some l) : VD w I x (.lst l) := by
  cases h with
  | d h =>
    cases h with
    | v x h => simp [A.row?] at e
    | agg cs l h => simp [A.row?] at e
    | lnil => simp only [A.row?] at e; cases e; exact .lnil
    | lemp a c => simp only [A.row?] at e; cases e; exact .lemp a c
    | lst b off n cap l h1 h2 h3 => simp only [A.row?] at e; cases e; exact .lst b off n cap l h1 h2 h3
  | own k l g h1 h2 h3 => simp only [A.row?] at e; cases e; exact h3
  | nil => simp only [A.row?] at e; cases e; exact .lnil
  | sl b n k l g h1 h2 h3 h4 =>
    simp only [A.row?] at e
    refine .lst b 0 n n _ (h3.trans (toEs_len e)) (Nat.le_refl _) (h4.toD (toEs_cells e))
  | _ => simp [A.row?] at e
theorem run_indexAt {t e : Nat} {ie : TI} (hu : P.underlying t = some (.slice e)) (hie : TIOk P e ie) {b o len cap : Nat} {k : IntKind} {n : Int} (h0 : 0 ≤ n) (h1 : n < len) :
    (Instr.indexAt t (.slice (some ⟨b, o, none⟩) len cap) (.int k n)).run P w = .ok (.pointer (some ⟨b, o + n.toNat * ie.sz, none⟩)) w := by
  simp [Instr.indexAt, asIntOf, run_under hu, h0, h1, run_size hie, add_at]
theorem yields_indexAddr (hT : TOk P T) {h : List O} (hh : RelH w I G h) {t : Nat} {x y : Value} {a i : A} {K : A → Prop} (hx : VA w I G x a) (hy : VA w I G y i) (hk : vcIndexAddr T t a i h K) :
    Yields P w I G (Instr.indexAt t x y) K := by
  unfold vcIndexAddr at hk
  split at hk
  · rename_i e sz by_ z k n et
    obtain ⟨_, _, _, _, _, _, _, _, _, _, _, _, hu⟩ := hT t _ et
    obtain rfl := hy.inv_v
    split at hk
    · rename_i ie kk ee
      cases hx with
      | arr kk g hg hr h1 =>
        split at hk
        · rename_i u sz' l e'
          obtain ⟨rfl, ⟨h0, h1⟩, hk⟩ := hk
          obtain ⟨g', hg', b, cs, e1, e2, _⟩ := hh.get e'
          rw [hg] at hg'; cases hg'
          rw [← hr, e1]
          refine ⟨_, _, fun w' _ => run_indexAt hu (hT _ _ ee) h0 h1, ?_, hk⟩
          have := VA.eptr (w := w) (I := I) b kk ie.sz n.toNat 0 _ _ g hg e1
          rwa [Nat.add_zero, ← Nat.zero_add (n.toNat * ie.sz)] at this
        · rename_i r u sz' l e'
          obtain ⟨rfl, ⟨h0, h1⟩, hk⟩ := hk
          obtain ⟨g', hg', hroot, b, cs, t', sp, cap, e1, ecap, e2, _⟩ := hh.get e'
          rw [hg] at hg'; cases hg'
          rw [← hr, hroot, e1]
          refine ⟨_, _, fun w' _ => run_indexAt hu (hT _ _ ee) h0 h1, ?_, hk⟩
          have := VA.eptr (w := w) (I := I) b kk ie.sz n.toNat 0 _ _ g hg (hroot.trans e1)
          rwa [Nat.add_zero, ← Nat.zero_add (n.toNat * ie.sz)] at this
        · exact hk.elim
    · rename_i ie a' ee hna
      split at hk
      · rename_i l el
        obtain ⟨⟨h0, h1⟩, hf, hk⟩ := hk
        obtain ⟨AA, c, rfl, hc, hA, hn⟩ := (hx.row el).row
        have hlt : n.toNat < l.length := by omega
        have hget : l[n.toNat]? = some l[n.toNat] := by simp [hlt]
        cases AA with
        | none => have := hn rfl; subst this; simp at hlt
        | some ad =>
          obtain ⟨b, o, s⟩ := ad
          obtain ⟨hs, hcells⟩ := hA b o s rfl
          obtain rfl : s = none := hs.elim id fun h => by subst h; simp at hlt
          have hfl := flat_getD hf hget
          refine ⟨_, _, fun w' _ => run_indexAt hu (hT _ _ ee) h0 h1, ?_, hk _ hget⟩
          rw [← hfl.1]
          exact .rptr _ _ _ ((hcells.drop _ (by have := hfl.2; rw [Nat.add_mul] at this; omega)).take _)
      · exact hk.elim
    · exact hk.elim
  · exact hk.elim
theorem yields_index (hT : TOk P T) {t : Nat} {x y : Value} {a i : A} {K : A → Prop} (hx : VA w I G x a) (hy : VA w I G y i) (hk : vcIndex T t a i K) : Yields P w I G (Instr.index t x y) K := by
  unfold vcIndex at hk
  split at hk
  · rename_i sz by_ z s k n et
    obtain ⟨_, _, _, _, _, _, _, _, _, _, _, _, hu⟩ := hT t _ et
    obtain rfl := hx.inv_v
    obtain rfl := hy.inv_v
    obtain ⟨⟨h0, h1⟩, hk⟩ := hk
    have hlt : n.toNat < s.data.size := by have : s.data.size = s.size := rfl; omega
    have hget : s.data[n.toNat]? = some s.data[n.toNat] := by simp
    have hs : s[n.toNat]? = some s.data[n.toNat] := by
      have : n.toNat < s.size := by omega
      simp [this]; rfl
    refine ⟨_, _, fun w' _ => ?_, .d (.v _ rfl), hk _ hget⟩
    simp [Instr.index, asIntOf, run_under hu, h0, hs]
  · exact hk.elim
end
end Go.Ab
