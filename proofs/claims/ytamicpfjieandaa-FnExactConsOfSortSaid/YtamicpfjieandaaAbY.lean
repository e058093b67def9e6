/- Calls by unification; equality of plain data, as a Bool. -/
import Derived.Test.YtamicpfjieandaaAbZ
namespace Go.Ab
open Go
set_option linter.unusedVariables false
/-- A call that is handed data, whatever it hands back. -/
theorem call_p {P : Program} {f d : Nat} {l : List D} {args : List A} {t : List A} {h : List O} {p : Nat} {K : St → Prop} {X : Type} {φ : X → Prop} {ret : X → A} (ct : Ct P f args [] φ ret (fun _ => []))
    (hl : unDs args = some l) (hK : ∀ x, φ x → K ⟨t.set d ((ret x).ren (rho [] h.length)), h, p⟩) : callVC P f args ⟨t, h, p⟩ (some d) K := by
  have e : args = l.map A.d := by
    clear ct hK
    induction args generalizing l with
    | nil => simp [unDs] at hl; subst hl; rfl
    | cons a as ih =>
      cases a with
      | d x =>
        simp only [unDs] at hl
        cases e2 : unDs as with
        | none => rw [e2] at hl; cases hl
        | some r => rw [e2] at hl; cases hl; simp [ih e2]
      | _ => simp [unDs] at hl
  subst e
  exact call_pure ct (ds_under 0 l) (ds_lel _ _ _ l) hK
theorem calm_p {P : Program} {f d : Nat} {l : List D} {args : List A} {t : List A} {h : List O} {p : Nat} {K : St → Prop} {X : Type} {φ : X → Prop} {ret : X → A} (ct : Ct P f args [] φ ret (fun _ => []))
    (hl : unDs args = some l) (hK : ∀ x, φ x → K ⟨t.set d ((ret x).ren (rho [] h.length)), h, p⟩) : calmVC P f args ⟨t, h, p⟩ (some d) K := by
  have e : args = l.map A.d := by
    clear ct hK
    induction args generalizing l with
    | nil => simp [unDs] at hl; subst hl; rfl
    | cons a as ih =>
      cases a with
      | d x =>
        simp only [unDs] at hl
        cases e2 : unDs as with
        | none => rw [e2] at hl; cases hl
        | some r => rw [e2] at hl; cases hl; simp [ih e2]
      | _ => simp [unDs] at hl
  subst e
  exact calm_pure ct (ds_under 0 l) (ds_lel _ _ _ l) hK
/-- Equal or not. -/
noncomputable def dq {α : Type} (a b : α) : Bool := @decide (a = b) (Classical.propDecidable _)
theorem dq_t {α : Type} {a b : α} : dq a b = true ↔ a = b := by simp [dq]
theorem dq_f {α : Type} {a b : α} : dq a b = false ↔ a ≠ b := by simp [dq]
theorem dq_eq {α : Type} {a b : α} (h : a = b) : dq a b = true := dq_t.2 h
theorem dq_ne {α : Type} {a b : α} (h : a ≠ b) : dq a b = false := dq_f.2 h
theorem dq_self {α : Type} (a : α) : dq a a = true := dq_t.2 rfl
theorem dec_dq {α : Type} [DecidableEq α] {a b : α} : decide (a = b) = dq a b := by unfold dq; congr
theorem nb_t {b : Bool} : (!b) = true ↔ b = false := by cases b <;> simp
theorem nb_f {b : Bool} : (!b) = false ↔ b = true := by cases b <;> simp
attribute [go_sem] nb_t nb_f dq_t dq_f ne_eq forall_eq' forall_eq
theorem ren_d {ρ : Nat → Nat} {x : D} : (A.d x).ren ρ = .d x := rfl
theorem ren_tup {ρ : Nat → Nat} {l : List A} : (A.tup l).ren ρ = .tup (A.rens ρ l) := by rw [A.ren]
theorem rens_nil {ρ : Nat → Nat} : A.rens ρ [] = [] := rfl
theorem rens_cons {ρ : Nat → Nat} {a : A} {l : List A} : A.rens ρ (a :: l) = a.ren ρ :: A.rens ρ l := rfl
attribute [go_sem] ren_d ren_tup rens_nil rens_cons
theorem TDx.ag {P : Program} {fs : Array Field} : ∀ {t : TypeId} {x : D}, TDx P t x → P.underlying t = some (.struct fs) → ∃ l, x = .agg l ∧ TD P t l
  | _, _, .agg e fs' l h1 h2, hu => ⟨l, rfl, h2⟩
  | _, _, .one e x h1 h2, hu => absurd hu (h1 fs)
/-- A frame of which some slots are forgotten, some set. -/
def A.stay : A → A
  | .rptr _ => .any
  | .sl _ _ => .any
  | .tup _ => .any
  | .eptr _ _ _ _ => .any
  | a => a
def upd (t : List A) (ws : List Nat) (u : List (Nat × A)) : List A := u.foldl (fun t x => t.set x.1 x.2) ((ws.foldl (fun t k => t.set k .any) t).map A.stay)
attribute [go_sem] upd A.stay
theorem deepApps_nil (h : List O) : deepApps h [] ↔ True := Iff.rfl
theorem deepApps_cons (h : List O) (m : Nat) (l : List Nat) : deepApps h (m :: l) ↔ (∃ t sz, h[m]? = some (.app t sz true)) ∧ m ∉ l ∧ deepApps h l := Iff.rfl
theorem deepApp_some (t : TypeId) (sz : Nat) : (∃ t' sz', some (O.app t sz true) = some (.app t' sz' true)) ↔ True := ⟨fun _ => trivial, fun _ => ⟨t, sz, rfl⟩⟩
theorem nmem_nil (k : Nat) : (¬ k ∈ ([] : List Nat)) ↔ True := by simp
theorem nmem_cons (k m : Nat) (l : List Nat) : (¬ k ∈ m :: l) ↔ k ≠ m ∧ ¬ k ∈ l := by simp
attribute [go_sem] deepApps_nil deepApps_cons deepApp_some nmem_nil nmem_cons
/-- A loop: the frame as it stands, but for the slots that the loop writes. -/
theorem loop_at {P : Program} {T : Ty} (hT : TOk P T) {body : Code} {Kn Kr : St → Prop} {Kx : Nat → St → Prop} {t : List A} {h : List O} {p : Nat} {ι : Type} (ws : List Nat) (u : ι → List (Nat × A)) (hh : ι → List O) (φ : ι → Prop) (μ : ι → Nat) (i0 : ι)
    (h0 : φ i0) (hs : (St.mk t h p).Le h.length ⟨upd t ws (u i0), hh i0, p⟩)
    (hr : ∀ i, φ i → ∀ L : St → Prop, (∀ s' j, φ j → μ j < μ i → s'.Le (hh j).length ⟨upd t ws (u j), hh j, p⟩ → L s') → vc P T body L Kr Kx ⟨upd t ws (u i), hh i, p⟩) : loopVC P body Kn Kr Kx ⟨t, h, p⟩ :=
  loop_go hT (fun i => ⟨upd t ws (u i), hh i, p⟩) φ μ i0 h.length h0 hs fun i hi L hL => hr i hi L fun s' j h1 h2 h3 => hL s' j _ h1 h2 h3
/-- The same, with the objects as they stand. -/
theorem loop_st {P : Program} {T : Ty} (hT : TOk P T) {body : Code} {Kn Kr : St → Prop} {Kx : Nat → St → Prop} {t : List A} {h : List O} {p : Nat} {ι : Type} (ws : List Nat) (u : ι → List (Nat × A)) (φ : ι → Prop) (μ : ι → Nat) (i0 : ι)
    (h0 : φ i0) (hs : (St.mk t h p).Le h.length ⟨upd t ws (u i0), h, p⟩)
    (hr : ∀ i, φ i → ∀ L : St → Prop, (∀ s' j, φ j → μ j < μ i → s'.Le h.length ⟨upd t ws (u j), h, p⟩ → L s') → vc P T body L Kr Kx ⟨upd t ws (u i), h, p⟩) : loopVC P body Kn Kr Kx ⟨t, h, p⟩ :=
  loop_at hT ws u (fun _ => h) φ μ i0 h0 hs hr
theorem wr_succ {i : Nat} (h : i < 4611686018427387904) : wr .i64 ((i : Int) + 1) = ((i + 1 : Nat) : Int) := by rw [wr_in (by omega)]; omega
theorem take_eq_more {α : Type} {a b : List α} {i : Nat} {x y : α} (h : a.take i = b.take i) (hx : a[i]? = some x) (hy : b[i]? = some y) (e : x = y) : a.take (i + 1) = b.take (i + 1) := by
  rw [take_more hx, take_more hy, h, e]
theorem ne_of_at {α : Type} {a b : List α} {i : Nat} {x y : α} (hx : a[i]? = some x) (hy : b[i]? = some y) (e : x ≠ y) : a ≠ b := fun h => e (by rw [h, hy] at hx; exact (Option.some.inj hx).symm)
theorem eq_of_take {α : Type} {a b : List α} {i : Nat} (h : a.take i = b.take i) (h1 : a.length ≤ i) (h2 : b.length ≤ i) : a = b := by
  rwa [List.take_of_length_le h1, List.take_of_length_le h2] at h
theorem Ex.ext_iff' {a b : Ex} : a = b ↔ a.k = b.k ∧ a.n = b.n ∧ a.a = b.a := by cases a; cases b; simp [Ex.k, Ex.n, Ex.a]
theorem dec_of {p : Prop} [Decidable p] {b : Bool} (h : p ↔ b = true) : decide p = b := by cases b <;> simp_all
theorem map_getD {α : Type} {f : α → D} {l : List α} {i : Nat} {x : α} (h : l[i]? = some x) : (l.map f)[i]? = some (f x) := by simp [h]
end Go.Ab
