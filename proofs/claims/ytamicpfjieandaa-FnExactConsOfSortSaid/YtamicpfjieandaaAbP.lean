/- Contracts: how one is shown and how it is used. -/
import Derived.Test.YtamicpfjieandaaAbOp
namespace Go.Ab
open Go
set_option linter.unusedVariables false
set_option linter.unusedSimpArgs false

def O.fixed : O → Bool
  | .box _ _ => true
  | .map _ _ _ => true
  | _ => false
def O.ren (ρ : Nat → Nat) : O → O
  | .box t l => .box t (A.rens ρ l)
  | .row t sz l => .row t sz (A.rens ρ l)
  | .opn r t sz l => .opn r t sz (A.rens ρ l)
  | o => o
def O.rens (ρ : Nat → Nat) : List O → List O
  | [] => []
  | o :: l => o.ren ρ :: O.rens ρ l
def ownF (G : List Gh) : Nat → Prop := fun b => ∃ (k : Nat) (g : Gh), G[k]? = some g ∧ g.F b
/-- Called with these arguments over these objects, f returns, for some x of which φ holds, the value ret x, and leaves the objects post x (new ones at the end); nothing else has turned. -/
def Ct (P : Program) (f : FuncId) (args : List A) (h : List O) {X : Type} (φ : X → Prop) (ret : X → A) (post : X → List O) : Prop :=
  Has P f ∧ ∀ (w : World) (I : Im) (G : List Gh) (vs : List Value), VAs w I G vs args → RelH w I G h →
    Calls P f vs.toArray w fun e w' => ∃ v, e = .returned v ∧ ∃ x, φ x ∧ ∃ I' G', VA w' I' G' v (ret x) ∧ RelH w' I' G' (post x) ∧ Fr ⟨w, I, ownF G, fun _ => none⟩ w' I' G' ∧
      h.length ≤ (post x).length ∧ ∀ (k : Nat) (g : Gh) (o : O), G[k]? = some g → h[k]? = some o → o.fixed = true → ∃ g' : Gh, G'[k]? = some g' ∧ g'.root = g.root
def tupA : List A → A
  | [x] => x
  | l => .tup l
def vcRes (T : Ty) (s : St) : List ResultVar → (List A → Prop) → Prop
  | [], K => K []
  | .tmp t :: r, K => vcRes T s r fun l => K (s.t.getD t .any :: l)
  | .cell b t :: r, K => vcLoad T t (s.t.getD b .any) s.h fun x => vcRes T s r fun l => K (x :: l)
/-- What is held in one way is held in another. -/
def Turns (s : St) (Q : St → Prop) : Prop := ∀ c a w, Rel c s a w → ∃ s', Q s' ∧ Rel c s' a w
def vcEnd (T : Ty) (rs : List ResultVar) {X : Type} (φ : X → Prop) (ret : X → A) (post : X → List O) (s : St) : Prop :=
  vcRes T s rs fun l => Turns ⟨[tupA l], s.h, s.p⟩ fun s' => ∃ x, φ x ∧ s' = ⟨[ret x], post x, s.p⟩
section
variable {P : Program} {T : Ty} {w w' : World} {I I' : Im} {G G' : List Gh} {c : Cx} {s s' : St} {a : Act}
def resOne (tmps : Array Value) : ResultVar → Sem Value
  | .tmp t => pure (tmps.getD t undef)
  | .cell b t => do loadVar t (← asAddr (tmps.getD b undef))
theorem load_addr {t : Nat} {x v : Value} (h : (Instr.loadAt t x).run P w = .ok v w) : (do loadVar t (← asAddr x) : Sem Value).run P w = .ok v w := by
  cases x with
  | pointer ad =>
    cases ad with
    | some ad => simpa [Instr.loadAt, Instr.sureAddr, asAddr] using h
    | none => simp [Instr.loadAt, Instr.sureAddr] at h
  | _ => simp [Instr.loadAt, Instr.sureAddr] at h
theorem res_ok (hT : TOk P T) (hr : RelX c s a w I G) : ∀ {rs : List ResultVar} {K : List A → Prop}, vcRes T s rs K → ∃ vs l, (rs.mapM (resOne a.tmps)).run P w = .ok vs w ∧ VAs w I G vs l ∧ K l
  | [], K, h => ⟨[], [], by simp, .nil, h⟩
  | .tmp t :: rs, K, h => by
    simp only [vcRes] at h
    obtain ⟨vs, l, h1, h2, h3⟩ := res_ok hT hr h
    refine ⟨a.tmps.getD t undef :: vs, _, ?_, .cons (VA.eval hr.tmps (.tmp t)) h2, h3⟩
    rw [List.mapM_cons]
    simp only [resOne, pure_bind, Sem.run_bind, h1, Result.andThen_ok, Sem.run_pure]
  | .cell b t :: rs, K, h => by
    simp only [vcRes] at h
    obtain ⟨v, r, e1, e2, h⟩ := yields_load (P := P) hT hr.objs (VA.eval hr.tmps (.tmp b)) h
    obtain ⟨vs, l, h1, h2, h3⟩ := res_ok hT hr h
    have := load_addr (e1 w (Ext.refl w))
    refine ⟨_, _, ?_, .cons e2 h2, h3⟩
    have hone : (resOne a.tmps (.cell b t)).run P w = .ok v w := this
    rw [List.mapM_cons]
    simp only [Sem.run_bind, hone, h1, Result.andThen_ok, Sem.run_pure]
theorem tup_ok {vs : List Value} {l : List A} (h : VAs w I G vs l) : VA w I G (if h : vs.toArray.size = 1 then vs.toArray[0] else .tuple vs.toArray) (tupA l) := by
  match vs, l, h with
  | [], [], h => exact .tup [] [] h
  | [x], [y], .cons h _ => exact h
  | x :: y :: vs, p :: q :: l, h => exact .tup _ _ h
theorem results_run {fn : Func} {tmps : Array Value} {us : List Value} (h : (fn.results.toList.mapM (resOne tmps)).run P w = .ok us w) :
    (results fn tmps).run P w = .ok (if h : us.toArray.size = 1 then us.toArray[0] else .tuple us.toArray) w := by
  have h' : ∀ F : ResultVar → Sem Value, (∀ r, F r = resOne tmps r) → (fn.results.toList.mapM F).run P w = .ok us w := by
    intro F hF; rw [funext hF]; exact h
  unfold results
  rw [Array.mapM_eq_mapM_toList]
  simp only [Sem.run_bind, Sem.run_map]
  rw [h' _ (by intro r; cases r <;> rfl)]
  rfl
theorem ct_intro (hT : TOk P T) {f : FuncId} {fn : Func} {code : Code} (hf : P.funcs[f]? = some fn) (hb : fn.body = some code) (hn : (fn.name == "runtime.NumGoroutine") = false) {args : List A} {h : List O} {X : Type} {φ : X → Prop} {ret : X → A} {post : X → List O}
    (hpost : ∀ x, φ x → h.length ≤ (post x).length)
    (hv : vc P T code (vcEnd T fn.results.toList φ ret post) (vcEnd T fn.results.toList φ ret post) (fun _ _ => False) ⟨args ++ List.replicate (fn.ntmps - args.length) .any, h, h.length⟩) : Ct P f args h φ ret post := by
  refine ⟨⟨fn, hf, hn, by rw [hb]; rfl⟩, fun w I G vs hvs hrel => ?_⟩
  refine calls_of_wp hf hb ?_
  let R : Nat → Option Value := fun k => match h[k]?, G[k]? with
    | some o, some g => if o.fixed then some g.root else none
    | _, _ => none
  let c : Cx := ⟨w, I, ownF G, R⟩
  have hlen := hvs.len
  have hpad : ∀ n, VAs w I G (List.replicate n undef) (List.replicate n .any) := fun n => by
    induction n with
    | zero => exact .nil
    | succ n ih => exact .cons (.any _) ih
  have hR0 : Rel c ⟨args ++ List.replicate (fn.ntmps - args.length) .any, h, h.length⟩ { tmps := vs.toArray ++ Array.replicate (fn.ntmps - vs.toArray.size) undef, defers := [] } w := by
    refine ⟨I, G, rfl, ?_, hrel, ⟨rfl, rfl, rfl, Nat.le_refl _, fun _ _ _ => rfl, fun _ _ h => ⟨h, rfl⟩, fun _ _ h => .inl h, fun k g b e hb => .inl ⟨k, g, e, hb⟩⟩, fun k v e => ?_⟩
    · have : (vs.toArray ++ Array.replicate (fn.ntmps - vs.toArray.size) undef).toList = vs ++ List.replicate (fn.ntmps - args.length) undef := by
        simp [hlen]
      rw [this]
      exact hvs.append (hpad _)
    · simp only [c, R] at e
      split at e
      · rename_i o g eo eg
        split at e
        · rename_i hfix
          cases e
          refine ⟨(List.getElem?_eq_some_iff.1 eo).1, fun q n m hq => ?_, g, eg, rfl⟩
          have ho := hrel.obj k g o eg eo
          cases o with
          | box t l => obtain ⟨b, cs, h1, _⟩ := ho; rw [h1] at hq; cases hq
          | map kt vt l => obtain ⟨b, cs, cc, h1, _⟩ := ho; rw [h1] at hq; cases hq
          | _ => simp [O.fixed] at hfix
        · cases e
      · cases e
  have hend : ∀ (s : St) (a : Act) (w' : World), vcEnd T fn.results.toList φ ret post s → Rel c s a w' → ∃ v, a.defers = [] ∧ (results fn a.tmps).run P w' = .ok v w' ∧
      ∃ x, φ x ∧ ∃ I' G', VA w' I' G' v (ret x) ∧ RelH w' I' G' (post x) ∧ Fr ⟨w, I, ownF G, fun _ => none⟩ w' I' G' ∧
        h.length ≤ (post x).length ∧ ∀ (k : Nat) (g : Gh) (o : O), G[k]? = some g → h[k]? = some o → o.fixed = true → ∃ g' : Gh, G'[k]? = some g' ∧ g'.root = g.root := by
    rintro s a w' he ⟨I', G', hX⟩
    obtain ⟨us, l, h1, h2, h4⟩ := res_ok hT hX he
    have hY : RelX c ⟨[tupA l], s.h, s.p⟩ ⟨#[if h : us.toArray.size = 1 then us.toArray[0] else .tuple us.toArray], []⟩ w' I' G' := ⟨rfl, .cons (tup_ok h2) .nil, hX.objs, hX.fr, hX.pr⟩
    obtain ⟨s1, ⟨x, h3, rfl⟩, I1, G'', hZ⟩ := h4 c _ w' ⟨I', G', hY⟩
    refine ⟨_, hX.defers, results_run h1, x, h3, ?_⟩
    · refine ⟨I1, G'', ?_, hZ.objs, ⟨hZ.fr.os, hZ.fr.tape, hZ.fr.output, hZ.fr.size, hZ.fr.block, hZ.fr.cell, hZ.fr.im, hZ.fr.own⟩, hpost x h3, fun k g o eg eo hfix => ?_⟩
      · cases hZ.tmps with
        | cons h _ => exact h
      · have hRk : c.R k = some g.root := by simp only [c, R, eo, eg, hfix, if_true]
        obtain ⟨_, _, g', e1, e2⟩ := hZ.pr k _ hRk
        exact ⟨g', e1, e2⟩
  refine Code.wp_mono (fun e a w' hp => ?_) (vc_sound (c := c) hT code _ _ _ _ _ _ hv hR0)
  cases e with
  | normal =>
    obtain ⟨s, h1, h2⟩ := hp
    obtain ⟨v, e1, e2, e3⟩ := hend s a w' h1 h2
    exact ⟨e1, v, e2, v, rfl, e3⟩
  | ret =>
    obtain ⟨s, h1, h2⟩ := hp
    obtain ⟨v, e1, e2, e3⟩ := hend s a w' h1 h2
    exact ⟨e1, v, e2, v, rfl, e3⟩
  | exit i => obtain ⟨s, h1, _⟩ := hp; exact h1.elim
  | _ => exact hp.elim
theorem Turns.le {s s' : St} {Q : St → Prop} (n : Nat) (hl : s.Le n s') (hq : Q s') : Turns s Q := fun c a w ⟨I, G, h⟩ => by
  obtain ⟨G', h'⟩ := h.le hl
  exact ⟨s', hq, I, G', h'⟩
theorem Turns.pubs {s s' : St} {Q : St → Prop} {ks : List Nat} (hp : pubs? ks s = some s') (hq : Turns s' Q) : Turns s Q := fun c a w ⟨I, G, h⟩ => by
  obtain ⟨I', G', h'⟩ := h.pubs? hp
  exact hq c a w ⟨I', G', h'⟩
theorem Turns.mono {s : St} {Q Q' : St → Prop} (h : Turns s Q) (hq : ∀ s, Q s → Q' s) : Turns s Q' := fun c a w hR => by
  obtain ⟨s', h1, h2⟩ := h c a w hR
  exact ⟨s', hq _ h1, h2⟩
theorem Turns.trans {s : St} {Q Q' : St → Prop} (h : Turns s Q) (hq : ∀ s, Q s → Turns s Q') : Turns s Q' := fun c a w hR => by
  obtain ⟨s', h1, h2⟩ := h c a w hR
  exact hq s' h1 c a w h2
end
end Go.Ab
