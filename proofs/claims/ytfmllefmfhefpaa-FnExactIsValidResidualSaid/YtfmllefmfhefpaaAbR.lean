/- Contracts: how one is shown and how it is used. -/
import Derived.Test.YtfmllefmfhefpaaAbOp
import Derived.OrdersHeld
namespace Go.Ab
open Go
set_option linter.unusedVariables false
set_option linter.unusedSimpArgs false

def O.fixed : O → Bool
  | .box _ _ => true
  | .map _ _ _ => true
  | _ => false
def O.ren (ρ : Nat → Nat) : O → O
  | .box t l => .box t (A.rens ρ l)
  | .row t sz l => .row t sz (A.rens ρ l)
  | .opn r t sz l => .opn r t sz (A.rens ρ l)
  | o => o
def O.rens (ρ : Nat → Nat) : List O → List O
  | [] => []
  | o :: l => o.ren ρ :: O.rens ρ l
def ownF (G : List Gh) : Nat → Prop := fun b => ∃ (k : Nat) (g : Gh), G[k]? = some g ∧ g.F b
/-- Called with these arguments over these objects, f returns, for some x of which φ holds, the value ret x, and leaves the objects post x (new ones at the end); nothing else has turned. -/
def Ct (P : Program) (f : FuncId) (args : List A) (h : List O) {X : Type} (φ : X → Prop) (ret : X → A) (post : X → List O) : Prop :=
  Has P f ∧ ∀ (w : World) (I : Im) (G : List Gh) (vs : List Value), VAs w I G vs args → RelH w I G h →
    Calls P f vs.toArray w fun e w' => ∃ v, e = .returned v ∧ ∃ x, φ x ∧ ∃ I' G', VA w' I' G' v (ret x) ∧ RelH w' I' G' (post x) ∧ Fr ⟨w, I, ownF G, fun _ => none⟩ w' I' G' ∧
      h.length ≤ (post x).length ∧ ∀ (k : Nat) (g : Gh) (o : O), G[k]? = some g → h[k]? = some o → o.fixed = true → ∃ g' : Gh, G'[k]? = some g' ∧ g'.root = g.root
def tupA : List A → A
  | [x] => x
  | l => .tup l
def vcRes (T : Ty) (s : St) : List ResultVar → (List A → Prop) → Prop
  | [], K => K []
  | .tmp t :: r, K => vcRes T s r fun l => K (s.t.getD t .any :: l)
  | .cell b t :: r, K => vcLoad T t (s.t.getD b .any) s.h fun x => vcRes T s r fun l => K (x :: l)
/-- What is held in one way is held in another. -/
def Turns (s : St) (Q : St → Prop) : Prop := ∀ c a w, Rel c s a w → ∃ s', Q s' ∧ Rel c s' a w
def vcEnd (T : Ty) (rs : List ResultVar) {X : Type} (φ : X → Prop) (ret : X → A) (post : X → List O) (s : St) : Prop :=
  vcRes T s rs fun l => Turns ⟨[tupA l], s.h, s.p⟩ fun s' => ∃ x, φ x ∧ s' = ⟨[ret x], post x, s.p⟩
section
variable {P : Program} {T : Ty} {w w' : World} {I I' : Im} {G G' : List Gh} {c : Cx} {s s' : St} {a : Act}
def resOne (tmps : Array Value) : ResultVar → Sem Value
  | .tmp t => pure (tmps.getD t undef)
  | .cell b t => do loadVar t (← asAddr (tmps.getD b undef))
theorem load_addr {t : Nat} {x v : Value} (h : (Instr.loadAt t x).run P w = .ok v w) : (do loadVar t (← asAddr x) : Sem Value).run P w = .ok v w := by
  cases x with
  | pointer ad =>
    cases ad with
    | some ad => simpa [Instr.loadAt, Instr.sureAddr, asAddr] using h
    | none => simp [Instr.loadAt, Instr.sureAddr] at h
  | _ => simp [Instr.loadAt, Instr.sureAddr] at h
theorem res_ok (hT : TOk P T) (hr : RelX c s a w I G) : ∀ {rs : List ResultVar} {K : List A → Prop}, vcRes T s rs K → ∃ vs l, (rs.mapM (resOne a.tmps)).run P w = .ok vs w ∧ VAs w I G vs l ∧ K l
  | [], K, h => ⟨[], [], by simp, .nil, h⟩
  | .tmp t :: rs, K, h => by
    simp only [vcRes] at h
    obtain ⟨vs, l, h1, h2, h3⟩ := res_ok hT hr h
    refine ⟨a.tmps.getD t undef :: vs, _, ?_, .cons (VA.eval hr.tmps (.tmp t)) h2, h3⟩
    rw [List.mapM_cons]
    simp only [resOne, pure_bind, Sem.run_bind, h1, Result.andThen_ok, Sem.run_pure]
  | .cell b t :: rs, K, h => by
    simp only [vcRes] at h
    obtain ⟨v, r, e1, e2, h⟩ := yields_load (P := P) hT hr.objs (VA.eval hr.tmps (.tmp b)) h
    obtain ⟨vs, l, h1, h2, h3⟩ := res_ok hT hr h
    have := load_addr (e1 w (Ext.refl w))
    refine ⟨_, _, ?_, .cons e2 h2, h3⟩
    have hone : (resOne a.tmps (.cell b t)).run P w = .ok v w := this
    rw [List.mapM_cons]
    simp only [Sem.run_bind, hone, h1, Result.andThen_ok, Sem.run_pure]
theorem tup_ok {vs : List Value} {l : List A} (h : VAs w I G vs l) : VA w I G (if h : vs.toArray.size = 1 then vs.toArray[0] else .tuple vs.toArray) (tupA l) := by
  match vs, l, h with
  | [], [], h => exact .tup [] [] h
  | [x], [y], .cons h _ => exact h
  | x :: y :: vs, p :: q :: l, h => exact .tup _ _ h
theorem results_run {fn : Func} {tmps : Array Value} {us : List Value} (h : (fn.results.toList.mapM (resOne tmps)).run P w = .ok us w) :
    (results fn tmps).run P w = .ok (if h : us.toArray.size = 1 then us.toArray[0] else .tuple us.toArray) w := by
  have h' : ∀ F : ResultVar → Sem Value, (∀ r, F r = resOne tmps r) → (fn.results.toList.mapM F).run P w = .ok us w := by
    intro F hF; rw [funext hF]; exact h
  unfold results
  rw [Array.mapM_eq_mapM_toList]
  simp only [Sem.run_bind, Sem.run_map]
  rw [h' _ (by intro r; cases r <;> rfl)]
  rfl
theorem ct_intro (hT : TOk P T) {f : FuncId} {fn : Func} {code : Code} (hf : P.funcs[f]? = some fn) (hb : fn.body = some code) (hn : (fn.name == "runtime.NumGoroutine") = false) {args : List A} {h : List O} {X : Type} {φ : X → Prop} {ret : X → A} {post : X → List O}
    (hpost : ∀ x, φ x → h.length ≤ (post x).length)
    (hv : vc P T code (vcEnd T fn.results.toList φ ret post) (vcEnd T fn.results.toList φ ret post) (fun _ _ => False) ⟨args ++ List.replicate (fn.ntmps - args.length) .any, h, h.length⟩) : Ct P f args h φ ret post := by
  refine ⟨⟨fn, hf, hn, by rw [hb]; rfl⟩, fun w I G vs hvs hrel => ?_⟩
  refine calls_of_wp hf hb ?_
  let R : Nat → Option Value := fun k => match h[k]?, G[k]? with
    | some o, some g => if o.fixed then some g.root else none
    | _, _ => none
  let c : Cx := ⟨w, I, ownF G, R⟩
  have hlen := hvs.len
  have hpad : ∀ n, VAs w I G (List.replicate n undef) (List.replicate n .any) := fun n => by
    induction n with
    | zero => exact .nil
    | succ n ih => exact .cons (.any _) ih
  have hR0 : Rel c ⟨args ++ List.replicate (fn.ntmps - args.length) .any, h, h.length⟩ { tmps := vs.toArray ++ Array.replicate (fn.ntmps - vs.toArray.size) undef, defers := [] } w := by
    refine ⟨I, G, rfl, ?_, hrel, ⟨rfl, rfl, rfl, Nat.le_refl _, fun _ _ _ => rfl, fun _ _ h => ⟨h, rfl⟩, fun _ _ h => .inl h, fun k g b e hb => .inl ⟨k, g, e, hb⟩⟩, fun k v e => ?_⟩
    · have : (vs.toArray ++ Array.replicate (fn.ntmps - vs.toArray.size) undef).toList = vs ++ List.replicate (fn.ntmps - args.length) undef := by
        simp [hlen]
      rw [this]
      exact hvs.append (hpad _)
    · simp only [c, R] at e
      split at e
      · rename_i o g eo eg
        split at e
        · rename_i hfix
          cases e
          refine ⟨(List.getElem?_eq_some_iff.1 eo).1, fun q n m hq => ?_, g, eg, rfl⟩
          have ho := hrel.obj k g o eg eo
          cases o with
          | box t l => obtain ⟨b, cs, h1, _⟩ := ho; rw [h1] at hq; cases hq
          | map kt vt l => obtain ⟨b, cs, cc, h1, _⟩ := ho; rw [h1] at hq; cases hq
          | _ => simp [O.fixed] at hfix
        · cases e
      · cases e
  have hend : ∀ (s : St) (a : Act) (w' : World), vcEnd T fn.results.toList φ ret post s → Rel c s a w' → ∃ v, a.defers = [] ∧ (results fn a.tmps).run P w' = .ok v w' ∧
      ∃ x, φ x ∧ ∃ I' G', VA w' I' G' v (ret x) ∧ RelH w' I' G' (post x) ∧ Fr ⟨w, I, ownF G, fun _ => none⟩ w' I' G' ∧
        h.length ≤ (post x).length ∧ ∀ (k : Nat) (g : Gh) (o : O), G[k]? = some g → h[k]? = some o → o.fixed = true → ∃ g' : Gh, G'[k]? = some g' ∧ g'.root = g.root := by
    rintro s a w' he ⟨I', G', hX⟩
    obtain ⟨us, l, h1, h2, h4⟩ := res_ok hT hX he
    have hY : RelX c ⟨[tupA l], s.h, s.p⟩ ⟨#[if h : us.toArray.size = 1 then us.toArray[0] else .tuple us.toArray], []⟩ w' I' G' := ⟨rfl, .cons (tup_ok h2) .nil, hX.objs, hX.fr, hX.pr⟩
    obtain ⟨s1, ⟨x, h3, rfl⟩, I1, G'', hZ⟩ := h4 c _ w' ⟨I', G', hY⟩
    refine ⟨_, hX.defers, results_run h1, x, h3, ?_⟩
    · refine ⟨I1, G'', ?_, hZ.objs, ⟨hZ.fr.os, hZ.fr.tape, hZ.fr.output, hZ.fr.size, hZ.fr.block, hZ.fr.cell, hZ.fr.im, hZ.fr.own⟩, hpost x h3, fun k g o eg eo hfix => ?_⟩
      · cases hZ.tmps with
        | cons h _ => exact h
      · have hRk : c.R k = some g.root := by simp only [c, R, eo, eg, hfix, if_true]
        obtain ⟨_, _, g', e1, e2⟩ := hZ.pr k _ hRk
        exact ⟨g', e1, e2⟩
  refine Code.wp_mono (fun e a w' hp => ?_) (vc_sound (c := c) hT code _ _ _ _ _ _ hv hR0)
  cases e with
  | normal =>
    obtain ⟨s, h1, h2⟩ := hp
    obtain ⟨v, e1, e2, e3⟩ := hend s a w' h1 h2
    exact ⟨e1, v, e2, v, rfl, e3⟩
  | ret =>
    obtain ⟨s, h1, h2⟩ := hp
    obtain ⟨v, e1, e2, e3⟩ := hend s a w' h1 h2
    exact ⟨e1, v, e2, v, rfl, e3⟩
  | exit i => obtain ⟨s, h1, _⟩ := hp; exact h1.elim
  | _ => exact hp.elim
theorem Turns.le {s s' : St} {Q : St → Prop} (n : Nat) (hl : s.Le n s') (hq : Q s') : Turns s Q := fun c a w ⟨I, G, h⟩ => by
  obtain ⟨G', h'⟩ := h.le hl
  exact ⟨s', hq, I, G', h'⟩
theorem Turns.pubs {s s' : St} {Q : St → Prop} {ks : List Nat} (hp : pubs? ks s = some s') (hq : Turns s' Q) : Turns s Q := fun c a w ⟨I, G, h⟩ => by
  obtain ⟨I', G', h'⟩ := h.pubs? hp
  exact hq c a w ⟨I', G', h'⟩
theorem Turns.mono {s : St} {Q Q' : St → Prop} (h : Turns s Q) (hq : ∀ s, Q s → Q' s) : Turns s Q' := fun c a w hR => by
  obtain ⟨s', h1, h2⟩ := h c a w hR
  exact ⟨s', hq _ h1, h2⟩
theorem Turns.trans {s : St} {Q Q' : St → Prop} (h : Turns s Q) (hq : ∀ s, Q s → Turns s Q') : Turns s Q' := fun c a w hR => by
  obtain ⟨s', h1, h2⟩ := h c a w hR
  exact hq s' h1 c a w h2
end
end Go.Ab
/- A contract is used: the callee sees the objects that it is handed, and leaves the rest. -/
namespace Go.Ab
open Go
set_option linter.unusedVariables false
set_option linter.unusedSimpArgs false

def putL {α : Type} (h : List α) : List Nat → List α → List α
  | k :: ids, o :: os => (putL h ids os).set k o
  | _, _ => h
theorem putL_len {α : Type} (h : List α) : ∀ (ids : List Nat) (os : List α), (putL h ids os).length = h.length
  | [], _ => by simp [putL]
  | _ :: _, [] => by simp [putL]
  | k :: ids, o :: os => by simp [putL, putL_len h ids os]
theorem putL_not {α : Type} (h : List α) {k : Nat} : ∀ (ids : List Nat) (os : List α), k ∉ ids → (putL h ids os)[k]? = h[k]?
  | [], _, _ => by simp [putL]
  | _ :: _, [], _ => by simp [putL]
  | q :: ids, o :: os, hk => by
    simp only [putL]
    rw [List.getElem?_set, if_neg (fun (e : q = k) => hk (e ▸ List.mem_cons_self))]
    exact putL_not h ids os (fun h => hk (List.mem_cons_of_mem _ h))
theorem putL_at {α : Type} (h : List α) : ∀ (ids : List Nat) (os : List α), ids.Nodup → (∀ k ∈ ids, k < h.length) → ids.length = os.length → ∀ {i k : Nat}, ids[i]? = some k → (putL h ids os)[k]? = os[i]?
  | [], _, _, _, _, i, k, e => by simp at e
  | _ :: _, [], _, _, hl, _, _, _ => by simp at hl
  | q :: ids, o :: os, hn, hb, hl, i, k, e => by
    have hn' := List.nodup_cons.1 hn
    simp only [putL]
    cases i with
    | zero =>
      simp at e; subst e
      rw [List.getElem?_set]
      simp [putL_len, hb q List.mem_cons_self]
    | succ i =>
      have e' : ids[i]? = some k := by simpa using e
      have hk : k ∈ ids := List.mem_of_getElem? e'
      rw [List.getElem?_set, if_neg (fun (e : q = k) => hn'.1 (e ▸ hk))]
      rw [putL_at h ids os hn'.2 (fun k hk => hb k (List.mem_cons_of_mem _ hk)) (by simpa using hl) e']
      simp
def rho : List Nat → Nat → Nat → Nat
  | [], n, i => n + i
  | k :: _, _, 0 => k
  | _ :: ids, n, i + 1 => rho ids n i
theorem rho_at : ∀ {ids : List Nat} {n i k : Nat}, ids[i]? = some k → rho ids n i = k
  | [], _, _, _, e => by simp at e
  | _ :: _, _, 0, _, e => by simp at e; exact e
  | _ :: ids, n, i + 1, k, e => by simp only [rho]; exact rho_at (by simpa using e)
theorem rho_new : ∀ {ids : List Nat} {n i : Nat}, ids.length ≤ i → rho ids n i = n + (i - ids.length)
  | [], _, _, _ => by simp [rho]
  | _ :: ids, n, 0, h => by simp at h
  | _ :: ids, n, i + 1, h => by
    simp only [rho, List.length_cons]
    rw [rho_new (by simpa using h)]
    congr 1
    omega
def demsL : List Nat → List A → List A
  | [], l => l
  | q :: r, l => A.dems q (demsL r l)
def demLL : List Nat → List O → List O
  | [], l => l
  | q :: r, l => O.demL q (demLL r l)
def demO : List Nat → O → O
  | [], o => o
  | q :: r, o => (demO r o).dem q
theorem demLL_get : ∀ (L : List Nat) (h : List O) (k : Nat), (demLL L h)[k]? = (h[k]?).map (demO L)
  | [], h, k => by simp only [demLL]; cases h[k]? <;> rfl
  | q :: L, h, k => by simp only [demLL]; rw [demL_get, demLL_get L h k, Option.map_map]; rfl
theorem demLL_len : ∀ (L : List Nat) (h : List O), (demLL L h).length = h.length
  | [], h => rfl
  | q :: L, h => by simp [demLL, demL_len, demLL_len L h]
def unfixed : List Nat → List O → List Nat
  | k :: ids, o :: h => match o.fixed with | true => unfixed ids h | false => k :: unfixed ids h
  | _, _ => []
theorem unfixed_mem : ∀ {ids : List Nat} {h : List O} {i k : Nat} {o : O}, ids[i]? = some k → h[i]? = some o → o.fixed = false → k ∈ unfixed ids h
  | [], _, _, _, _, e, _, _ => by simp at e
  | _ :: _, [], _, _, _, _, e, _ => by simp at e
  | q :: ids, p :: h, i, k, o, e1, e2, e3 => by
    cases i with
    | zero =>
      simp at e1 e2; subst e1; subst e2
      simp only [unfixed, e3]
      exact List.mem_cons_self
    | succ i =>
      have := unfixed_mem (ids := ids) (h := h) (i := i) (k := k) (o := o) (by simpa using e1) (by simpa using e2) e3
      simp only [unfixed]
      split
      · exact this
      · exact List.mem_cons_of_mem _ this
mutual
def A.under (p : Nat) : A → Prop
  | .d _ => True
  | .agg l => A.unders p l
  | .tup l => A.unders p l
  | .nil => True
  | .sl _ _ => False
  | .rptr _ => True
  | .ref k _ => k < p
  | .own k _ => k < p
  | .arr k => k < p
  | .eptr k _ _ _ => k < p
  | .fn _ l => A.unders p l
  | .mp k => k < p
  | .raw _ => True
  | .any => True
def A.unders (p : Nat) : List A → Prop
  | [] => True
  | a :: l => A.under p a ∧ A.unders p l
end
def O.under (p : Nat) : O → Prop
  | .box _ l => A.unders p l
  | .app _ _ _ => True
  | .map _ _ _ => True
  | .forest _ => True
  | _ => False
def O.unders (p : Nat) : List O → Prop
  | [] => True
  | o :: l => O.under p o ∧ O.unders p l
def pick (h : List O) : List Nat → List O
  | [] => []
  | k :: ids => (h[k]?).getD .dead :: pick h ids
/-- The state behind a call that was handed the objects ids. -/
def St.back (s : St) (ids : List Nat) (h' q : List O) : St :=
  ⟨demsL (unfixed ids h') s.t, putL (demLL (unfixed ids h') s.h) ids (O.rens (rho ids s.h.length) (q.take ids.length)) ++ O.rens (rho ids s.h.length) (q.drop ids.length), s.p⟩
section
variable {P : Program} {T : Ty} {w w' : World} {I I' : Im} {G G' : List Gh} {c : Cx} {s s' : St} {a : Act}
theorem VAs.demAll (hI : ∀ b j, I b j → I' b j) (hc : ∀ b j, I b j → w'.cell? ⟨b, j, none⟩ = w.cell? ⟨b, j, none⟩) : ∀ (L : List Nat) {G' : List Gh},
    (∀ (k : Nat) (g : Gh), k ∉ L → G[k]? = some g → ∃ g' : Gh, G'[k]? = some g' ∧ g'.root = g.root) → G'.length ≥ G.length → ∀ {x l}, VAs w I G x l → VAs w' I' G' x (demsL L l)
  | [], G', hG, _, x, l, h => h.mono hI hc (fun k g e => hG k g (by simp) e)
  | q :: L, G', hG, hlen, x, l, h => by
    have h1 := VAs.demAll hI hc L (G' := match G[q]? with | some g => G'.set q g | none => G') (fun k g hk e => by
      by_cases hkq : k = q
      · subst hkq
        rw [e]
        exact ⟨g, by simp only; rw [List.getElem?_set]; simp; have := (List.getElem?_eq_some_iff.1 e).1; omega, rfl⟩
      · obtain ⟨g', e1, e2⟩ := hG k g (by simp [hkq, hk]) e
        refine ⟨g', ?_, e2⟩
        cases G[q]? with
        | none => exact e1
        | some gq => simp only; rw [List.getElem?_set, if_neg (fun h => hkq h.symm)]; exact e1) (by cases G[q]? <;> simp [hlen]) h
    refine VAs.dem (fun _ _ h => h) (fun _ _ _ => rfl) q (fun k g hk e => ?_) h1
    refine ⟨g, ?_, rfl⟩
    cases hq : G[q]? with
    | none => rw [hq] at e; exact e
    | some gq => rw [hq] at e; simp only at e; rw [List.getElem?_set, if_neg (fun h => hk h.symm)] at e; exact e
theorem ObjR.demAll (hI : ∀ b j, I b j → I' b j) (hc : ∀ b j, I b j → w'.cell? ⟨b, j, none⟩ = w.cell? ⟨b, j, none⟩) : ∀ (L : List Nat) {G' : List Gh},
    (∀ (k : Nat) (g : Gh), k ∉ L → G[k]? = some g → ∃ g' : Gh, G'[k]? = some g' ∧ g'.root = g.root) → G'.length ≥ G.length → ∀ {g o}, (∀ b, g.F b → w'.heap[b]? = w.heap[b]?) → (∀ b j, g.F b → I' b j → I b j) →
    ObjR w I G g o → ObjR w' I' G' g (demO L o)
  | [], G', hG, _, g, o, hF, hIF, h => h.keep hI hc (fun k g e => hG k g (by simp) e) hF hIF
  | q :: L, G', hG, hlen, g, o, hF, hIF, h => by
    have h1 := ObjR.demAll hI hc L (G' := match G[q]? with | some g => G'.set q g | none => G') (fun k g hk e => by
      by_cases hkq : k = q
      · subst hkq
        rw [e]
        exact ⟨g, by simp only; rw [List.getElem?_set]; simp; have := (List.getElem?_eq_some_iff.1 e).1; omega, rfl⟩
      · obtain ⟨g', e1, e2⟩ := hG k g (by simp [hkq, hk]) e
        refine ⟨g', ?_, e2⟩
        cases G[q]? with
        | none => exact e1
        | some gq => simp only; rw [List.getElem?_set, if_neg (fun h => hkq h.symm)]; exact e1) (by cases G[q]? <;> simp [hlen]) hF hIF h
    refine ObjR.demK q (fun _ _ h => h) (fun _ _ _ => rfl) (fun k g hk e => ?_) (fun _ _ => rfl) (fun _ _ _ h => h) h1
    refine ⟨g, ?_, rfl⟩
    cases hq : G[q]? with
    | none => rw [hq] at e; exact e
    | some gq => rw [hq] at e; simp only at e; rw [List.getElem?_set, if_neg (fun h => hk h.symm)] at e; exact e
theorem ObjR.ren (ρ : Nat → Nat) (hG : ∀ (k : Nat) (g : Gh), G[k]? = some g → ∃ g' : Gh, G'[ρ k]? = some g' ∧ g'.root = g.root) {g : Gh} {o : O} (h : ObjR w I G g o) : ObjR w I G' g (o.ren ρ) := by
  cases o with
  | box t l =>
    obtain ⟨b, cs, h1, h2, h3, h4, h5, h6⟩ := h
    exact ⟨b, cs, h1, h2, h3.map (fun _ _ h => h) (fun _ _ _ => rfl) ρ hG, h4, h5, h6⟩
  | app t sz dp => exact h
  | row t sz l =>
    obtain ⟨b, cs, h1, h2, h3, h4, h5, h6, h7⟩ := h
    refine ⟨b, cs, by rw [A.rens_eq, List.length_map]; exact h1, h2, ?_, h4, fun x hx => ?_, h6, h7⟩
    · have := h3.map (fun _ _ h => h) (fun _ _ _ => rfl) ρ hG
      rw [A.rens_eq, A.flat_ren]
      rwa [A.rens_eq] at this
    · rw [A.rens_eq] at hx
      obtain ⟨y, hy, rfl⟩ := List.mem_map.1 hx
      rw [A.cells_ren, List.length_map]
      exact h5 y hy
  | opn r t sz l =>
    obtain ⟨h0, b, cs, t', sp, cap, h1, hcap, h2, h3, h4, h5, h6, h7⟩ := h
    refine ⟨h0, b, cs, t', sp, cap, by rw [A.rens_eq, List.length_map]; exact h1, by rw [A.rens_eq, List.length_map]; exact hcap, h2, ?_, by rw [A.rens_eq, List.length_map]; exact h4, fun x hx => ?_, h6, h7⟩
    · have := h3.map (fun _ _ h => h) (fun _ _ _ => rfl) ρ hG
      rw [A.rens_eq, A.flat_ren]
      rw [A.rens_eq, List.map_append, List.map_replicate] at this
      exact this
    · rw [A.rens_eq] at hx
      obtain ⟨y, hy, rfl⟩ := List.mem_map.1 hx
      rw [A.cells_ren, List.length_map]
      exact h5 y hy
  | forest l => exact h
  | map kt vt l => exact h
  | dead => exact h
mutual
theorem VA.unren {p : Nat} {ρ : Nat → Nat} (hG : ∀ (i : Nat), i < p → G'[i]? = G[ρ i]?) : ∀ (a : A) {x : Value}, a.under p → VA w I G x (a.ren ρ) → VA w I G' x a
  | .d y, x, _, h => by rw [A.ren] at h; cases h with | d h => exact .d h
  | .nil, x, _, h => by rw [A.ren] at h; cases h; exact .nil
  | .raw y, x, _, h => by rw [A.ren] at h; cases h with | raw _ h => exact .raw _ h
  | .any, x, _, _ => .any x
  | .rptr l, x, _, h => by rw [A.ren] at h; cases h with | rptr b off l h => exact .rptr b off l h
  | .agg l, x, hu, h => by
    rw [A.ren] at h
    generalize hl : A.rens ρ l = l' at h
    cases h with
    | agg cs l' h h1 => subst hl; exact .agg cs l (VAs.unren hG l (by simpa [A.under] using hu) h) h1
  | .tup l, x, hu, h => by
    rw [A.ren] at h
    generalize hl : A.rens ρ l = l' at h
    cases h with
    | tup cs l' h => subst hl; exact .tup cs l (VAs.unren hG l (by simpa [A.under] using hu) h)
  | .fn f l, x, hu, h => by
    rw [A.ren] at h
    generalize hl : A.rens ρ l = l' at h
    cases h with
    | fn f cs l' h => subst hl; exact .fn f cs l (VAs.unren hG l (by simpa [A.under] using hu) h)
  | .sl _ _, _, hu, _ => by simp [A.under] at hu
  | .ref k o, x, hu, h => by
    rw [A.ren] at h
    have hk : k < p := by simpa [A.under] using hu
    cases h with
    | ref b _ _ g h1 h2 => exact .ref b k o g ((hG k hk).trans h1) h2
  | .own k l, x, hu, h => by
    rw [A.ren] at h
    have hk : k < p := by simpa [A.under] using hu
    cases h with
    | own _ _ g h1 h2 h3 => exact .own k l g ((hG k hk).trans h1) h2 h3
  | .arr k, x, hu, h => by
    rw [A.ren] at h
    have hk : k < p := by simpa [A.under] using hu
    cases h with
    | arr _ g h1 h2 h3 => exact .arr k g ((hG k hk).trans h1) h2 h3
  | .eptr k sz i o, x, hu, h => by
    rw [A.ren] at h
    have hk : k < p := by simpa [A.under] using hu
    cases h with
    | eptr b _ _ _ _ n c g h1 h2 => exact .eptr b k sz i o n c g ((hG k hk).trans h1) h2
  | .mp k, x, hu, h => by
    rw [A.ren] at h
    have hk : k < p := by simpa [A.under] using hu
    cases h with
    | mp r _ g h1 h2 => exact .mp r k g ((hG k hk).trans h1) h2
theorem VAs.unren {p : Nat} {ρ : Nat → Nat} (hG : ∀ (i : Nat), i < p → G'[i]? = G[ρ i]?) : ∀ (l : List A) {x : List Value}, A.unders p l → VAs w I G x (A.rens ρ l) → VAs w I G' x l
  | [], x, _, h => by rw [A.rens] at h; cases h; exact .nil
  | a :: l, x, hu, h => by
    rw [A.rens] at h
    cases h with
    | cons h1 h2 => exact .cons (VA.unren hG a (by simpa [A.unders] using hu.1) h1) (VAs.unren hG l hu.2 h2)
end
theorem rens_get (ρ : Nat → Nat) : ∀ (l : List O) (i : Nat), (O.rens ρ l)[i]? = (l[i]?).map (O.ren ρ)
  | [], i => by simp [O.rens]
  | o :: l, 0 => by simp [O.rens]
  | o :: l, i + 1 => by simp [O.rens, rens_get ρ l i]
theorem rens_len (ρ : Nat → Nat) : ∀ l : List O, (O.rens ρ l).length = l.length
  | [] => rfl
  | o :: l => by simp [O.rens, rens_len ρ l]
theorem pick_get (h : List O) : ∀ (ids : List Nat) (i : Nat), (pick h ids)[i]? = (ids[i]?).map fun k => (h[k]?).getD .dead
  | [], i => by simp [pick]
  | k :: ids, 0 => by simp [pick]
  | k :: ids, i + 1 => by simp [pick, pick_get h ids i]
theorem pick_len (h : List O) : ∀ ids : List Nat, (pick h ids).length = ids.length
  | [] => rfl
  | k :: ids => by simp [pick, pick_len h ids]
theorem unders_get {p : Nat} : ∀ {l : List O}, O.unders p l → ∀ {i : Nat} {o : O}, l[i]? = some o → O.under p o
  | [], _, i, o, e => by simp at e
  | q :: l, h, 0, o, e => by simp at e; subst e; exact h.1
  | q :: l, h, i + 1, o, e => unders_get h.2 (i := i) (by simpa using e)
theorem olel_low {n m : Nat} : ∀ {l l' : List O}, O.lel n m l l' → ∀ {k : Nat} {o' : O}, l'[k]? = some o' → k < l.length → ∃ o, l[k]? = some o ∧ O.le n m o o' := fun {l l'} h {k o'} e hk => by
  rcases olel_get h e with h | ⟨h, _⟩
  · exact h
  · omega
theorem use_ct0 {f : FuncId} {args' : List A} {h' : List O} {X : Type} {φ : X → Prop} {ret : X → A} {post : X → List O} (ct : Ct P f args' h' φ ret post) (ids : List Nat) {args : List A} {dst : Option Nat} {K : St → Prop}
    (hnd : ids.Nodup) (hil : ids.length = h'.length) (hin : ∀ k ∈ ids, k < s.h.length) (hua : A.unders h'.length args') (huo : O.unders h'.length h')
    (hargs : A.lel s.h.length s.h.length args (A.rens (rho ids s.h.length) args')) (hobj : O.lel s.h.length s.h.length (pick s.h ids) (O.rens (rho ids s.h.length) h'))
    (hK : ∀ x, φ x → K ((s.back ids h' (post x)).put dst ((ret x).ren (rho ids s.h.length)))) : ∀ c a w I G, RelX c s a w I G → ∀ vs : List Value, VAs w I G vs args →
    Calls P f vs.toArray w fun e w' => ∃ v, e = .returned v ∧ (ids = [] → Grow w w') ∧ ∃ s', K s' ∧ Rel c s' (a.put dst v) w' := by
  intro c a w I G hr vs hvs
  have hlen := hr.objs.len
  let ρ := rho ids s.h.length
  let G0 : List Gh := ids.map fun k => G.getD k nilGh
  have hG0 : ∀ {i k : Nat}, ids[i]? = some k → G0[i]? = G[k]? := fun {i k} e => by
    have hk := hin k (List.mem_of_getElem? e)
    simp only [G0, List.getElem?_map, e, Option.map_some, List.getD_eq_getElem?_getD]
    rw [List.getElem?_eq_getElem (by omega)]; rfl
  have hG0l : G0.length = h'.length := by simp [G0, hil]
  have hun : ∀ i, i < h'.length → G0[i]? = G[ρ i]? := fun i hi => by
    have e : ids[i]? = some ids[i] := List.getElem?_eq_getElem (by omega)
    rw [hG0 e]
    show _ = G[rho ids s.h.length i]?
    rw [rho_at e]
  have hRid : Roots G G s.h.length s.h.length := ⟨fun _ _ _ e => e, fun k h1 h2 => by omega⟩
  have harg : VAs w I G0 vs args' := VAs.unren hun args' hua (VAs.le hRid hvs hargs)
  -- the objects that are handed over
  have each : ∀ {i : Nat} {o' : O}, h'[i]? = some o' → ∃ (k : Nat) (g : Gh) (o : O), ids[i]? = some k ∧ G[k]? = some g ∧ s.h[k]? = some o ∧ O.le s.h.length s.h.length o (o'.ren ρ) ∧ ObjR w I G g o := fun {i o'} e => by
    have hi : i < h'.length := (List.getElem?_eq_some_iff.1 e).1
    have ei : ids[i]? = some ids[i] := List.getElem?_eq_getElem (by omega)
    have hk := hin _ (List.mem_of_getElem? ei)
    have es : s.h[ids[i]]? = some s.h[ids[i]] := List.getElem?_eq_getElem hk
    obtain ⟨o, e1, e2⟩ := olel_low hobj (k := i) (o' := o'.ren ρ) (by rw [rens_get, e]; rfl) (by rw [pick_len]; omega)
    rw [pick_get, ei, Option.map_some, es] at e1
    cases e1
    have eg : G[ids[i]]? = some G[ids[i]] := List.getElem?_eq_getElem (by omega)
    exact ⟨_, _, _, ei, eg, es, e2, hr.objs.obj _ _ _ eg es⟩
  have handed : ∀ {i : Nat} {g : Gh} {o' : O}, G0[i]? = some g → h'[i]? = some o' → ObjR w I G0 g o' := fun {i g o'} eg e => by
    obtain ⟨k, g', o, e1, e2, e3, e4, e5⟩ := each e
    rw [hG0 e1, e2] at eg; cases eg
    have hu := unders_get huo e
    have hnd : o'.ren ρ = .dead → ∀ k, ¬ g.F k := fun h => by cases o' <;> simp [O.ren] at h; simp [O.under] at hu
    have h5 := e5.le hRid e4 hnd
    cases o' with
    | box t l =>
      obtain ⟨b, cs, h1, h2, h3, h4, h5, h6⟩ := h5
      exact ⟨b, cs, h1, h2, VAs.unren hun l (by simpa [O.under] using hu) h3, h4, h5, h6⟩
    | app t sz dp => exact h5
    | map kt vt l => exact h5
    | forest l => exact h5
    | opn r t sz l => simp [O.under] at hu
    | row t sz l => simp [O.under] at hu
    | dead => simp [O.under] at hu
  have idsinj : ∀ {i j k : Nat}, ids[i]? = some k → ids[j]? = some k → i = j := fun {i j k} e1 e2 => by
    have h1 := (List.getElem?_eq_some_iff.1 e1)
    have h2 := (List.getElem?_eq_some_iff.1 e2)
    exact (List.getElem_inj hnd).1 (h1.2.trans h2.2.symm)
  have low0 : ∀ {i : Nat} {g : Gh}, G0[i]? = some g → ∃ k, ids[i]? = some k ∧ G[k]? = some g := fun {i g} e => by
    have hi : i < ids.length := by have := (List.getElem?_eq_some_iff.1 e).1; simpa [G0] using this
    have ei : ids[i]? = some ids[i] := List.getElem?_eq_getElem hi
    exact ⟨_, ei, (hG0 ei).symm.trans e⟩
  have hrel0 : RelH w I G0 h' := ⟨hG0l, fun i g o' eg e => handed eg e, fun i j gi gj b e1 e2 hij hb => by
      obtain ⟨k, f1, f2⟩ := low0 e1
      obtain ⟨q, f3, f4⟩ := low0 e2
      exact hr.objs.disj k q gi gj b f2 f4 (fun h => hij (idsinj f1 (h ▸ f3))) hb, fun i g b e hb => by
      obtain ⟨k, _, f2⟩ := low0 e
      exact hr.objs.inb k g b f2 hb, hr.objs.imm⟩
  have hF0 : ∀ {b}, ownF G0 b → ∃ (k : Nat) (g : Gh), k ∈ ids ∧ G[k]? = some g ∧ g.F b := fun {b} ⟨i, g, e, hb⟩ => by
    obtain ⟨k, f1, f2⟩ := low0 e
    exact ⟨k, g, List.mem_of_getElem? f1, f2, hb⟩
  refine (ct.2 w I G0 vs harg hrel0).mono ?_
  rintro e w' ⟨v, rfl, x, hx, I', G', hv, hrel', hfr, hpl, hroots⟩
  refine ⟨v, rfl, fun hids => ⟨hfr.os, hfr.tape, hfr.output, hfr.size, fun b hb => hfr.block b hb (fun hF => by obtain ⟨k, _, hk, _⟩ := hF0 hF; rw [hids] at hk; cases hk)⟩, _, hK x hx, ?_⟩
  -- the ghosts behind the call
  let p := ids.length
  have hG'l := hrel'.len
  have hpG : p ≤ G'.length := by rw [hG'l]; simp only [p]; omega
  let G2 : List Gh := putL G ids (G'.take p) ++ G'.drop p
  have htp : (G'.take p).length = p := by simp; omega
  have hputl : (putL G ids (G'.take p)).length = s.h.length := by rw [putL_len]; exact hlen
  have inG : ∀ k ∈ ids, k < G.length := fun k hk => by rw [hlen]; exact hin k hk
  have at2 : ∀ {i k : Nat}, ids[i]? = some k → G2[k]? = G'[i]? := fun {i k} e => by
    have hi : i < p := (List.getElem?_eq_some_iff.1 e).1
    simp only [G2]
    rw [List.getElem?_append_left (by rw [hputl]; exact hin k (List.mem_of_getElem? e)), putL_at G ids _ hnd inG (by omega) e, List.getElem?_take, if_pos hi]
  have not2 : ∀ {k : Nat}, k < s.h.length → k ∉ ids → G2[k]? = G[k]? := fun {k} h1 h2 => by
    simp only [G2]
    rw [List.getElem?_append_left (by rw [hputl]; exact h1), putL_not G ids _ h2]
  have new2 : ∀ {k : Nat}, s.h.length ≤ k → G2[k]? = G'[p + (k - s.h.length)]? := fun {k} h1 => by
    simp only [G2]
    rw [List.getElem?_append_right (by rw [hputl]; exact h1), hputl, List.getElem?_drop]
  have ren2 : ∀ (i : Nat) (g : Gh), G'[i]? = some g → ∃ g' : Gh, G2[ρ i]? = some g' ∧ g'.root = g.root := fun i g e => by
    rcases Nat.lt_or_ge i p with hi | hi
    · have ei : ids[i]? = some ids[i] := List.getElem?_eq_getElem hi
      refine ⟨g, ?_, rfl⟩
      show G2[rho ids s.h.length i]? = _
      rw [rho_at ei, at2 ei]; exact e
    · refine ⟨g, ?_, rfl⟩
      show G2[rho ids s.h.length i]? = _
      rw [rho_new hi, new2 (by omega), ← e]
      congr 1
      omega
  -- where a ghost of the new list comes from
  have from2 : ∀ {k : Nat} {g : Gh}, G2[k]? = some g → (∃ i, G'[i]? = some g ∧ ρ i = k) ∨ (k < s.h.length ∧ k ∉ ids ∧ G[k]? = some g) := fun {k g} e => by
    rcases Nat.lt_or_ge k s.h.length with hk | hk
    · by_cases hm : k ∈ ids
      · obtain ⟨i, hi⟩ := List.mem_iff_getElem?.1 hm
        rw [at2 hi] at e
        exact .inl ⟨i, e, rho_at hi⟩
      · rw [not2 hk hm] at e
        exact .inr ⟨hk, hm, e⟩
    · rw [new2 hk] at e
      refine .inl ⟨_, e, ?_⟩
      show rho ids s.h.length _ = k
      rw [rho_new (by omega)]
      omega
  have rinj : ∀ {i j : Nat}, i < G'.length → j < G'.length → ρ i = ρ j → i = j := fun {i j} hi hj e => by
    have e' : rho ids s.h.length i = rho ids s.h.length j := e
    rcases Nat.lt_or_ge i p with h1 | h1 <;> rcases Nat.lt_or_ge j p with h2 | h2
    · have ei : ids[i]? = some ids[i] := List.getElem?_eq_getElem h1
      have ej : ids[j]? = some ids[j] := List.getElem?_eq_getElem h2
      rw [rho_at ei, rho_at ej] at e'
      exact idsinj ei (e' ▸ ej)
    · have ei : ids[i]? = some ids[i] := List.getElem?_eq_getElem h1
      rw [rho_at ei, rho_new h2] at e'
      have := hin _ (List.mem_of_getElem? ei)
      omega
    · have ej : ids[j]? = some ids[j] := List.getElem?_eq_getElem h2
      rw [rho_at ej, rho_new h1] at e'
      have := hin _ (List.mem_of_getElem? ej)
      omega
    · rw [rho_new h1, rho_new h2] at e'
      simp only [p] at h1 h2
      omega
  -- blocks of the objects that were kept back
  have apart : ∀ {k : Nat} {g : Gh} {b : Nat}, k ∉ ids → G[k]? = some g → g.F b → b < w.heap.size ∧ ¬ ownF G0 b := fun {k g b} hk e hb => by
    refine ⟨hr.objs.inb k g b e hb, fun h => ?_⟩
    obtain ⟨q, gq, f1, f2, f3⟩ := hF0 h
    exact hr.objs.disj q k gq g b f2 e (fun h => hk (h ▸ f1)) f3 hb
  have hIc : ∀ b j, I b j → I' b j ∧ w'.cell? ⟨b, j, none⟩ = w.cell? ⟨b, j, none⟩ := hfr.cell
  have hI2 : ∀ {k : Nat} {g : Gh} {b j : Nat}, k ∉ ids → G[k]? = some g → g.F b → I' b j → I b j := fun {k g b j} hk e hb hi => by
    obtain ⟨h1, h2⟩ := apart hk e hb
    rcases hfr.im b j hi with h | h | h
    · exact h
    · exact absurd h h2
    · have : w.heap.size ≤ b := h; omega
  have rootsK : ∀ (k : Nat) (g : Gh), k ∉ unfixed ids h' → G[k]? = some g → ∃ g' : Gh, G2[k]? = some g' ∧ g'.root = g.root := fun k g hk e => by
    have hkl : k < s.h.length := by rw [← hlen]; exact (List.getElem?_eq_some_iff.1 e).1
    by_cases hm : k ∈ ids
    · obtain ⟨i, hi⟩ := List.mem_iff_getElem?.1 hm
      have hi' : i < h'.length := by rw [← hil]; exact (List.getElem?_eq_some_iff.1 hi).1
      have eo : h'[i]? = some h'[i] := List.getElem?_eq_getElem hi'
      cases hfx : h'[i].fixed with
      | false => exact absurd (unfixed_mem hi eo hfx) hk
      | true =>
        obtain ⟨g', f1, f2⟩ := hroots i g _ ((hG0 hi).trans e) eo hfx
        exact ⟨g', (at2 hi).trans f1, f2⟩
    · exact ⟨g, (not2 hkl hm).trans e, rfl⟩
  have hlen2 : G2.length ≥ G.length := by simp only [G2]; rw [List.length_append, hputl]; omega
  have hpost : ∀ {i : Nat} {o : O}, (post x)[i]? = some o → ∃ g, G'[i]? = some g := fun {i o} e => by
    have := (List.getElem?_eq_some_iff.1 e).1
    exact ⟨_, List.getElem?_eq_getElem (by omega)⟩
  have hbase : RelX c (s.back ids h' (post x)) a w' I' G2 := by
    refine ⟨hr.defers, ?_, ⟨?_, ?_, ?_, ?_, hrel'.imm⟩, ⟨hfr.os.trans hr.fr.os, hfr.tape.trans hr.fr.tape, hfr.output.trans hr.fr.output, Nat.le_trans hr.fr.size hfr.size, ?_, ?_, ?_, ?_⟩, ?_⟩
    · exact VAs.demAll (fun b j h => (hIc b j h).1) (fun b j h => (hIc b j h).2) (unfixed ids h') rootsK hlen2 hr.tmps
    · simp only [St.back, G2, List.length_append, putL_len, demLL_len, rens_len, List.length_drop, hlen, hG'l]; rfl
    · intro k g o eg eo
      simp only [St.back] at eo
      have hpl2 : (putL (demLL (unfixed ids h') s.h) ids (O.rens ρ ((post x).take ids.length))).length = s.h.length := by rw [putL_len, demLL_len]
      rcases Nat.lt_or_ge k s.h.length with hk | hk
      · rw [List.getElem?_append_left (by rw [hpl2]; exact hk)] at eo
        by_cases hm : k ∈ ids
        · obtain ⟨i, hi⟩ := List.mem_iff_getElem?.1 hm
          have hip : i < ids.length := (List.getElem?_eq_some_iff.1 hi).1
          rw [putL_at _ ids _ hnd (fun k hk => by rw [demLL_len]; exact hin k hk) (by rw [rens_len, List.length_take]; omega) hi, rens_get, List.getElem?_take, if_pos hip] at eo
          obtain ⟨o0, f1, rfl⟩ := Option.map_eq_some_iff.1 eo
          rw [at2 hi] at eg
          exact (hrel'.obj i g o0 eg f1).ren ρ ren2
        · rw [putL_not _ ids _ hm, demLL_get] at eo
          obtain ⟨o0, f1, rfl⟩ := Option.map_eq_some_iff.1 eo
          rw [not2 hk hm] at eg
          refine ObjR.demAll (fun b j h => (hIc b j h).1) (fun b j h => (hIc b j h).2) (unfixed ids h') rootsK hlen2 (fun b hb => ?_) (fun b j hb hi => hI2 hm eg hb hi) (hr.objs.obj k g o0 eg f1)
          obtain ⟨h1, h2⟩ := apart hm eg hb
          exact hfr.block b h1 h2
      · rw [List.getElem?_append_right (by rw [hpl2]; exact hk), hpl2, rens_get, List.getElem?_drop] at eo
        obtain ⟨o0, f1, rfl⟩ := Option.map_eq_some_iff.1 eo
        rw [new2 hk] at eg
        exact (hrel'.obj _ g o0 eg f1).ren ρ ren2
    · intro i j gi gj b e1 e2 hij hb hb'
      rcases from2 e1 with ⟨i', f1, f2⟩ | ⟨h1, h2, f1⟩ <;> rcases from2 e2 with ⟨j', f3, f4⟩ | ⟨h3, h4, f3⟩
      · exact hrel'.disj i' j' gi gj b f1 f3 (fun h => hij (by rw [← f2, ← f4, h])) hb hb'
      · obtain ⟨q1, q2⟩ := apart h4 f3 hb'
        rcases hfr.own i' gi b f1 hb with h | h
        · exact q2 h
        · have : w.heap.size ≤ b := h; omega
      · obtain ⟨q1, q2⟩ := apart h2 f1 hb
        rcases hfr.own j' gj b f3 hb' with h | h
        · exact q2 h
        · have : w.heap.size ≤ b := h; omega
      · exact hr.objs.disj i j gi gj b f1 f3 hij hb hb'
    · intro k g b e hb
      rcases from2 e with ⟨i, f1, _⟩ | ⟨_, _, f1⟩
      · exact hrel'.inb i g b f1 hb
      · exact Nat.lt_of_lt_of_le (hr.objs.inb k g b f1 hb) hfr.size
    · intro b hb hn
      refine (hfr.block b (Nat.lt_of_lt_of_le hb hr.fr.size) (fun h => ?_)).trans (hr.fr.block b hb hn)
      obtain ⟨k, g, _, f2, f3⟩ := hF0 h
      rcases hr.fr.own k g b f2 f3 with h | h
      · exact hn h
      · omega
    · intro b j hi
      obtain ⟨h1, h2⟩ := hr.fr.cell b j hi
      exact ⟨(hIc b j h1).1, (hIc b j h1).2.trans h2⟩
    · intro b j hi
      rcases hfr.im b j hi with h | h | h
      · exact hr.fr.im b j h
      · obtain ⟨k, g, _, f2, f3⟩ := hF0 h
        exact .inr (hr.fr.own k g b f2 f3)
      · exact .inr (.inr (Nat.le_trans hr.fr.size h))
    · intro k g b e hb
      rcases from2 e with ⟨i, f1, _⟩ | ⟨_, _, f1⟩
      · rcases hfr.own i g b f1 hb with h | h
        · obtain ⟨q, gq, _, f2, f3⟩ := hF0 h
          exact hr.fr.own q gq b f2 f3
        · exact .inr (Nat.le_trans hr.fr.size h)
      · exact hr.fr.own k g b f1 hb
    · intro k v e
      obtain ⟨h1, h2, g, h3, h4⟩ := hr.pr k v e
      refine ⟨h1, h2, ?_⟩
      have hkl : k < s.h.length := by rw [← hlen]; exact (List.getElem?_eq_some_iff.1 h3).1
      by_cases hm : k ∈ unfixed ids h'
      · -- an object whose root may turn has a row for its root: none of those
        exfalso
        have hid : ∀ {ids : List Nat} {h : List O}, k ∈ unfixed ids h → ∃ (i : Nat) (o : O), ids[i]? = some k ∧ h[i]? = some o ∧ o.fixed = false := fun {ids h} => by
          induction ids generalizing h with
          | nil => intro h; simp [unfixed] at h
          | cons q ids ih =>
            intro hq
            cases h with
            | nil => simp [unfixed] at hq
            | cons o h =>
              simp only [unfixed] at hq
              split at hq
              · obtain ⟨i, o, f1, f2, f3⟩ := ih hq; exact ⟨i + 1, o, by simpa using f1, by simpa using f2, f3⟩
              · rename_i hfx
                cases hq with
                | head => exact ⟨0, o, rfl, rfl, hfx⟩
                | tail _ hq => obtain ⟨i, o, f1, f2, f3⟩ := ih hq; exact ⟨i + 1, o, by simpa using f1, by simpa using f2, f3⟩
        obtain ⟨i, o, f1, f2, f3⟩ := hid hm
        obtain ⟨q, gq, oq, g1, g2, g3, g4, g5⟩ := each f2
        rw [f1] at g1; cases g1
        rw [h3] at g2; cases g2
        have hu := unders_get huo f2
        cases o with
        | app t sz dp =>
          cases oq <;> simp only [O.ren, O.le] at g4
          rcases g5 with ⟨q1, _⟩ | ⟨_, _, _, q1, _⟩ | ⟨_, _, _, _, q1, _⟩ <;> exact h2 _ _ _ (h4.symm.trans q1)
        | forest l =>
          cases oq <;> simp only [O.ren, O.le] at g4
          exact h2 _ _ _ (h4.symm.trans g5.1)
        | opn r t sz l => simp [O.under] at hu
        | row t sz l => simp [O.under] at hu
        | dead => simp [O.under] at hu
        | box t l => simp [O.fixed] at f3
        | map kt vt l => simp [O.fixed] at f3
      · obtain ⟨g', f1, f2⟩ := rootsK k g hm h3
        exact ⟨g', f1, f2.trans h4⟩
  exact ⟨I', G2, hbase.put (hv.map (fun _ _ h => h) (fun _ _ _ => rfl) ρ ren2) dst⟩
/-- **A contract is used.** -/
theorem use_ct {f : FuncId} {args' : List A} {h' : List O} {X : Type} {φ : X → Prop} {ret : X → A} {post : X → List O} (ct : Ct P f args' h' φ ret post) (ids : List Nat) {args : List A} {dst : Option Nat} {K : St → Prop}
    (hnd : ids.Nodup) (hil : ids.length = h'.length) (hin : ∀ k ∈ ids, k < s.h.length) (hua : A.unders h'.length args') (huo : O.unders h'.length h')
    (hargs : A.lel s.h.length s.h.length args (A.rens (rho ids s.h.length) args')) (hobj : O.lel s.h.length s.h.length (pick s.h ids) (O.rens (rho ids s.h.length) h'))
    (hK : ∀ x, φ x → K ((s.back ids h' (post x)).put dst ((ret x).ren (rho ids s.h.length)))) : callVC P f args s dst K :=
  ⟨ct.1, fun c a w I G hr vs hvs => (use_ct0 ct ids hnd hil hin hua huo hargs hobj hK c a w I G hr vs hvs).mono fun e w' ⟨v, h1, _, h3⟩ => ⟨v, h1, h3⟩⟩
/-- A call that leaves all old blocks alone. -/
def calmVC (P : Program) (f : FuncId) (args : List A) (s : St) (dst : Option Nat) (K : St → Prop) : Prop :=
  Has P f ∧ ∀ c a w I G, RelX c s a w I G → ∀ vs : List Value, VAs w I G vs args →
    Calls P f vs.toArray w fun e w' => ∃ v, e = .returned v ∧ Grow w w' ∧ ∃ s', K s' ∧ Rel c s' (a.put dst v) w'
theorem use_calm {f : FuncId} {args' : List A} {X : Type} {φ : X → Prop} {ret : X → A} {post : X → List O} (ct : Ct P f args' [] φ ret post) {args : List A} {dst : Option Nat} {K : St → Prop}
    (hua : A.unders 0 args') (hargs : A.lel s.h.length s.h.length args (A.rens (rho [] s.h.length) args'))
    (hK : ∀ x, φ x → K ((s.back [] [] (post x)).put dst ((ret x).ren (rho [] s.h.length)))) : calmVC P f args s dst K :=
  ⟨ct.1, fun c a w I G hr vs hvs => (use_ct0 ct [] .nil rfl (fun _ h => by cases h) hua trivial hargs trivial hK c a w I G hr vs hvs).mono fun e w' ⟨v, h1, h2, h3⟩ => ⟨v, h1, h2 rfl, h3⟩⟩
end
end Go.Ab
/- Regions whose order is drawn: one walk serves every order. -/
namespace Go.Ab
open Go
set_option linter.unusedVariables false
set_option linter.unusedSimpArgs false
/-- What only reads. -/
def quiet : Op → Bool
  | .move _ => true
  | .assign _ => true
  | .pick _ _ _ => true
  | .load _ _ => true
  | .nilCheck _ => true
  | .binOp _ _ _ _ _ => true
  | .unOp _ _ _ => true
  | .fieldAddr _ _ _ => true
  | .field _ _ _ => true
  | .indexAddr _ _ _ => true
  | .index _ _ _ => true
  | .slice _ _ _ _ none => true
  | .build _ _ => true
  | .makeFunc (.func _) ⟨[]⟩ _ => true
  | .extract _ _ => true
  | .call ⟨.builtin .len, _, _⟩ => true
  | _ => false
section
variable {P : Program} {T : Ty} {w w' : World} {I I' : Im} {G G' : List Gh} {c : Cx} {s s' : St} {a : Act}
theorem Grow.ext (h : Grow w w') : Ext w w' := fun b x e => by
  rw [h.block b (Array.getElem?_eq_some_iff.1 e).1]; exact e
def QY (P : Program) (a : Act) (w : World) (I : Im) (G : List Gh) (o : Oper) (K : A → Prop) : Prop :=
  ∃ v r, (∀ w', Grow w w' → (execOp a.eval o).run P w' = .ok (.value v) w') ∧ VA w I G v r ∧ K r
theorem QY.of {o : Oper} {m : Sem Value} {K : A → Prop} (e : execOp a.eval o = (do pure (Next.value (← m)) : Sem Next)) (h : Yields P w I G m K) : QY P a w I G o K := by
  obtain ⟨v, r, h1, h2, h3⟩ := h
  refine ⟨v, r, fun w' hg => ?_, h2, h3⟩
  rw [e]
  simp only [Sem.run_bind, h1 w' hg.ext, Result.andThen_ok, Sem.run_pure]
theorem semFree_quiet {t : List A} {o : Op} (h : semFree t o = true) : quiet o = true := by
  unfold semFree at h
  split at h <;> first | rfl | cases h
theorem quiet_ok (hT : TOk P T) {o : Oper} {K : St → Prop} (hq : semFree s.t o.op = true) (h : vcOp P T o.op o.dst s K) (hr : RelX c s a w I G) : QY P a w I G o fun r => K (s.put o.dst r) := by
  obtain ⟨dst, op, type, pos, after, guard⟩ := o
  have ev := fun x => VA.eval hr.tmps x
  simp only at h hq ⊢
  unfold vcOp at h
  split at h
  · exact ⟨_, _, fun w' _ => by simp [execOp], ev _, h⟩
  · exact ⟨_, _, fun w' _ => by simp [execOp], ev _, h⟩
  · rename_i x y z
    split at h
    · rename_i b e
      have hx := ev x
      rw [e] at hx
      have hx := hx.inv_v
      have hrun : ∀ w' : World, (execOp a.eval ⟨dst, .pick x y z, type, pos, after, guard⟩).run P w' = .ok (.value (if b then a.eval y else a.eval z)) w' := fun w' => by
        simp [execOp, hx, asBool]
      cases b with
      | true => exact ⟨_, _, fun w' _ => hrun w', ev y, h.1 rfl⟩
      | false => exact ⟨_, _, fun w' _ => hrun w', ev z, h.2 rfl⟩
    · exact h.elim
  · cases hq
  · cases hq
  · exact .of rfl (yields_load hT hr.objs (ev _) h)
  · cases hq
  · rename_i x
    have hx := ev x
    split at h
    · rename_i l e
      rw [e] at hx
      have hrun : ∀ w' : World, (execOp a.eval ⟨dst, .nilCheck x, type, pos, after, guard⟩).run P w' = .ok (.value (a.eval x)) w' := fun w' => by
        cases hx' : a.eval x <;> rw [hx'] at hx <;> cases hx <;> simp [execOp, hx']
      exact ⟨_, _, fun w' _ => hrun w', hx, h⟩
    · rename_i k o e
      rw [e] at hx
      have hrun : ∀ w' : World, (execOp a.eval ⟨dst, .nilCheck x, type, pos, after, guard⟩).run P w' = .ok (.value (a.eval x)) w' := fun w' => by
        cases hx' : a.eval x <;> rw [hx'] at hx <;> cases hx <;> simp [execOp, hx']
      exact ⟨_, _, fun w' _ => hrun w', hx, h⟩
    · rename_i k sz j o e
      rw [e] at hx
      have hrun : ∀ w' : World, (execOp a.eval ⟨dst, .nilCheck x, type, pos, after, guard⟩).run P w' = .ok (.value (a.eval x)) w' := fun w' => by
        cases hx' : a.eval x <;> rw [hx'] at hx <;> cases hx <;> simp [execOp, hx']
      exact ⟨_, _, fun w' _ => hrun w', hx, h⟩
    · rename_i f l e
      rw [e] at hx
      have hrun : ∀ w' : World, (execOp a.eval ⟨dst, .nilCheck x, type, pos, after, guard⟩).run P w' = .ok (.value (a.eval x)) w' := fun w' => by
        cases hx' : a.eval x <;> rw [hx'] at hx <;> cases hx <;> simp [execOp, hx']
      exact ⟨_, _, fun w' _ => hrun w', hx, h⟩
    · exact h.elim
  · exact .of rfl (yields_binT hT (ev _) (ev _) h)
  · exact .of rfl (yields_un (ev _) h)
  · exact .of rfl (yields_fieldAddr hT (ev _) h)
  · exact .of rfl (yields_field hT (ev _) h)
  · exact .of rfl (yields_indexAddr hT hr.objs (ev _) (ev _) h)
  · exact .of rfl (yields_index hT (ev _) (ev _) h)
  · rename_i t x lo hi
    have hsub : ∀ (o : Option Operand) (v : Value) (q : A), o.map a.eval = some v → o.map (opd s.t) = some q → VA w I G v q := fun o v q h1 h2 => by
      cases o with
      | none => simp at h1
      | some y => simp at h1 h2; rw [← h1, ← h2]; exact ev y
    split at h
    · rename_i k e
      simp [semFree, e] at hq
    · exact .of rfl (yields_slice hT (ev _) (hsub lo) (by cases lo <;> simp) (hsub hi) (by cases hi <;> simp) h)
  · rename_i t parts
    have := yields_build (w := w) (I := I) (G := G) hT (t := t) (parts := parts.toList.map fun p => (p.1, a.eval p.2)) (ap := parts.toList.map fun p => (p.1, opd s.t p.2)) (K := fun r => K (s.put dst r))
      (by simpa [Function.comp_def] using VAs.evals' hr.tmps (parts.toList.map (·.2))) (by simp [Function.comp_def]) h
    have e : (parts.map fun (i, x) => (i, a.eval x)) = (parts.toList.map fun p => (p.1, a.eval p.2)).toArray := by
      apply Array.ext'; simp
    rw [← e] at this
    exact .of rfl this
  · cases hq
  · cases hq
  · rename_i f caps
    have hv : VA w I G (.func (.func f) #[] (caps.map a.eval)) (.fn f (opds s.t caps.toList)) := by
      have := VA.fn f _ _ (VAs.evals hr.tmps caps.toList)
      have e : (caps.toList.map a.eval).toArray = caps.map a.eval := by apply Array.ext'; simp
      rwa [e] at this
    have hrun : ∀ w' : World, (execOp a.eval ⟨dst, .makeFunc (.func f) ⟨[]⟩ caps, type, pos, after, guard⟩).run P w' = .ok (.value (.func (.func f) #[] (caps.map a.eval))) w' := fun w' => by
      simp [execOp, Instr.makeFunc]
    exact ⟨_, _, fun w' _ => hrun w', hv, h⟩
  · rename_i x i
    have hx := ev x
    split at h
    · rename_i l e
      obtain ⟨y, hy, h⟩ := h
      rw [e] at hx
      generalize hv : a.eval x = v at hx
      cases hx with
      | tup cs l hl =>
        obtain ⟨z, h1, h2⟩ := hl.get hy
        have hrun : ∀ w' : World, (execOp a.eval ⟨dst, .extract x i, type, pos, after, guard⟩).run P w' = .ok (.value z) w' := fun w' => by
          simp [execOp, hv, Instr.extract, h1]
        exact ⟨_, _, fun w' _ => hrun w', h2, h⟩
    · exact h.elim
  · simp [semFree] at hq
  · simp [semFree] at hq
  · simp [semFree] at hq
  · simp [semFree] at hq
  · rename_i b args ts n1 n2 n3 n4
    clear n1 n2 n3 n4
    have hargs := VAs.evals hr.tmps args.toList
    have hmap : args.map a.eval = (args.toList.map a.eval).toArray := by apply Array.ext'; simp
    have hexec : execOp a.eval ⟨dst, .call ⟨.builtin b, args, ts⟩, type, pos, after, guard⟩ = builtin b ts type (args.map fun | .const _ => true | _ => false) (args.toList.map a.eval).toArray := by
      rw [← hmap]; rfl
    have htl : ts = ts.toList.toArray := by simp
    unfold vcBuiltin at h
    split at h
    · rename_i t x ets eargs
      rw [eargs] at hargs
      obtain ⟨v, ev', hv⟩ := hargs.inv1
      obtain ⟨h1, h2⟩ := h
      split at h2
      · rename_i n en
        refine ⟨_, _, fun w' hg => ?_, .d (.v _ rfl), h2⟩
        have hr' := hr.grow' hg
        have hargs' := VAs.evals hr'.tmps args.toList
        rw [eargs] at hargs'
        obtain ⟨v', ev'', hv'⟩ := hargs'.inv1
        rw [hexec, ev'', htl, ets]
        have := yields_len (P := P) (ty := type) hT hr'.objs hv' h1 en
        simp only [builtin, Sem.run_bind]
        rw [this]
        rfl
      · exact h2.elim
    · simp [semFree] at hq
    · simp [semFree] at hq
    · simp [semFree] at hq
    · exact h.elim
  · simp [semFree] at hq
  · exfalso
    unfold semFree at hq
    split at hq <;> first | (cases hq; done) | solve_by_elim

/-- A call in a region whose order is drawn; or what writes, where nothing that reads is left behind it. -/
def vcCalm (P : Program) (T : Ty) (o : Oper) (s : St) (K : St → Prop) : Prop :=
  match o.op with
  | .call ⟨.value f, args, _⟩ => match opd s.t f with
    | .fn g caps => calmVC P g (opds s.t args.toList ++ caps) s o.dst K
    | _ => False
  | op => vcOp P T op o.dst s K
def isCall : Op → Bool
  | .call ⟨.value _, _, _⟩ => true
  | _ => false
/-- What may write. -/
def loud (ops : Array Oper) (i : Nat) : Bool := (ops[i]?).any fun o => !quiet o.op && !isCall o.op
/-- Those that wait for i. -/
def waits (ops : Array Oper) (listed : Array Bool) (i : Nat) : List Nat :=
  (List.range ops.size).foldl (fun B j => if listed.getD j true == false && j != i && (ops[j]?).any (fun o => o.after.any fun e => Region.binds .any e && (e.on == i || B.contains e.on)) then B ++ [j] else B) []
def waitsOk (ops : Array Oper) (listed : Array Bool) (i : Nat) (B : List Nat) : Bool :=
  B.all (fun j => listed.getD j true == false && (ops[j]?).any fun o => o.after.any fun e => Region.binds .any e && (e.on == i || B.contains e.on)) &&
  (List.range ops.size).all fun j => !loud ops j || listed.getD j true || B.contains j
def vcDraw (P : Program) (T : Ty) (ops : List Oper) : List Nat → St → (St → Prop) → Prop
  | [], s, K => K s
  | i :: r, s, K => match ops[i]? with
    | none => False
    | some o => match quiet o.op with
      | true => vcGuard ops o.guard s (fun s => semFree s.t o.op = true ∧ vcOp P T o.op o.dst s fun s => vcDraw P T ops r s K) (fun s => vcDraw P T ops r (s.put o.dst (.tup [])) K)
      | false => vcGuard ops o.guard s (fun s => vcCalm P T o s fun s => vcDraw P T ops r s K) (fun s => vcDraw P T ops r (s.put o.dst (.tup [])) K)
/-- The order serves: what only reads may be taken first, a call comes up alone. -/
def drawOk (ops : Array Oper) : List Nat → Array Bool → Bool
  | [], listed => Region.ready .any ops listed == []
  | i :: r, listed => (match ops[i]? with
    | none => false
    | some o => match quiet o.op with
      | true => (Region.ready .any ops listed).contains i && Region.free .any ops listed i && waitsOk ops listed i (waits ops listed i)
      | false => Region.ready .any ops listed == [i]) && drawOk ops r (listed.setIfInBounds i true)
def drawAll (ops : Array Oper) (order : List Nat) : Bool :=
  Region.noSelect ops && order.length == ops.size && drawOk ops order (Array.replicate ops.size false)
/-- Whatever order is drawn: behind what does not write, S holds; behind what may write, a new S is chosen. -/
def wpAnyL (P : Program) (ops : Array Oper) (Q : Exit → Act → World → Prop) : Nat → (World → Prop) → Array Bool → Act → World → Prop
  | 0, _, listed, a, w => Region.ready .any ops listed = [] ∧ Q .normal a w
  | n + 1, S, listed, a, w => (Region.ready .any ops listed = [] → Q .normal a w) ∧ ∀ i ∈ Region.ready .any ops listed,
      (loud ops i = false → wpOp P ops Q i (fun a' w' => S w' ∧ wpAnyL P ops Q n S (listed.setIfInBounds i true) a' w') a w) ∧
      (loud ops i = true → wpOp P ops Q i (fun a' w' => ∃ S' : World → Prop, S' w' ∧ wpAnyL P ops Q n S' (listed.setIfInBounds i true) a' w') a w)
theorem anyL_any {ops : Array Oper} {Q : Exit → Act → World → Prop} : ∀ (n : Nat) (S : World → Prop) (listed : Array Bool) (a : Act) (w : World), wpAnyL P ops Q n S listed a w → wpAny P .any ops Q n listed a w
  | 0, _, _, _, _, h => h
  | n + 1, S, listed, a, w, h => ⟨h.1, fun i hi => by
    cases hl : loud ops i with
    | false => exact wpOp_mono (fun a' w' h' => anyL_any n _ _ a' w' h'.2) ((h.2 i hi).1 hl)
    | true => exact wpOp_mono (fun a' w' h' => anyL_any n _ _ a' w' h'.choose_spec.2) ((h.2 i hi).2 hl)⟩
theorem anyL_mono {ops : Array Oper} {Q : Exit → Act → World → Prop} : ∀ (n : Nat) {S S' : World → Prop} (hS : ∀ w, S w → S' w) (listed : Array Bool) (a : Act) (w : World), wpAnyL P ops Q n S listed a w → wpAnyL P ops Q n S' listed a w
  | 0, _, _, _, _, _, _, h => h
  | n + 1, S, S', hS, listed, a, w, h => ⟨h.1, fun i hi => ⟨fun hl => wpOp_mono (fun a' w' h' => ⟨hS _ h'.1, anyL_mono n hS _ a' w' h'.2⟩) ((h.2 i hi).1 hl), (h.2 i hi).2⟩⟩
theorem anyL_done {ops : Array Oper} {Q : Exit → Act → World → Prop} {S : World → Prop} {listed : Array Bool} {a : Act} {w : World} (hr : Region.ready .any ops listed = []) (h : Q .normal a w) : ∀ n, wpAnyL P ops Q n S listed a w
  | 0 => ⟨hr, h⟩
  | _ + 1 => ⟨fun _ => h, by rw [hr]; simp⟩
/-- What only reads may be taken first, if what may write waits for it. -/
theorem anyL_first {ops : Array Oper} {Q : Exit → Act → World → Prop} {i : Nat} {oi : Oper} {v : Value} (hi : ops[i]? = some oi) (hsel : ∀ (j : Nat) (o : Oper) cs b, ops[j]? = some o → o.op ≠ .select cs b)
    (hQ : ∀ c a w, Q (.panic c) (a.put oi.dst v) w → Q (.panic c) a w) (hli : loud ops i = false) (B : List Nat) (S : World → Prop) : ∀ (n : Nat) (listed : Array Bool) (a : Act) (w : World),
      (∀ j oj, ops[j]? = some oj → j ≠ i → listed.getD j true = false → (∀ e ∈ oj.after, Region.binds .any e = true → e.on ≠ i) → oi.apart ops oj = true) →
      (∀ j ∈ B, listed.getD j true = false ∧ ∃ oj, ops[j]? = some oj ∧ ∃ e ∈ oj.after, Region.binds .any e = true ∧ (e.on = i ∨ e.on ∈ B)) →
      (∀ j, loud ops j = true → listed.getD j true = false → j ∈ B) →
      i ∈ Region.ready .any ops listed → YieldsIf P ops S oi v a → S w → wpAnyL P ops Q n S (listed.setIfInBounds i true) (a.put oi.dst v) w → wpAnyL P ops Q (n + 1) S listed a w := by
  intro n
  induction n with
  | zero =>
    intro listed a w _ _ _ hr hy hS H
    refine ⟨fun h => (by rw [h] at hr; cases hr), fun j hj => ?_⟩
    by_cases hji : j = i
    · subst hji
      exact ⟨fun _ => hy.wpOp hi hS ⟨hS, H⟩, fun h => by rw [hli] at h; cases h⟩
    · have := ready_mono hj hji
      rw [H.1] at this
      cases this
  | succ n ih =>
    intro listed a w hfree hB hloud hr hy hS H
    refine ⟨fun h => (by rw [h] at hr; cases hr), fun j hj => ?_⟩
    by_cases hji : j = i
    · subst hji
      exact ⟨fun _ => hy.wpOp hi hS ⟨hS, H⟩, fun h => by rw [hli] at h; cases h⟩
    obtain ⟨hjun, oj, hoj, hall⟩ := mem_ready.1 hj
    have h0 := (mem_ready.1 hr).1
    have hout : ∀ k : Nat, listed.getD k false = true → listed.getD k true = false → False := fun k h1 h2 => by
      rcases Nat.lt_or_ge k listed.size with h' | h'
      · simp [h'] at h1 h2; rw [h1] at h2; cases h2
      · simp [Array.getElem?_eq_none h'] at h1
    have hnot : ∀ e ∈ oj.after, Region.binds .any e = true → e.on ≠ i := fun e he hb heq => by
      have h1 := hall e he hb
      rw [heq] at h1
      exact hout i h1 h0
    have hjB : j ∉ B := fun hm => by
      obtain ⟨_, oj', hoj', e, he, hb, hon⟩ := hB j hm
      rw [hoj] at hoj'; cases hoj'
      have h1 := hall e he hb
      rcases hon with h2 | h2
      · exact hnot e he hb h2
      · exact hout _ h1 (hB _ h2).1
    have hlj : loud ops j = false := by
      cases hl : loud ops j with
      | false => rfl
      | true => exact absurd (hloud j hl hjun) hjB
    refine ⟨fun _ => ?_, fun h => by rw [hlj] at h; cases h⟩
    have h1 := (H.2 j (ready_mono hj hji)).1 hlj
    have h2 := wpOp_putIf hoj (hfree j oj hoj hji hjun hnot) (fun cs b => hsel i oi cs b hi) (fun cs b => hsel j oj cs b hoj) hQ hy h1
    have hun : ∀ k, (listed.setIfInBounds j true).getD k true = false → listed.getD k true = false := fun k hk => by
      by_cases hjk : j = k
      · subst hjk; exact hjun
      · rwa [getD_set_ne true hjk] at hk
    refine wpOp_mono (fun a' w' h3 => ⟨h3.2.1, ih (listed.setIfInBounds j true) a' w' (fun k ok hk hki hu hno => hfree k ok hk hki (hun k hu) hno) (fun k hk => ?_) (fun k hl hu => hloud k hl (hun k hu)) (ready_mono hr (Ne.symm hji)) h3.1 h3.2.1 ?_⟩) h2
    · have hne : j ≠ k := fun h => hjB (h ▸ hk)
      rw [getD_set_ne true hne]
      exact hB k hk
    · rw [Array.setIfInBounds_comm _ _ hji]
      exact h3.2.2
theorem waits_spec {ops : Array Oper} {listed : Array Bool} {i : Nat} {B : List Nat} (h : waitsOk ops listed i B = true) :
    (∀ j ∈ B, listed.getD j true = false ∧ ∃ oj, ops[j]? = some oj ∧ ∃ e ∈ oj.after, Region.binds .any e = true ∧ (e.on = i ∨ e.on ∈ B)) ∧ ∀ j, loud ops j = true → listed.getD j true = false → j ∈ B := by
  unfold waitsOk at h
  simp only [Bool.and_eq_true, List.all_eq_true, beq_iff_eq] at h
  refine ⟨fun j hj => ?_, fun j hl hu => ?_⟩
  · obtain ⟨h1, h2⟩ := h.1 j hj
    refine ⟨h1, ?_⟩
    rw [Option.any_eq_true] at h2
    obtain ⟨oj, e1, e2⟩ := h2
    refine ⟨oj, e1, ?_⟩
    rw [Array.any_eq_true'] at e2
    obtain ⟨e, he, e3⟩ := e2
    simp only [Bool.and_eq_true, Bool.or_eq_true, beq_iff_eq, List.contains_iff_mem] at e3
    exact ⟨e, he, e3⟩
  · have hlt : j < ops.size := by
      rcases Nat.lt_or_ge j ops.size with h' | h'
      · exact h'
      · simp [loud, Array.getElem?_eq_none h'] at hl
    have := h.2 j (List.mem_range.2 hlt)
    simp only [hl, Bool.not_true, Bool.false_or, Bool.or_eq_true, List.contains_iff_mem] at this
    rcases this with h3 | h3
    · rw [hu] at h3; cases h3
    · exact h3
theorem guard_ok {ops : Array Oper} {o : Oper} {yes no : St → Prop} (h : vcGuard ops.toList o.guard s yes no) (hr : RelX c s a w I G) :
    ∃ s', RelX c s' a w I G ∧ ((Region.wanted o (yielded ops a.tmps) = true ∧ yes s') ∨ (Region.wanted o (yielded ops a.tmps) = false ∧ no s')) := by
  unfold vcGuard at h
  split at h
  · rename_i eg
    exact ⟨s, hr, .inl ⟨by simp [Region.wanted, eg], h⟩⟩
  · rename_i j want eg
    split at h
    · exact h.elim
    · rename_i d ed
      split at h
      · rename_i b eb
        have hd : d < s.t.length := by
          rcases Nat.lt_or_ge d s.t.length with h | h
          · exact h
          · rw [List.getD_eq_getElem?_getD, List.getElem?_eq_none h] at eb; cases eb
        have hget : s.t[d]? = some (.d (.v (.bool b))) := by
          rw [List.getD_eq_getElem?_getD, List.getElem?_eq_getElem hd] at eb
          rw [List.getElem?_eq_getElem hd]
          simpa using eb
        obtain ⟨x, hx, hv⟩ := hr.tmps.get hget
        obtain rfl := hv.inv_v
        have hy : yielded ops a.tmps j = some b := by
          have e1 : (ops[j]?).bind (·.dst) = some d := by simpa using ed
          have e2 : a.tmps[d]? = some (.bool b) := by simpa using hx
          simp [yielded, e1, e2]
        have hw : Region.wanted o (yielded ops a.tmps) = (b == want) := by
          simp [Region.wanted, eg, hy]
        have hX : ∀ b' : Bool, b = b' → RelX c ⟨s.t.set d (.bool b'), s.h, s.p⟩ a w I G := fun b' e => by
          subst e
          exact ⟨hr.defers, hr.tmps.set_at (fun y hy => by rw [hx] at hy; cases hy; exact .d (.v _ rfl)), hr.objs, hr.fr, hr.pr⟩
        by_cases hbw : b = want
        · exact ⟨_, hX want hbw, .inl ⟨by rw [hw, hbw]; simp, h.1 hbw⟩⟩
        · have hbn : b = !want := by cases b <;> cases want <;> simp_all
          exact ⟨_, hX _ hbn, .inr ⟨by rw [hw]; simp [hbw], h.2 hbn⟩⟩
      · rename_i eb
        exact ⟨s, hr, .inr ⟨unwanted eg ed eb hr, h⟩⟩
      · exact h.elim
theorem calm_ok {o : Oper} {K : St → Prop} {N : Act → World → Prop} {Q : Exit → Act → World → Prop} (hN : ∀ s a w', Grow w w' → K s → Rel c s a w' → N a w') (hc : isCall o.op = true) (h : vcCalm P T o s K) (hr : RelX c s a w I G) : o.wp P a w N Q := by
  obtain ⟨dst, op, type, pos, after, guard⟩ := o
  unfold vcCalm at h
  simp only at h
  split at h
  · rename_i f args ts
    have hargs := VAs.evals hr.tmps args.toList
    have hf := VA.eval hr.tmps f
    split at h
    · rename_i g caps ef
      rw [ef] at hf
      obtain ⟨cs, hcs, hcaps⟩ := hf.inv_fn
      obtain ⟨⟨fn, hfn, hname, hbody⟩, hcall⟩ := h
      have hrun : (execOp a.eval ⟨dst, .call ⟨.value f, args, ts⟩, type, pos, after, guard⟩).run P w = .ok (.enter g (args.toList.map a.eval ++ cs).toArray) w := by
        have hmap : args.map a.eval ++ cs.toArray = (args.toList.map a.eval ++ cs).toArray := by apply Array.ext'; simp
        have h1 : execOp a.eval ⟨dst, .call ⟨.value f, args, ts⟩, type, pos, after, guard⟩ = callFunc g (args.map a.eval ++ cs.toArray) := by
          simp only [execOp, resolve, hcs, Deferred.ofValue, pure_bind, invoke, Array.empty_append]
        rw [h1, run_callFunc hfn hname hbody, hmap]
      unfold Oper.wp
      rw [hrun]
      exact (hcall c a w I G hr _ (hargs.append hcaps)).mono fun e w' ⟨v, he, hg, s', hs', hrel⟩ => by
        subst he; exact hN _ _ _ hg hs' hrel
    · exact h.elim
  · exfalso
    unfold isCall at hc
    split at hc
    · rename_i e
      simp only at e
      solve_by_elim
    · cases hc
theorem draw_go (hT : TOk P T) {ops : Array Oper} (hsel : Region.noSelect ops = true) {K : St → Prop} : ∀ (order : List Nat) (listed : Array Bool) (s : St) (a : Act) (w : World), drawOk ops order listed = true →
    vcDraw P T ops.toList order s K → Rel c s a w → wpAnyL P ops (post c K (fun _ => False) (fun _ _ => False)) order.length (Grow w) listed a w
  | [], listed, s, a, w, hd, h, hR => anyL_done (by simpa [drawOk] using hd) ⟨s, h, hR⟩ _
  | i :: r, listed, s, a, w, hd, h, hR => by
    obtain ⟨I, G, hr⟩ := hR
    simp only [vcDraw, Array.getElem?_toList] at h
    simp only [drawOk, Bool.and_eq_true] at hd
    obtain ⟨hd1, hd2⟩ := hd
    split at h
    · exact h.elim
    · rename_i o eo
      rw [eo] at hd1
      simp only at hd1
      split at h
      · rename_i hq
        rw [hq] at hd1
        simp only [Bool.and_eq_true] at hd1
        obtain ⟨hB, hL⟩ := waits_spec hd1.2
        have hli : loud ops i = false := by simp [loud, eo, hq]
        have hrd : i ∈ Region.ready .any ops listed := by simpa using hd1.1.1
        obtain ⟨s', hr', hc⟩ := guard_ok h hr
        rcases hc with ⟨hw, hc⟩ | ⟨hw, hc⟩
        · obtain ⟨v, q, h1, h2, h3⟩ := quiet_ok hT hc.1 hc.2 hr'
          exact anyL_first eo (Region.noSelect_spec hsel) (fun _ _ _ h => h.elim) hli _ _ _ listed a w (Region.free_spec eo hd1.1.2) hB hL hrd (.inl ⟨hw, h1⟩) (Grow.refl w) (draw_go hT hsel r _ _ _ w hd2 h3 ⟨I, G, hr'.put h2 o.dst⟩)
        · exact anyL_first eo (Region.noSelect_spec hsel) (fun _ _ _ h => h.elim) hli _ _ _ listed a w (Region.free_spec eo hd1.1.2) hB hL hrd (.inr ⟨hw, rfl⟩) (Grow.refl w) (draw_go hT hsel r _ _ _ w hd2 hc ⟨I, G, hr'.put (v := undef) (.tup [] [] .nil) o.dst⟩)
      · rename_i hq
        rw [hq] at hd1
        simp only [beq_iff_eq] at hd1
        refine ⟨fun h0 => (by rw [hd1] at h0; cases h0), fun j hj => ?_⟩
        rw [hd1] at hj
        obtain rfl : j = i := by simpa using hj
        obtain ⟨s', hr', hc⟩ := guard_ok h hr
        refine ⟨fun hl => ?_, fun hl => ?_⟩
        · have hcall : isCall o.op = true := by simpa [loud, eo, hq] using hl
          unfold wpOp
          simp only [eo]
          rcases hc with ⟨hw, hc⟩ | ⟨hw, hc⟩
          · rw [if_pos hw]
            refine .inl (calm_ok (fun s a w' hg hk hR => ⟨hg, anyL_mono _ (fun w2 h2 => hg.trans h2) _ _ _ (draw_go hT hsel r _ s a w' hd2 hk hR)⟩) hcall hc hr')
          · rw [if_neg (by rw [hw]; decide)]
            exact ⟨Grow.refl w, draw_go hT hsel r _ _ _ w hd2 hc ⟨I, G, hr'.put (v := undef) (.tup [] [] .nil) o.dst⟩⟩
        · have hcall : isCall o.op = false := by simpa [loud, eo, hq] using hl
          unfold wpOp
          simp only [eo]
          rcases hc with ⟨hw, hc⟩ | ⟨hw, hc⟩
          · rw [if_pos hw]
            have hc' : vcOp P T o.op o.dst s' fun s => vcDraw P T ops.toList r s K := by
              unfold vcCalm at hc
              split at hc
              · rename_i e; rw [e] at hcall; cases hcall
              · exact hc
            exact .inl (op_sound hT (fun s a w' hk hR => ⟨Grow w', Grow.refl w', draw_go hT hsel r _ s a w' hd2 hk hR⟩) hc' ⟨I, G, hr'⟩)
          · rw [if_neg (by rw [hw]; decide)]
            exact ⟨Grow w, Grow.refl w, draw_go hT hsel r _ _ _ w hd2 hc ⟨I, G, hr'.put (v := undef) (.tup [] [] .nil) o.dst⟩⟩
/-- **A region whose order is drawn: one walk serves every order.** -/
theorem draw_rule (hT : TOk P T) (hm : P.follows .mixedOrders = true) {id : Nat} {ops : Array Oper} (order : List Nat) (hd : drawAll ops order = true) {K : St → Prop} (h : vcDraw P T ops.toList order s K) : drawVC P id ops K s := by
  intro c a w hR
  simp only [drawAll, Bool.and_eq_true, beq_iff_eq] at hd
  obtain ⟨⟨h1, h2⟩, h3⟩ := hd
  obtain ⟨I, G, hr⟩ := hR
  refine wp_region_any hm ?_
  have := draw_go (c := c) hT h1 order _ s a w.drew h3 h ⟨I, G, hr.grow' (Grow.drew w)⟩
  rw [h2] at this
  exact anyL_any _ _ _ _ _ this
end
end Go.Ab
