/- Contracts of functions; how one is shown, and how it is used; loops. -/
import Derived.Test.YtamicpfjieandaaAbN
import Derived.Deep.LoopGhost
namespace Go.Ab
open Go
set_option linter.unusedVariables false
set_option linter.unusedSimpArgs false

mutual
/-- What is said of a value may be said less exactly: below n the objects stay, from n to m they are rows of no element. -/
def A.le (n m : Nat) : A → A → Prop
  | .d x, b => match b with
    | .any => True
    | .d y => x = y
    | .agg l => ∃ q, x = .agg q ∧ l = q.map A.d
    | _ => False
  | .nil, b => match b with
    | .any => True
    | .d y => y = .lst []
    | .nil => True
    | .own k l => n ≤ k ∧ k < m ∧ l = []
    | _ => False
  | .own k l, b => match b with
    | .any => True
    | .d y => y = .lst l
    | .own k' l' => k = k' ∧ k < n ∧ l = l'
    | _ => False
  | .sl k l, b => match b with
    | .any => True
    | .d y => ∃ r, toEs? l = some r ∧ y = .lst r
    | .own k' l' => k = k' ∧ k < n ∧ toEs? l = some l'
    | _ => False
  | .agg l, b => match b with
    | .any => True
    | .d y => ∃ q, toDs? l = some q ∧ y = .agg q
    | .agg l' => A.lel n m l l'
    | _ => False
  | .tup l, b => match b with
    | .any => True
    | .tup l' => A.lel n m l l'
    | _ => False
  | .rptr l, b => match b with
    | .any => True
    | .rptr l' => l = l'
    | _ => False
  | .ref k o, b => match b with
    | .any => True
    | .ref k' o' => k = k' ∧ o = o' ∧ k < n
    | _ => False
  | .arr k, b => match b with
    | .any => True
    | .arr k' => k = k' ∧ k < n
    | _ => False
  | .eptr k sz i o, b => match b with
    | .any => True
    | .eptr k' sz' i' o' => k = k' ∧ sz = sz' ∧ i = i' ∧ o = o' ∧ k < n
    | _ => False
  | .fn f l, b => match b with
    | .any => True
    | .fn f' l' => f = f' ∧ A.lel n m l l'
    | _ => False
  | .mp k, b => match b with
    | .any => True
    | .mp k' => k = k' ∧ k < n
    | _ => False
  | .raw x, b => match b with
    | .any => True
    | .raw y => x = y
    | _ => False
  | .any, b => match b with
    | .any => True
    | _ => False
def A.lel (n m : Nat) : List A → List A → Prop
  | [], b => match b with
    | [] => True
    | _ => False
  | x :: l, b => match b with
    | y :: l' => A.le n m x y ∧ A.lel n m l l'
    | [] => False
end
def O.le (n m : Nat) : O → O → Prop
  | .box t l, .box t' l' => t = t' ∧ A.lel n m l l'
  | .app t sz dp, .app t' sz' dp' => t = t' ∧ sz = sz' ∧ (dp' = true → dp = true)
  | .row t sz l, .row t' sz' l' => t = t' ∧ sz = sz' ∧ ((∃ q, toEs? l = some q ∧ l' = q.map A.d) ∨ (l = l' ∧ ∀ x ∈ l, A.le n m x x))
  | .map k v l, .map k' v' l' => k = k' ∧ v = v' ∧ l = l'
  | .opn r t sz l, .opn r' t' sz' l' => r = r' ∧ t = t' ∧ sz = sz' ∧ l = l' ∧ ∀ x ∈ l, A.le n m x x
  | .forest l, .forest l' => l = l'
  | _, .dead => True
  | _, _ => False
def O.lel (n m : Nat) : List O → List O → Prop
  | [], [] => True
  | [], .app _ _ _ :: r => O.lel n m [] r
  | [], .forest [] :: r => O.lel n m [] r
  | o :: l, o' :: l' => O.le n m o o' ∧ O.lel n m l l'
  | _, _ => False
/-- s may be taken for s'. -/
def St.Le (n : Nat) (s s' : St) : Prop := n ≤ s.h.length ∧ s.p ≤ n ∧ s'.p = s.p ∧ A.lel n s'.h.length s.t s'.t ∧ O.lel n s'.h.length (s.h.take n) s'.h

section
variable {P : Program} {T : Ty} {w w' : World} {I I' : Im} {G G' : List Gh} {c : Cx} {s s' : St} {a : Act}
def nilGh : Gh := ⟨.slice none 0 0, fun _ => False⟩
structure Roots (G G' : List Gh) (n m : Nat) : Prop where
  low : ∀ (k : Nat) (g : Gh), k < n → G[k]? = some g → G'[k]? = some g
  new : ∀ k, n ≤ k → k < m → G'[k]? = some nilGh
mutual
theorem VA.le {n m : Nat} (hG : Roots G G' n m) : ∀ {x a b}, VA w I G x a → A.le n m a b → VA w I G' x b
  | _, _, b, .d h, hl => by
    cases b <;> simp only [A.le] at hl
    · subst hl; exact .d h
    · obtain ⟨q, rfl, rfl⟩ := hl
      cases h with
      | agg cs l h => exact .agg cs _ h.toA h.one
    · exact .any _
  | _, _, b, .nil, hl => by
    cases b <;> simp only [A.le] at hl
    · subst hl; exact .d .lnil
    · exact .nil
    · obtain ⟨h1, h2, rfl⟩ := hl
      exact .own _ [] nilGh (hG.new _ h1 h2) rfl .lnil
    · exact .any _
  | _, _, b, .own k l g h1 h2 h3, hl => by
    cases b <;> simp only [A.le] at hl
    · subst hl; exact .d h3
    · obtain ⟨rfl, h, rfl⟩ := hl; exact .own k l g (hG.low k g h h1) h2 h3
    · exact .any _
  | _, _, b, .sl bb nn k l g h1 h2 h3 h4, hl => by
    have hv : VA w I G _ (.sl k l) := .sl bb nn k l g h1 h2 h3 h4
    cases b <;> simp only [A.le] at hl
    · obtain ⟨r, e, rfl⟩ := hl; exact .d (hv.row e)
    · obtain ⟨rfl, h, e⟩ := hl; exact .own k _ g (hG.low k g h h1) h2 (hv.row e)
    · exact .any _
  | _, _, b, .agg cs l h h1, hl => by
    cases b <;> simp only [A.le] at hl
    · obtain ⟨q, e, rfl⟩ := hl; exact .d (.agg cs q (toDs_cells h1 h e))
    · exact .agg cs _ (VAs.le hG h hl) h1
    · exact .any _
  | _, _, b, .tup cs l h, hl => by
    cases b <;> simp only [A.le] at hl
    · exact .tup cs _ (VAs.le hG h hl)
    · exact .any _
  | _, _, b, .rptr bb o l h, hl => by
    cases b <;> simp only [A.le] at hl
    · subst hl; exact .rptr bb o l h
    · exact .any _
  | _, _, b, .ref bb k o g h1 h2, hl => by
    cases b <;> simp only [A.le] at hl
    · obtain ⟨rfl, rfl, h⟩ := hl; exact .ref bb k o g (hG.low k g h h1) h2
    · exact .any _
  | _, _, b, .arr k g h1 h2 h3, hl => by
    cases b <;> simp only [A.le] at hl
    · obtain ⟨rfl, h⟩ := hl; exact .arr k g (hG.low k g h h1) h2 h3
    · exact .any _
  | _, _, b, .eptr bb k sz i o nn cc g h1 h2, hl => by
    cases b <;> simp only [A.le] at hl
    · obtain ⟨rfl, rfl, rfl, rfl, h⟩ := hl; exact .eptr bb k sz i o nn cc g (hG.low k g h h1) h2
    · exact .any _
  | _, _, b, .fn f cs l h, hl => by
    cases b <;> simp only [A.le] at hl
    · obtain ⟨rfl, h1⟩ := hl; exact .fn f cs _ (VAs.le hG h h1)
    · exact .any _
  | _, _, b, .mp r k g h1 h2, hl => by
    cases b <;> simp only [A.le] at hl
    · obtain ⟨rfl, h⟩ := hl; exact .mp r k g (hG.low k g h h1) h2
    · exact .any _
  | _, _, b, .raw x h, hl => by
    cases b <;> simp only [A.le] at hl
    · subst hl; exact .raw _ h
    · exact .any _
  | _, _, b, .any x, hl => by
    cases b <;> simp only [A.le] at hl
    exact .any _
theorem VAs.le {n m : Nat} (hG : Roots G G' n m) : ∀ {x a b}, VAs w I G x a → A.lel n m a b → VAs w I G' x b
  | _, _, [], .nil, _ => .nil
  | _, _, _ :: _, .nil, h => h.elim
  | _, _, [], .cons _ _, h => h.elim
  | _, _, _ :: _, .cons h1 h2, h => .cons (VA.le hG h1 h.1) (VAs.le hG h2 h.2)
end
theorem VAs.le_each {n m : Nat} (hG : Roots G G' n m) : ∀ {xs : List Value} {l : List A}, VAs w I G xs l → (∀ x ∈ l, A.le n m x x) → VAs w I G' xs l
  | _, _, .nil, _ => .nil
  | _, _, .cons h1 h2, h => .cons (VA.le hG h1 (h _ List.mem_cons_self)) (VAs.le_each hG h2 (fun x hx => h x (List.mem_cons_of_mem _ hx)))
theorem le_cells {n m : Nat} {x : A} (h : A.le n m x x) : ∀ y ∈ x.cells, A.le n m y y := by
  have list : ∀ {l : List A}, A.lel n m l l → ∀ y ∈ l, A.le n m y y := fun {l} => by
    induction l with
    | nil => intro _ y hy; cases hy
    | cons z l ih =>
      intro h y hy
      cases hy with
      | head => exact h.1
      | tail _ hy => exact ih h.2 y hy
  cases x with
  | d x => cases x with
    | agg l => intro y hy; simp only [A.cells] at hy; obtain ⟨z, _, rfl⟩ := List.mem_map.1 hy; simp [A.le]
    | _ => intro y hy; simp only [A.cells, List.mem_singleton] at hy; subst hy; exact h
  | agg l => intro y hy; simp only [A.cells] at hy; exact list (by simpa [A.le] using h) y hy
  | _ => intro y hy; simp only [A.cells, List.mem_singleton] at hy; subst hy; exact h
theorem toEs_map (q : List D) : toEs? (q.map A.d) = some q := by
  induction q with
  | nil => rfl
  | cons x q ih => simp only [List.map_cons, toEs?, A.toE?, A.toD?, ih]
theorem flat_d (q : List D) : (q.map A.d).flatMap A.cells = (q.flatMap D.cells).map A.d := by
  induction q with
  | nil => rfl
  | cons x q ih =>
    rw [List.map_cons, List.flatMap_cons, ih, List.flatMap_cons, List.map_append]
    congr 1
    cases x <;> rfl
theorem cellsE {x : A} {y : D} (e : x.toE? = some y) : x.cells.length = y.cells.length := by
  have := toDs_len (toE_cells e); exact this
theorem ObjR.le {n m : Nat} (hG : Roots G G' n m) {g : Gh} {o o' : O} (h : ObjR w I G g o) (hl : O.le n m o o') (hd : o' = .dead → ∀ k, ¬ g.F k) : ObjR w I G' g o' := by
  cases o' with
  | dead => exact hd rfl
  | box t' l' =>
    cases o <;> simp only [O.le] at hl
    obtain ⟨rfl, hl⟩ := hl
    obtain ⟨b, cs, h1, h2, h3, h4, h5, h6⟩ := h
    exact ⟨b, cs, h1, h2, VAs.le hG h3 hl, h4, h5, h6⟩
  | app t' sz' dp' =>
    cases o <;> simp only [O.le] at hl
    obtain ⟨rfl, rfl, hl⟩ := hl
    exact ObjR.shallow h hl
  | row t' sz' l' =>
    cases o <;> simp only [O.le] at hl
    obtain ⟨rfl, rfl, hl⟩ := hl
    obtain ⟨b, cs, h1, h2, h3, h4, h5, h6, h7⟩ := h
    rcases hl with ⟨q, eq, rfl⟩ | ⟨rfl, hl⟩
    · refine ⟨b, cs, by rw [h1, List.length_map, toEs_len eq], h2, ?_, h4, ?_, h6, h7⟩
      · rw [flat_d]
        exact (toDs_cells h4 h3 (toEs_cells eq)).toA
      · intro x hx
        obtain ⟨y, hy, rfl⟩ := List.mem_map.1 hx
        have hsame : ∀ {z : Nat} {l : List A} {q : List D}, toEs? l = some q → (∀ x ∈ l, x.cells.length = z) → ∀ y ∈ q, y.cells.length = z := by
          intro sz'
          intro l
          induction l with
          | nil => intro q e _ y hy; simp [toEs?] at e; subst e; cases hy
          | cons z l ih =>
            intro q e hz y hy
            simp only [toEs?] at e
            split at e
            · rename_i y0 q0 e1 e2; cases e
              cases hy with
              | head => rw [← cellsE e1]; exact hz z List.mem_cons_self
              | tail _ hy => exact ih e2 (fun x hx => hz x (List.mem_cons_of_mem _ hx)) y hy
            · cases e
        have := hsame eq h5 y hy
        cases y <;> simpa [A.cells, D.cells] using this
    · exact ⟨b, cs, h1, h2, VAs.le_each hG h3 (fun x hx => by
        obtain ⟨z, hz, hx⟩ := List.mem_flatMap.1 hx
        exact le_cells (hl z hz) x hx), h4, h5, h6, h7⟩
  | map k' v' l' =>
    cases o <;> simp only [O.le] at hl
    obtain ⟨rfl, rfl, rfl⟩ := hl
    exact h
  | opn r' t' sz' l' =>
    cases o <;> simp only [O.le] at hl
    obtain ⟨rfl, rfl, rfl, rfl, hl⟩ := hl
    obtain ⟨h0, b, cs, t2, sp, cap, h1, hcap, h2, h3, h4, h5, h6, h7⟩ := h
    refine ⟨h0, b, cs, t2, sp, cap, h1, hcap, h2, VAs.le_each hG h3 (fun x hx => ?_), h4, h5, h6, h7⟩
    rcases List.mem_append.1 hx with hx | hx
    · obtain ⟨z, hz, hx⟩ := List.mem_flatMap.1 hx
      exact le_cells (hl z hz) x hx
    · rw [List.eq_of_mem_replicate hx]; simp [A.le]
  | forest l' =>
    cases o <;> simp only [O.le] at hl
    subst hl
    exact h
theorem olel_get {n m : Nat} : ∀ {l l' : List O}, O.lel n m l l' → ∀ {k : Nat} {o' : O}, l'[k]? = some o' → (∃ o, l[k]? = some o ∧ O.le n m o o') ∨ (l.length ≤ k ∧ ((∃ t sz dp, o' = .app t sz dp) ∨ o' = .forest []))
  | [], [], _, k, o', h => by simp at h
  | [], .app t sz dp :: r, hl, k, o', h => by
    cases k with
    | zero => simp at h; exact .inr ⟨Nat.le_refl _, .inl ⟨t, sz, dp, h.symm⟩⟩
    | succ k =>
      have hl' : O.lel n m [] r := hl
      rcases olel_get hl' (k := k) (o' := o') (by simpa using h) with ⟨o, e, _⟩ | h
      · simp at e
      · exact .inr ⟨by simp, h.2⟩
  | [], .forest [] :: r, hl, k, o', h => by
    cases k with
    | zero => simp at h; exact .inr ⟨Nat.le_refl _, .inr h.symm⟩
    | succ k =>
      have hl' : O.lel n m [] r := hl
      rcases olel_get hl' (k := k) (o' := o') (by simpa using h) with ⟨o, e, _⟩ | h
      · simp at e
      · exact .inr ⟨by simp, h.2⟩
  | [], .forest (_ :: _) :: _, hl, _, _, _ => hl.elim
  | [], .opn _ _ _ _ :: _, hl, _, _, _ => hl.elim
  | [], .box _ _ :: _, hl, _, _, _ => hl.elim
  | [], .row _ _ _ :: _, hl, _, _, _ => hl.elim
  | [], .map _ _ _ :: _, hl, _, _, _ => hl.elim
  | [], .dead :: _, hl, _, _, _ => hl.elim
  | o :: l, [], hl, _, _, _ => hl.elim
  | o :: l, o' :: l', hl, k, q, h => by
    cases k with
    | zero => simp at h; subst h; exact .inl ⟨o, rfl, hl.1⟩
    | succ k =>
      rcases olel_get hl.2 (k := k) (by simpa using h) with ⟨o, e, h⟩ | h
      · exact .inl ⟨o, by simpa using e, h⟩
      · exact .inr ⟨by simpa using h.1, h.2⟩
theorem olel_len {n m : Nat} : ∀ {l l' : List O}, O.lel n m l l' → l.length ≤ l'.length
  | [], _, _ => Nat.zero_le _
  | _ :: _, [], h => h.elim
  | _ :: _, _ :: _, h => by simp; exact olel_len h.2
/-- A state may be taken for one of which less is said. -/
theorem RelX.le {n : Nat} (h : RelX c s a w I G) (hl : s.Le n s') : ∃ G', RelX c s' a w I G' := by
  obtain ⟨hn, hp, hp', ht, ho⟩ := hl
  have hlen := h.objs.len
  have htl : (s.h.take n).length = n := by simp; omega
  have hm : n ≤ s'.h.length := by rw [← htl]; exact olel_len ho
  -- an object that is given up gives up its blocks
  let dd : Nat → Gh → Gh := fun k g => match s'.h[k]? with | some .dead => ⟨g.root, fun _ => False⟩ | _ => g
  have ddr : ∀ k g, (dd k g).root = g.root := fun k g => by simp only [dd]; split <;> rfl
  have ddF : ∀ k g b, (dd k g).F b → g.F b := fun k g b hb => by
    simp only [dd] at hb
    split at hb
    · exact hb.elim
    · exact hb
  let G1 : List Gh := (G.take n).mapIdx dd
  let G' : List Gh := G1 ++ List.replicate (s'.h.length - n) nilGh
  have h1l : G1.length = n := by simp [G1]; omega
  have get1 : ∀ {k : Nat} {g : Gh}, G'[k]? = some g → (k < n ∧ ∃ g0, G[k]? = some g0 ∧ g = dd k g0) ∨ (n ≤ k ∧ k < s'.h.length ∧ g = nilGh) := fun {k g} e => by
    rcases Nat.lt_or_ge k n with hk | hk
    · simp only [G'] at e
      rw [List.getElem?_append_left (by omega)] at e
      simp only [G1, List.getElem?_mapIdx, List.getElem?_take, hk, if_true] at e
      obtain ⟨g0, e1, e2⟩ := Option.map_eq_some_iff.1 e
      exact .inl ⟨hk, g0, e1, e2.symm⟩
    · simp only [G'] at e
      rw [List.getElem?_append_right (by omega), List.getElem?_replicate] at e
      split at e
      · rename_i hlt; cases e; exact .inr ⟨hk, by omega, rfl⟩
      · cases e
  have low' : ∀ (k : Nat) (g : Gh), k < n → G[k]? = some g → G'[k]? = some (dd k g) := fun k g hk e => by
    simp only [G']
    rw [List.getElem?_append_left (by omega)]
    simp only [G1, List.getElem?_mapIdx, List.getElem?_take, hk, if_true, e, Option.map_some]
  -- first the roots alone: the same list, every root kept
  let Gm : List Gh := G.take n ++ List.replicate (s'.h.length - n) nilGh
  have hRm : Roots G Gm n s'.h.length := ⟨fun k g hk e => by
      simp only [Gm]; rw [List.getElem?_append_left (by simp; omega), List.getElem?_take, if_pos hk]; exact e, fun k hk hk' => by
      simp only [Gm]; rw [List.getElem?_append_right (by simp; omega), List.getElem?_replicate, if_pos (by simp; omega)]⟩
  have toG' : ∀ (k : Nat) (g : Gh), Gm[k]? = some g → ∃ g' : Gh, G'[k]? = some g' ∧ g'.root = g.root := fun k g e => by
    rcases Nat.lt_or_ge k n with hk | hk
    · simp only [Gm] at e
      rw [List.getElem?_append_left (by simp; omega), List.getElem?_take, if_pos hk] at e
      exact ⟨_, low' k g hk e, ddr k g⟩
    · simp only [Gm] at e
      rw [List.getElem?_append_right (by simp; omega)] at e
      refine ⟨g, ?_, rfl⟩
      simp only [G']
      rw [List.getElem?_append_right (by omega)]
      rw [h1l]
      have : (G.take n).length = n := by simp; omega
      rwa [this] at e
  refine ⟨G', h.defers, (VAs.le hRm h.tmps ht).mono (fun _ _ h => h) (fun _ _ _ => rfl) toG', ?_, ?_, fun k v e => ?_⟩
  · refine ⟨by simp [G', h1l]; omega, fun k g o' e1 e2 => ?_, fun i j gi gj b e1 e2 hij hb hb' => ?_, fun k g b e hb => ?_, h.objs.imm⟩
    · rcases get1 e1 with ⟨hk, g0, e0, rfl⟩ | ⟨hk, hk', rfl⟩
      · rcases olel_get ho e2 with ⟨o, f1, f2⟩ | ⟨f1, _⟩
        · rw [List.getElem?_take, if_pos hk] at f1
          have hobj := h.objs.obj k g0 o e0 f1
          by_cases hdead : o' = .dead
          · subst hdead
            intro q hq
            simp only [dd, e2] at hq
          · have hdd : dd k g0 = g0 := by
              simp only [dd, e2]
              cases o' <;> first | rfl | exact absurd rfl hdead
            rw [hdd]
            exact (hobj.le hRm f2 (fun h => absurd h hdead)).keep (fun _ _ h => h) (fun _ _ _ => rfl) toG' (fun _ _ => rfl) (fun _ _ _ h => h)
        · omega
      · rcases olel_get ho e2 with ⟨o, f1, f2⟩ | ⟨_, ⟨t, sz, dp, rfl⟩ | rfl⟩
        · have := (List.getElem?_eq_some_iff.1 f1).1; omega
        · exact .inl ⟨rfl, fun _ h => h⟩
        · exact ⟨rfl, ⟨fun _ _ => False, fun m v d e => by simp at e, fun _ _ h => h.elim, fun _ _ _ _ h => h.elim⟩, fun _ _ h => h.elim⟩
    · rcases get1 e1 with ⟨hi, gi0, e1', rfl⟩ | ⟨_, _, rfl⟩
      · rcases get1 e2 with ⟨hj, gj0, e2', rfl⟩ | ⟨_, _, rfl⟩
        · exact h.objs.disj i j gi0 gj0 b e1' e2' hij (ddF _ _ _ hb) (ddF _ _ _ hb')
        · exact hb'
      · exact hb
    · rcases get1 e with ⟨hk, g0, e', rfl⟩ | ⟨_, _, rfl⟩
      · exact h.objs.inb k g0 b e' (ddF _ _ _ hb)
      · exact hb.elim
  · exact ⟨h.fr.os, h.fr.tape, h.fr.output, h.fr.size, h.fr.block, h.fr.cell, h.fr.im, fun k g b e hb => by
      rcases get1 e with ⟨hk, g0, e', rfl⟩ | ⟨_, _, rfl⟩
      · exact h.fr.own k g0 b e' (ddF _ _ _ hb)
      · exact hb.elim⟩
  · obtain ⟨h1, h2, g, h3, h4⟩ := h.pr k v e
    exact ⟨by rw [hp']; exact h1, h2, _, low' k g (by omega) h3, (ddr k g).trans h4⟩
theorem Rel.le {n : Nat} (h : Rel c s a w) (hl : s.Le n s') : Rel c s' a w := by
  obtain ⟨I, G, h⟩ := h
  obtain ⟨G', h⟩ := h.le hl
  exact ⟨I, G', h⟩
/-- A loop: f tells the state at the head of a round, by what has been reckoned so far. -/
theorem loop_rule (hT : TOk P T) {body : Code} {Kn Kr : St → Prop} {Kx : Nat → St → Prop} {ι : Type} (f : ι → St) (φ : ι → Prop) (μ : ι → Nat) (i0 : ι) (n0 : Nat) (h0 : φ i0) (hs : s.Le n0 (f i0))
    (hr : ∀ i, φ i → vc P T body (fun s' => ∃ j n, φ j ∧ μ j < μ i ∧ s'.Le n (f j)) Kr Kx (f i)) : loopVC P body Kn Kr Kx s := by
  intro c a w hR
  refine wp_loop_ghost (fun n a w => ∃ i, φ i ∧ μ i = n ∧ Rel c (f i) a w) (μ i0) ⟨i0, h0, rfl, hR.le hs⟩ ?_
  rintro n a w ⟨i, hi, rfl, hR⟩
  have := vc_sound (c := c) hT body _ _ _ _ _ _ (hr i hi) hR
  refine Code.wp_mono (fun e a w hp => ?_) this
  cases e with
  | normal =>
    obtain ⟨s', ⟨j, n, h1, h2, h3⟩, h4⟩ := hp
    exact ⟨μ j, h2, j, h1, rfl, h4.le h3⟩
  | ret => exact hp
  | exit i => exact hp
  | _ => exact hp.elim
end
end Go.Ab
