/- Regions whose order is drawn, told order by order: for what writes while something else reads. -/
import Derived.Test.YtfmllefmfhefpaaAbTw
namespace Go.Ab
open Go
set_option linter.unusedVariables false
/-- The orders that may be drawn: at each place, what may come next, and what then. -/
inductive OT where
  | done
  | none
  | alt (i : Nat) (sub rest : OT)
def OT.isDone : OT → Bool
  | .done => true
  | _ => false
def okT (ops : Array Oper) : OT → Nat → Array Bool → List Nat → Bool
  | .done, _, listed, rs => rs.isEmpty && Region.ready .any ops listed == []
  | .none, _, _, rs => rs.isEmpty
  | .alt i sub rest, 0, _, _ => false
  | .alt i sub rest, n + 1, listed, rs => rs.head? == some i && (sub.isDone == (Region.ready .any ops (listed.setIfInBounds i true)).isEmpty) && okT ops sub n (listed.setIfInBounds i true) (Region.ready .any ops (listed.setIfInBounds i true)) && okT ops rest (n + 1) listed rs.tail
section
variable {P : Program} {T : Ty} {c : Cx} {s : St} {K : St → Prop}
def stepOp (P : Program) (T : Ty) (o : Oper) (s : St) (K : St → Prop) : Prop :=
  match o.guard with
  | none => vcOp P T o.op o.dst s K
  | some _ => False
def vcT (P : Program) (T : Ty) (ops : List Oper) : OT → St → (St → Prop) → Prop
  | .done, s, K => K s
  | .none, _, _ => True
  | .alt i sub rest, s, K => (match ops[i]? with | none => False | some o => stepOp P T o s fun s => vcT P T ops sub s K) ∧ vcT P T ops rest s K
theorem vcT_sound (hT : TOk P T) {ops : Array Oper} : ∀ (t : OT) (n : Nat) (listed : Array Bool) (rs : List Nat) (s : St) (a : Act) (w : World), okT ops t n listed rs = true → vcT P T ops.toList t s K → Rel c s a w →
    (t = .done → Region.ready .any ops listed = [] ∧ post c K (fun _ => False) (fun _ _ => False) .normal a w) ∧ (t ≠ .done → (rs ≠ [] → ∃ m, n = m + 1) ∧ ∀ i ∈ rs, ∀ m, n = m + 1 → wpOp P ops (post c K (fun _ => False) (fun _ _ => False)) i (wpAny P .any ops (post c K (fun _ => False) (fun _ _ => False)) m (listed.setIfInBounds i true)) a w)
  | .done, n, listed, rs, s, a, w, hok, h, hR => by
    simp only [okT, Bool.and_eq_true, beq_iff_eq] at hok
    exact ⟨fun _ => ⟨hok.2, s, h, hR⟩, fun h => absurd rfl h⟩
  | .none, n, listed, rs, s, a, w, hok, h, hR => by
    simp only [okT, List.isEmpty_iff] at hok
    subst hok
    exact ⟨fun h => (by cases h), fun _ => ⟨fun h => absurd rfl h, fun i hi => (by cases hi)⟩⟩
  | .alt i sub rest, 0, listed, rs, s, a, w, hok, h, hR => by simp [okT] at hok
  | .alt i sub rest, n + 1, listed, rs, s, a, w, hok, h, hR => by
    simp only [okT, Bool.and_eq_true, beq_iff_eq] at hok
    obtain ⟨⟨⟨h1, h0⟩, h2⟩, h3⟩ := hok
    obtain ⟨h4, h5⟩ := h
    refine ⟨fun h => (by cases h), fun _ => ⟨fun _ => ⟨n, rfl⟩, fun j hj m hm => ?_⟩⟩
    obtain rfl : n = m := by omega
    cases rs with
    | nil => simp at h1
    | cons q rs =>
      simp at h1
      subst h1
      rcases List.mem_cons.1 hj with rfl | hj
      · rw [Array.getElem?_toList] at h4
        split at h4
        · exact h4.elim
        · rename_i o eo
          unfold stepOp at h4
          split at h4
          · rename_i eg
            unfold wpOp
            simp only [eo]
            rw [if_pos (by simp [Region.wanted, eg])]
            refine .inl (op_sound hT (fun s' a' w' hs' hR' => ?_) h4 hR)
            have ih := vcT_sound hT sub n _ _ s' a' w' h2 hs' hR'
            by_cases hd : sub = .done
            · obtain ⟨k1, k2⟩ := ih.1 hd
              exact wpAny_done k1 k2 n
            · obtain ⟨k1, k2⟩ := ih.2 hd
              by_cases hr : Region.ready .any ops (listed.setIfInBounds j true) = []
              · rw [hr] at h0
                cases sub <;> simp [OT.isDone] at h0 hd
              · obtain ⟨m, rfl⟩ := k1 hr
                exact wpAny_all rfl hr fun i hi => k2 i hi m rfl
          · exact h4.elim
      · exact ((vcT_sound hT rest (n + 1) listed rs s a w (by simpa using h3) h5 hR).2 (fun hd => by
          subst hd
          simp only [okT, Bool.and_eq_true, List.isEmpty_iff, List.tail_cons] at h3
          rw [h3.1] at hj; cases hj)).2 j hj n rfl
theorem draw_tree (hT : TOk P T) (hm : P.follows .mixedOrders = true) {id : Nat} {ops : Array Oper} (t : OT) (hd : (!t.isDone && okT ops t ops.size (Array.replicate ops.size false) (Region.ready .any ops (Array.replicate ops.size false)) && !(Region.ready .any ops (Array.replicate ops.size false)).isEmpty) = true) (h : vcT P T ops.toList t s K) : drawVC P id ops K s := by
  intro c a w hR
  simp only [Bool.and_eq_true, Bool.not_eq_true'] at hd
  obtain ⟨⟨h1, h2⟩, h3⟩ := hd
  obtain ⟨I, G, hr⟩ := hR
  refine wp_region_any hm ?_
  have := (vcT_sound (c := c) hT t _ _ _ s a w.drew h2 h ⟨I, G, hr.grow' (Grow.drew w)⟩).2 (fun e => by subst e; simp [OT.isDone] at h1)
  obtain ⟨k1, k2⟩ := this
  have hne : Region.ready .any ops (Array.replicate ops.size false) ≠ [] := fun e => by rw [e] at h3; simp at h3
  obtain ⟨m, hm⟩ := k1 hne
  have key : wpAny P .any ops (post c K (fun _ => False) (fun _ _ => False)) (m + 1) (Array.replicate ops.size false) a w.drew := wpAny_all rfl hne fun i hi => k2 i hi m hm
  rw [← hm] at key
  exact key
def tK (P : Program) (T : Ty) (ops : List Oper) (t : OT) (K : St → Prop) : St → Prop := fun s => vcT P T ops t s K
theorem tK_mk {ops : List Oper} {r : OT} {t : List A} {h : List O} {p : Nat} : tK P T ops r K ⟨t, h, p⟩ = vcT P T ops r ⟨t, h, p⟩ K := rfl
theorem vcT_done {ops : List Oper} : vcT P T ops .done s K = K s := rfl
theorem vcT_none {ops : List Oper} : vcT P T ops .none s K = True := rfl
theorem vcT_alt {ops : List Oper} {i : Nat} {sub rest : OT} : vcT P T ops (.alt i sub rest) s K = ((match ops[i]? with | none => False | some o => stepOp P T o s (tK P T ops sub K)) ∧ vcT P T ops rest s K) := rfl
theorem stepOp_go {dst : Option Nat} {op : Op} {ty : TypeId} {pos : String} {after : Array Edge} : stepOp P T ⟨dst, op, ty, pos, after, none⟩ s K = vcOp P T op dst s K := rfl
end
attribute [go_sem] tK_mk vcT_done vcT_none vcT_alt stepOp_go and_self
end Go.Ab
