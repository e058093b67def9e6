/- Conversions, told by what they do. -/
import Derived.Test.YtamicpfjieandaaAbTs
import Derived.Laws.BytesString
namespace Go.Ab
open Go
set_option linter.unusedVariables false
set_option linter.unusedSimpArgs false
section
variable {P : Program} {s : St} {K : St → Prop} {src dst : TypeId} {x : Operand} {d : Option Nat}
theorem sem_conv_int {us : TypeDesc} {k w0 : IntKind} {n : Int} (hs : P.underlying src = some us) (hd : P.underlying dst = some (.int k)) (hx : opd s.t x = .d (.v (.int w0 n))) (h : K (s.put d (.d (.v (.int k (wr k n)))))) : semVC P (.convert src dst x) d s K := fun ty pos after guard c a w hR N Q hN => by
  obtain ⟨I, G, hr⟩ := hR
  have ev := VA.eval hr.tmps x
  rw [hx] at ev
  have hv := ev.inv_v
  unfold wr at h
  unfold Oper.wp
  have hrun : (execOp a.eval ⟨d, .convert src dst x, ty, pos, after, guard⟩).run P w = .ok (.value (.int k (k.wrap n))) w := by
    simp [execOp, hv, convert, run_underlying hs, run_underlying hd, Conv.intToInt]
  rw [hrun]
  exact hN _ _ _ h ⟨I, G, hr.put (.d (.v _ rfl)) d⟩
theorem sem_conv_byte {e : TypeId} {m : Nat} {n : Int} (hs : P.underlying src = some (.slice e)) (he : P.underlying e = some (.int .u8)) (hd : P.underlying dst = some .string) (hx : opd s.t x = .sl m [.d (.v (.int .u8 n))]) (h : K (s.put d (.d (.v (.string ⟨#[UInt8.ofNat n.toNat]⟩))))) : semVC P (.convert src dst x) d s K := fun ty pos after guard c a w hR N Q hN => by
  obtain ⟨I, G, hr⟩ := hR
  have ev := VA.eval hr.tmps x
  rw [hx] at ev
  generalize ha : a.eval x = v at ev
  have key : ∃ b, v = .slice (some ⟨b, 0, none⟩) 1 1 ∧ w.cell? ⟨b, 0, none⟩ = some (.int .u8 n) := by
    cases ev with
    | sl b n' k l g h1 h2 h3 h4 =>
      simp at h3; subst h3
      simp only [List.flatMap_cons, List.flatMap_nil, A.cells, List.append_nil] at h4
      cases h4 with
      | cons f1 f2 f3 f4 f5 =>
        obtain rfl := f4.inv_v
        exact ⟨b, rfl, f1⟩
  obtain ⟨b, rfl, hc⟩ := key
  unfold Oper.wp
  have hl := run_loadCells_list (P := P) w ⟨b, 0, none⟩ [.int .u8 n] (fun j v hv => by
    cases j with
    | zero => simp at hv; subst hv; rw [add_at]; exact hc
    | succ j => simp at hv)
  have hb := run_bytesToString (P := P) w ⟨b, 0, none⟩ 1 1 [n] hl
  have hrun : (execOp a.eval ⟨d, .convert src dst x, ty, pos, after, guard⟩).run P w = .ok (.value (.string ⟨#[UInt8.ofNat n.toNat]⟩)) w := by
    have := run_convert_bytes_string (P := P) w src dst e (some ⟨b, 0, none⟩) 1 1 hs he hd
    rw [hb] at this
    simp only [execOp, ha, Sem.run_bind, this, Result.andThen_ok, Sem.run_pure]
    rfl
  rw [hrun]
  exact hN _ _ _ h ⟨I, G, hr.put (.d (.v _ rfl)) d⟩
end
/-- A call that reads trees, in a drawn region. -/
theorem calm_read {P : Program} {f : FuncId} {X : Type} {φ : X → Prop} {ret : X → A} {args args' : List A} {t : List A} {h : List O} {p d q : Nat} {K : St → Prop} {L : List (Value × D)}
    (ct : Ct P f args' [] φ ret (fun _ => [])) (hq : h[q]? = some (.forest L)) (hargs : lendAs L args args') (hfree : ∀ x, (ret x).free = true) (hK : ∀ x, φ x → K ⟨t.set d (ret x), h, p⟩) : calmVC P f args ⟨t, h, p⟩ (some d) K := by
  refine ⟨ct.1, fun c a w I G hr vs hvs => ?_⟩
  obtain ⟨g, hg, hroot, hfor, hni⟩ := hr.objs.get hq
  let I1 : Im := fun b j => I b j ∨ (g.F b ∧ ∃ x, w.cell? ⟨b, j, none⟩ = some x)
  have hv1 : VAs w I1 [] vs args' := VAs.lend (fun b j h => .inl h) (fun v d hm => (hfor.mem hm).2.vd fun b j x hb hx => .inr ⟨hb, x, hx⟩) hvs hargs
  have hrel1 : RelH w I1 [] [] := ⟨rfl, fun k g o e => by simp at e, fun i j gi gj b e => by simp at e, fun k g b e => by simp at e, fun b j hi => hi.elim (hr.objs.imm b j) fun h => h.2⟩
  refine (ct.2 w I1 [] vs hv1 hrel1).mono ?_
  rintro e w' ⟨v, rfl, x, hx, I', G', hv, hrel', hfr, _, _⟩
  have hgr : Grow w w' := ⟨hfr.os, hfr.tape, hfr.output, hfr.size, fun b hb => hfr.block b hb fun ⟨k, g', e, _⟩ => by simp at e⟩
  exact ⟨v, rfl, hgr, _, hK x hx, I, G, (hr.grow' hgr).put (hv.freeI (hfree x)) (some d)⟩
end Go.Ab
