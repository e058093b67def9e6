/- append, whole; slices written out; make. -/
import Derived.Test.YtamicpfjieandaaAbK
namespace Go.Ab
open Go
set_option linter.unusedVariables false
set_option linter.unusedSimpArgs false
section
variable {P : Program} {T : Ty} {w w' : World} {I I' : Im} {G : List Gh} {c : Cx} {s : St} {a : Act}
theorem ObjR.shallow {g : Gh} {e sz : Nat} {dp dp' : Bool} (h : ObjR w I G g (.app e sz dp)) (hd : dp' = true → dp = true) : ObjR w I G g (.app e sz dp') := by
  rcases h with h | ⟨b, o, n, h1, h2, h3⟩ | ⟨b, n, cap, cs, h1, h2, h3, h4, h5, h6, h7, h8⟩
  · exact .inl h
  · exact .inr (.inl ⟨b, o, n, h1, h2, fun h => h3 (hd h)⟩)
  · exact .inr (.inr ⟨b, n, cap, cs, h1, h2, h3, h4, h5, h6, h7, fun h => h8 (hd h)⟩)
theorem append_core (hr : RelX c s a w I G) {t ty e : Nat} {ie : TI} (hu : P.underlying t = some (.slice e)) (hie : TIOk P e ie) (hby : ie.bytes ≠ 0) {k : Nat} {g : Gh} (hk : G[k]? = some g) {dp0 dp : Bool}
    (ho : ObjR w I G g (.app e ie.sz dp0)) {l ds : List D} (hv : VD w I g.root (.lst l)) (hfl : Flat ie.sz l) {x : Value} {ns : List Value} (hsrc : Src w I ie.sz x ns ds) (hfd : Flat ie.sz ds)
    (hbound : (l.length + ds.length) * ie.bytes ≤ 140737488355328) (fs : Nat → Nat → Prop) (hd : dp = true → dp0 = true ∧ Deep w c G ns fs) :
    ∃ v' w' I' g', (Builtin.append_ #[t, t] ty #[g.root, x]).run P w = .ok v' w' ∧ Upd c w w' I I' G k g g' ∧ g'.root = v' ∧ ObjR w' I' (G.set k g') g' (.app e ie.sz dp) ∧ VD w' I' v' (.lst (l ++ ds)) := by
  obtain ⟨AA, cap, hroot, hcap, hA, hnil⟩ := hv.row
  by_cases hm : ds.length = 0
  · have hds : ds = [] := List.eq_nil_of_length_eq_zero hm
    subst hds
    have hx : (∃ ad cx, x = .slice (some ad) 0 cx) ∨ x = .slice none 0 0 := by
      rcases hsrc.at_ with ⟨b, o, cx, h1, _⟩ | ⟨h1, _⟩
      · exact .inl ⟨_, _, h1⟩
      · exact h1
    refine ⟨g.root, w, I, g, ?_, Upd.refl hr hk, rfl, ?_, by simpa using hv⟩
    · rw [hroot]; exact run_append_zero hu hie AA l.length cap hcap x hx
    · rw [set_self hk]; exact ho.shallow (fun h => (hd h).1)
  · have hxs : ∃ b o cx, x = .slice (some ⟨b, o, none⟩) ds.length cx ∧ ∀ (j : Nat) (v : Value), ns[j]? = some v → w.cell? ⟨b, o + j, none⟩ = some v := by
      rcases hsrc.at_ with h | ⟨_, h⟩
      · exact h
      · rw [h] at hm; exact absurd rfl hm
    obtain ⟨bx, ox, cx, rfl, hat⟩ := hxs
    obtain ⟨f, z, i1, i2, i3, i4, i5, i6, i7, _⟩ := hie
    have hnews : ∀ (j : Nat) (v : Value), ns[j]? = some v → w.cell? ((⟨bx, ox, none⟩ : Addr).add j) = some v := fun j v hj => by rw [add_at]; exact hat j v hj
    have hlen : ns.length = ds.length * f.size := by rw [i2]; exact hsrc.len
    have hmul : ∀ {n : Nat}, n * ie.bytes ≤ 140737488355328 → n ≤ 140737488355328 := fun {n} h => Nat.le_trans (Nat.le_mul_of_pos_right n (Nat.pos_of_ne_zero hby)) h
    have hsum := hmul hbound
    have hzz : ∀ n, (Builtin.zeroCells z.cells n).toList.length = n * ie.sz := fun n => by rw [Array.length_toList, size_zeroCells, i6]
    have hzf : ∀ n (j : Nat) (x : Value), (Builtin.zeroCells z.cells n).toList[j]? = some x → ∀ a m c, x = .slice (some a) m c → m = 0 := fun n j x hx => zeroCells_flat i5 n j x (by simpa using hx)
    have hml : maxLen = 9223372036854775807 := rfl
    -- a new row
    have new : ∀ (os : List Value) (fo : Nat → Nat → Prop) (old : Nat), VDs w I os (l.flatMap D.cells) → os.length = l.length * ie.sz →
        (dp = true → (∀ (j : Nat) (x : Value), os[j]? = some x → Shp w (fo j) x) ∧ (∀ j b, fo j b → g.F b) ∧ (∀ i j b, i ≠ j → fo i b → ¬ fo j b)) →
        (Builtin.append_ #[t, t] ty #[g.root, .slice (some ⟨bx, ox, none⟩) ds.length cx]).run P w =
          .ok (.slice (some ⟨w.heap.size, 0, none⟩) (l.length + ds.length) (grownCap w (l.length + ds.length) old e))
            (w.drew.alloc (.cells (os.toArray ++ ns.toArray ++ Builtin.zeroCells z.cells (grownCap w (l.length + ds.length) old e - (l.length + ds.length))) e)) →
        ∃ v' w' I' g', (Builtin.append_ #[t, t] ty #[g.root, .slice (some ⟨bx, ox, none⟩) ds.length cx]).run P w = .ok v' w' ∧ Upd c w w' I I' G k g g' ∧ g'.root = v' ∧ ObjR w' I' (G.set k g') g' (.app e ie.sz dp) ∧ VD w' I' v' (.lst (l ++ ds)) := by
      intro os fo old h1 h2 h3 hrun
      have hge := grownCap_ge w (l.length + ds.length) old e
      have hcm := grownCap_le_maxLen w (l.length + ds.length) old e (by omega)
      have key := grown_ok hr hk (e := e) (sz := ie.sz) (n := l.length) (m := ds.length) (dp := dp) h1 hsrc.vals h2 hsrc.len rfl rfl hge hcm
        (zs := (Builtin.zeroCells z.cells (grownCap w (l.length + ds.length) old e - (l.length + ds.length))).toList) (hzz _) fo fs (fun hdp => by
          obtain ⟨d1, d2⟩ := hd hdp
          obtain ⟨e1, e2, e3⟩ := h3 hdp
          exact ⟨e1, e2, e3, d2, hzf _⟩)
      obtain ⟨k1, k2, k3⟩ := key
      have harr : os.toArray ++ ns.toArray ++ Builtin.zeroCells z.cells (grownCap w (l.length + ds.length) old e - (l.length + ds.length)) = (os ++ ns ++ (Builtin.zeroCells z.cells (grownCap w (l.length + ds.length) old e - (l.length + ds.length))).toList).toArray := by
        apply Array.ext'; simp
      rw [harr] at hrun
      exact ⟨_, _, _, _, hrun, k1, rfl, k2, k3⟩
    have hbytes : Builtin.nextslicecap (l.length + ds.length) cap * f.bytes ≤ 281474976710656 ∨ ¬ cap < l.length + ds.length := by
      by_cases h : cap < l.length + ds.length
      · exact .inl (growslice_fits h (by rw [i3]; exact hbound))
      · exact .inr h
    rcases ho with ⟨h1, h2⟩ | ⟨b, o, n, h1, h2, h3⟩ | ⟨b, n, cp, cs, h1, h2, h3, h4, h5, h6, h7, h8⟩
    · -- nil
      have hl : l = [] := by
        rw [h1] at hroot
        injection hroot with q1
        exact hnil q1.symm
      subst hl
      have hrun := run_append_nil (P := P) w t ty e f z hu i1 i4 ⟨bx, ox, none⟩ ds.length cx ns hlen hnews (by omega) (by simp at hsum; omega) (by rw [i3]; simp at hbound; omega)
      refine new [] (fun _ _ => False) 0 .nil (by simp) (fun _ => ⟨fun j x hx => by simp at hx, fun _ _ h => h.elim, fun _ _ _ _ h => h.elim⟩) ?_
      rw [h1]
      simpa using hrun
    · -- no room by its kind
      rw [h1] at hroot
      injection hroot with q1 q2 q3
      subst q2; subst q3
      obtain ⟨_, hcells⟩ := hA b o none q1.symm
      obtain ⟨os, o1, o2⟩ := hcells.vals
      have hol : os.length = l.length * ie.sz := by rw [o1.len, flat_len hfl]
      have hrun := run_append_grow (P := P) w t ty e f z hu i1 i4 ⟨b, o, none⟩ l.length l.length os (by rw [i2]; exact hol) (fun j v hj => by rw [add_at]; exact o2 j v hj) ⟨bx, ox, none⟩ ds.length cx ns hlen hnews (by omega) (by omega)
        (growslice_fits (by omega) (by rw [i3]; exact hbound))
      refine new os (fun _ _ => False) l.length o1 hol (fun hdp => ⟨fun j x hx => ?_, fun _ _ h => h.elim, fun _ _ _ _ h => h.elim⟩) ?_
      · have := h3 (hd hdp).1
        have hlt := (List.getElem?_eq_some_iff.1 hx).1
        rw [hol, this] at hlt
        simp at hlt
      · rw [h1]; exact hrun
    · -- the call's own block
      rw [h1] at hroot
      injection hroot with q1 q2 q3
      subst q2; subst q3
      obtain ⟨_, hcells⟩ := hA b 0 none q1.symm
      by_cases hroom : l.length + ds.length ≤ cp
      · have hfit : l.length * f.size + ns.length ≤ cs.size := by rw [hlen, h5, i2, ← Nat.add_mul]; exact Nat.mul_le_mul_right _ hroom
        have hrun := run_append_room (P := P) w t ty e f hu i1 b l.length cp cs h2 ⟨bx, ox, none⟩ ds.length cx ns hlen hnews hsrc.vals.one hroom hfit
        have key := room_ok hr hk (e := e) (sz := ie.sz) (dp := dp) (dp0 := dp0) h1 h2 h4 h5 h6 h7 hcells (flat_len hfl) rfl hsrc.vals hsrc.len rfl hroom fs (fun hdp => ⟨h8 (hd hdp).1, (hd hdp).2⟩)
        obtain ⟨k1, k2, k3⟩ := key
        rw [i2] at hrun
        refine ⟨_, _, _, _, by rw [h1]; exact hrun, k1, rfl, k2, k3⟩
      · obtain ⟨os, o1, o2⟩ := hcells.vals
        have hol : os.length = l.length * ie.sz := by rw [o1.len, flat_len hfl]
        have hrun := run_append_grow (P := P) w t ty e f z hu i1 i4 ⟨b, 0, none⟩ l.length cp os (by rw [i2]; exact hol) (fun j v hj => by rw [add_at]; exact o2 j v hj) ⟨bx, ox, none⟩ ds.length cx ns hlen hnews (by omega) (by omega)
          (growslice_fits (by omega) (by rw [i3]; exact hbound))
        by_cases hdp : dp = true
        · obtain ⟨Fs, f1, f2, f3⟩ := h8 (hd hdp).1
          refine new os (fun j q => j < os.length ∧ Fs j q) cp o1 hol (fun _ => ⟨fun j x hx => ?_, fun j q h => (f2 j q h.2).1, fun i j q hij h h' => f3 i j q hij h.2 h'.2⟩) (by rw [h1]; exact hrun)
          have hlt := (List.getElem?_eq_some_iff.1 hx).1
          have hc := o2 j x hx
          rw [Nat.zero_add, cell_in h2] at hc
          exact (f1 j x hc).up (fun q hq => ⟨hlt, hq⟩)
        · exact new os (fun _ _ => False) cp o1 hol (fun h => absurd h hdp) (by rw [h1]; exact hrun)
/-! ### The conditions met -/
theorem Src.of_row {sz : Nat} {x : Value} {l : List D} (h : VD w I x (.lst l)) (hf : Flat sz l) : ∃ ns, Src w I sz x ns l := by
  obtain ⟨AA, cap, rfl, hcap, hA, hn⟩ := h.row
  cases AA with
  | none =>
    have := hn rfl
    subst this
    cases h with
    | lnil => exact ⟨[], .nil, by simp, .inr ⟨.inr rfl, rfl⟩⟩
  | some ad =>
    obtain ⟨b, o, sp⟩ := ad
    obtain ⟨hs, hc⟩ := hA b o sp rfl
    rcases hs with rfl | rfl
    case inr => exact ⟨[], .nil, by simp, .inr ⟨.inl ⟨_, _, rfl⟩, rfl⟩⟩
    obtain ⟨ns, h1, h2⟩ := hc.vals
    exact ⟨ns, h1, by rw [h1.len, flat_len hf], .inl ⟨b, o, cap, rfl, h2⟩⟩
theorem give_toD {a : A} {x : D} {ms : List Nat} (h : a.give? = some (x, ms)) : a.toD? = some x := by
  cases a with
  | d y => cases y with
    | v y => simp only [A.give?] at h; cases h; rfl
    | _ => simp [A.give?] at h
  | nil => simp only [A.give?] at h; cases h; rfl
  | own m l => simp only [A.give?] at h; cases h; rfl
  | _ => simp [A.give?] at h
theorem gives_toDs : ∀ {l : List A} {r : List D} {ms : List Nat}, gives? l = some (r, ms) → toDs? l = some r
  | [], r, ms, h => by simp [gives?] at h; obtain ⟨rfl, _⟩ := h; rfl
  | a :: l, r, ms, h => by
    simp only [gives?] at h
    split at h
    · rename_i y q1 s q2 e1 e2; cases h
      simp only [toDs?, give_toD e1, gives_toDs e2]
    · cases h
theorem giveE_toE {a : A} {x : D} {ms : List Nat} (h : a.giveE? = some (x, ms)) : a.toE? = some x := by
  cases a with
  | agg l =>
    simp only [A.giveE?] at h
    split at h
    · rename_i r ms' e; cases h; simp only [A.toE?, gives_toDs e]
    · cases h
  | d y => cases y with
    | agg l =>
      simp only [A.giveE?] at h
      split at h
      · cases h; rfl
      · cases h
    | v y => simp only [A.giveE?] at h; exact give_toD h
    | lst y => simp only [A.giveE?] at h; exact give_toD h
  | _ => simp only [A.giveE?] at h; exact give_toD h
theorem giveEs_toEs : ∀ {l : List A} {r : List D} {ms : List Nat}, giveEs? l = some (r, ms) → toEs? l = some r
  | [], r, ms, h => by simp [giveEs?] at h; obtain ⟨rfl, _⟩ := h; rfl
  | a :: l, r, ms, h => by
    simp only [giveEs?] at h
    split at h
    · rename_i y q1 s q2 e1 e2; cases h
      simp only [toEs?, giveE_toE e1, giveEs_toEs e2]
    · cases h
theorem row_of_giveEs {k : Nat} {l : List A} {r : List D} {ms : List Nat} (h : giveEs? l = some (r, ms)) : (A.sl k l).row? = some r := giveEs_toEs h
/-- Cells of which each goes with a row of its own. -/
theorem gives_deep : ∀ {l : List A} {r : List D} {ms : List Nat} {xs : List Value}, gives? l = some (r, ms) → VAs w I G xs l → (∀ x ∈ xs, x.oneCell' = true) →
    ∃ own : List (Option Nat), own.length = xs.length ∧ own.filterMap id = ms ∧ ∀ (j : Nat) (x : Value), xs[j]? = some x →
      (own[j]? = some none ∧ ∀ a n c, x ≠ .slice (some a) n c) ∨ (∃ (m : Nat) (g : Gh), own[j]? = some (some m) ∧ G[m]? = some g ∧ g.root = x)
  | [], r, ms, xs, h, hv, h1 => by
    cases hv
    simp [gives?] at h
    obtain ⟨rfl, rfl⟩ := h
    exact ⟨[], rfl, rfl, fun j x hx => by simp at hx⟩
  | a :: l, r, ms, xs, h, hv, h1 => by
    cases hv with
    | cons hx hxs =>
      simp only [gives?] at h
      split at h
      · rename_i y q1 s q2 e1 e2; cases h
        obtain ⟨own, o1, o2, o3⟩ := gives_deep e2 hxs (fun z hz => h1 z (List.mem_cons_of_mem _ hz))
        cases hx with
        | d hd =>
          cases hd with
          | v x hv =>
            simp only [A.give?] at e1; cases e1
            refine ⟨none :: own, by simp [o1], by simp [o2], fun j z hz => ?_⟩
            cases j with
            | zero => simp at hz; subst hz; exact .inl ⟨rfl, fun a n c => sc_slice hv _ _ _⟩
            | succ j => simpa using o3 j z (by simpa using hz)
          | _ => simp [A.give?] at e1
        | nil =>
          simp only [A.give?] at e1; cases e1
          refine ⟨none :: own, by simp [o1], by simp [o2], fun j x hx => ?_⟩
          cases j with
          | zero => simp at hx; subst hx; exact .inl ⟨rfl, fun a n c e => (by cases e)⟩
          | succ j => simpa using o3 j x (by simpa using hx)
        | own m l' g g1 g2 g3 =>
          simp only [A.give?] at e1; cases e1
          refine ⟨some m :: own, by simp [o1], by simp [o2], fun j x hx => ?_⟩
          cases j with
          | zero => simp at hx; subst hx; exact .inr ⟨m, g, rfl, g1, g2⟩
          | succ j => simpa using o3 j x (by simpa using hx)
        | _ => simp [A.give?] at e1
      · cases h
theorem gives_append : ∀ {l m : List A} {r s : List D} {ms ns : List Nat}, gives? l = some (r, ms) → gives? m = some (s, ns) → gives? (l ++ m) = some (r ++ s, ms ++ ns)
  | [], m, r, s, ms, ns, h, h2 => by simp [gives?] at h; obtain ⟨rfl, rfl⟩ := h; simpa using h2
  | a :: l, m, r, s, ms, ns, h, h2 => by
    simp only [gives?] at h
    split at h
    · rename_i y q1 t q2 e1 e2; cases h
      simp only [List.cons_append, gives?, e1, gives_append e2 h2, List.append_assoc]
    · cases h
theorem dvs_gives : ∀ {l : List D}, dvs? l = true → gives? (l.map A.d) = some (l, [])
  | [], _ => rfl
  | .v x :: l, h => by
    simp only [dvs?, Bool.and_eq_true] at h
    simp only [List.map_cons, gives?, A.give?, dvs_gives h.2, List.append_nil]
  | .agg _ :: l, h => by simp [dvs?, D.plain] at h
  | .lst _ :: l, h => by simp [dvs?, D.plain] at h
theorem giveE_cells {a : A} {x : D} {ms : List Nat} (h : a.giveE? = some (x, ms)) : gives? a.cells = some (x.cells, ms) := by
  have one : ∀ {b : A}, b.cells = [b] → b.give? = some (x, ms) → (∀ l, x ≠ .agg l) → gives? b.cells = some (x.cells, ms) := fun {b} e1 e2 e3 => by
    rw [e1]
    simp only [gives?, e2, List.append_nil]
    cases x with
    | agg l => exact absurd rfl (e3 l)
    | v y => rfl
    | lst y => rfl
  cases a with
  | agg l =>
    simp only [A.giveE?] at h
    split at h
    · rename_i r ms' e; cases h; exact e
    · cases h
  | d y => cases y with
    | agg l =>
      simp only [A.giveE?] at h
      split at h
      · rename_i e; cases h; exact dvs_gives e
      · cases h
    | v y => simp only [A.giveE?] at h; refine one rfl h (fun l e => ?_); subst e; simp [A.give?] at h
    | lst y => simp only [A.giveE?] at h; simp [A.give?] at h
  | nil => simp only [A.giveE?] at h; refine one rfl h (fun l e => ?_); subst e; simp [A.give?] at h
  | own k l => simp only [A.giveE?] at h; refine one rfl h (fun l e => ?_); subst e; simp [A.give?] at h
  | _ => simp only [A.giveE?] at h; simp [A.give?] at h
theorem giveEs_cells : ∀ {l : List A} {r : List D} {ms : List Nat}, giveEs? l = some (r, ms) → gives? (l.flatMap A.cells) = some (r.flatMap D.cells, ms)
  | [], r, ms, h => by simp [giveEs?] at h; obtain ⟨rfl, rfl⟩ := h; rfl
  | a :: l, r, ms, h => by
    simp only [giveEs?] at h
    split at h
    · rename_i y q1 s q2 e1 e2; cases h
      simp only [List.flatMap_cons]
      exact gives_append (giveE_cells e1) (giveEs_cells e2)
    · cases h
/-- An object is given up. -/
theorem RelX.kill (h : RelX c s a w I G) {m : Nat} {g : Gh} (hm : G[m]? = some g) : RelX c (s.kill m) a w I (G.set m ⟨g.root, fun _ => False⟩) := by
  have u := Upd.refl h hm
  exact h.updD (g' := ⟨g.root, fun _ => False⟩) ⟨hm, rfl, rfl, rfl, Nat.le_refl _, u.block, u.keep, u.im, fun b hb => hb.elim⟩ (.inr rfl) (o' := .dead) (fun k hk => hk)
theorem dem_app {o : O} {q u sz : Nat} {dp : Bool} (h : o = .app u sz dp) : o.dem q = .app u sz dp := by subst h; rfl
theorem RelX.kills : ∀ {ms : List Nat} {s : St} {G : List Gh}, RelX c s a w I G → deepApps s.h ms → ∃ G', RelX c (s.kills ms) a w I G' ∧ G'.length = G.length ∧
    (∀ q, q ∉ ms → G'[q]? = G[q]?) ∧ (∀ q g, q ∈ ms → G'[q]? = some g → ∀ b, ¬ g.F b) ∧ (∀ q u sz dp, q ∉ ms → s.h[q]? = some (.app u sz dp) → (s.kills ms).h[q]? = some (.app u sz dp))
  | [], s, G, h, _ => ⟨G, h, rfl, fun _ _ => rfl, (fun q g hq => (by cases hq)), fun _ _ _ _ _ h => h⟩
  | m :: ms, s, G, h, hd => by
    obtain ⟨⟨t, sz, e⟩, hnot, hd⟩ := hd
    obtain ⟨g, hg, _⟩ := h.objs.get e
    have h1 := h.kill hg
    have keep : ∀ q u sz dp, q ≠ m → s.h[q]? = some (.app u sz dp) → (s.kill m).h[q]? = some (.app u sz dp) := fun q u sz dp hq e => by
      simp only [St.kill]
      rw [List.getElem?_set, if_neg (fun h => hq h.symm), demL_get, e]; rfl
    have hd' : ∀ {ns : List Nat}, m ∉ ns → deepApps s.h ns → deepApps (s.kill m).h ns := fun {ns} => by
      induction ns with
      | nil => intro _ _; trivial
      | cons n ns ih =>
        intro hn hh
        obtain ⟨⟨t, sz, e⟩, h2, h3⟩ := hh
        exact ⟨⟨t, sz, keep n t sz true (fun h => hn (h ▸ List.mem_cons_self)) e⟩, h2, ih (fun h => hn (List.mem_cons_of_mem _ h)) h3⟩
    obtain ⟨G', k1, k2, k3, k4, k5⟩ := RelX.kills h1 (hd' hnot hd)
    have hlen : m < G.length := (List.getElem?_eq_some_iff.1 hg).1
    refine ⟨G', k1, by simpa using k2, fun q hq => ?_, fun q g' hq e' => ?_, fun q u sz dp hq e' => ?_⟩
    · rw [k3 q (fun h => hq (List.mem_cons_of_mem _ h)), List.getElem?_set, if_neg (fun (h : m = q) => hq (h ▸ List.mem_cons_self))]
    · by_cases hqm : q ∈ ms
      · exact k4 q g' hqm e'
      · have : q = m := by
          cases hq with
          | head => rfl
          | tail _ h => exact absurd h hqm
        subst this
        rw [k3 q hqm, List.getElem?_set] at e'
        simp [hlen] at e'
        subst e'
        exact fun b hb => hb
    · exact k5 q u sz dp (fun h => hq (List.mem_cons_of_mem _ h)) (keep q u sz dp (fun (h : q = m) => hq (h ▸ List.mem_cons_self)) e')
theorem deepApps_nodup {h : List O} : ∀ {ms : List Nat}, deepApps h ms → ms.Nodup
  | [], _ => List.nodup_nil
  | m :: ms, ⟨_, h1, h2⟩ => List.nodup_cons.2 ⟨h1, deepApps_nodup h2⟩
theorem deepApps_mem {h : List O} : ∀ {ms : List Nat}, deepApps h ms → ∀ m ∈ ms, ∃ t sz, h[m]? = some (.app t sz true)
  | [], _, m, hm => by cases hm
  | n :: ms, ⟨h0, _, h2⟩, m, hm => by
    cases hm with
    | head => exact h0
    | tail _ hm => exact deepApps_mem h2 m hm
theorem app_shp {g : Gh} {t sz : Nat} (h : ObjR w I G g (.app t sz true)) : Shp w g.F g.root := by
  rcases h with ⟨h1, _⟩ | ⟨b, o, n, h1, _, h3⟩ | ⟨b, n, cap, cs, h1, h2, _, _, _, h6, _, h8⟩
  · rw [h1]; exact .one _ _ (fun a n c e => by cases e)
  · rw [h1]; exact .one _ _ (fun a m c e => by injection e with e1 e2; rw [← e2]; exact h3 rfl)
  · rw [h1]; exact (h8 rfl).shp h6 h2
theorem nodup_own {own : List (Option Nat)} (h : (own.filterMap id).Nodup) : ∀ {i j m : Nat}, own[i]? = some (some m) → own[j]? = some (some m) → i = j := by
  induction own with
  | nil => intro i j m h1; simp at h1
  | cons o own ih =>
    have mem : ∀ {i m : Nat}, own[i]? = some (some m) → m ∈ own.filterMap id := fun {i m} e => by
      rw [List.mem_filterMap]; exact ⟨some m, List.mem_of_getElem? e, rfl⟩
    intro i j m h1 h2
    cases o with
    | none =>
      cases i with
      | zero => simp at h1
      | succ i => cases j with
        | zero => simp at h2
        | succ j => exact congrArg (· + 1) (ih (by simpa using h) (i := i) (j := j) (m := m) (by simpa using h1) (by simpa using h2))
    | some q =>
      simp only [List.filterMap_cons, id] at h
      have hn := List.nodup_cons.1 h
      cases i with
      | zero =>
        simp at h1; subst h1
        cases j with
        | zero => rfl
        | succ j => exact absurd (mem (by simpa using h2)) hn.1
      | succ i => cases j with
        | zero =>
          simp at h2; subst h2
          exact absurd (mem (by simpa using h1)) hn.1
        | succ j => exact congrArg (· + 1) (ih hn.2 (i := i) (j := j) (m := m) (by simpa using h1) (by simpa using h2))
theorem set_dem (h : List O) (k u sz : Nat) (dp : Bool) (e : h[k]? = some (.app u sz dp)) : (O.demL k h).set k (.app u sz dp) = O.demL k h := by
  apply List.ext_getElem?
  intro j
  rw [List.getElem?_set]
  split
  · rename_i hj; subst hj
    have : k < (O.demL k h).length := by rw [demL_len]; exact (List.getElem?_eq_some_iff.1 e).1
    rw [if_pos this, demL_get, e]; rfl
  · rfl
theorem does_grow (hT : TOk P T) (hr : RelX c s a w I G) {t ty e : Nat} {ie : TI} (hu : P.underlying t = some (.slice e)) (he : T e = some ie) (hby : ie.bytes ≠ 0) {k : Nat} {g : Gh} (hk : G[k]? = some g)
    {l : List D} (hv : VD w I g.root (.lst l)) {x : Value} {xa : A} (hx : VA w I G x xa) {dst : Option Nat} {K : St → Prop} (hK : vcGrow e ie s k l xa fun r s' => K (s'.put dst r)) :
    Does P c a w (Builtin.append_ #[t, t] ty #[g.root, x]) dst K := by
  have hie := hT e ie he
  have fin : ∀ {s0 : St} {G0 : List Gh}, RelX c s0 a w I G0 → G0[k]? = some g → ∀ {ds : List D} {ns : List Value} {dp : Bool}, s0.h[k]? = some (.app e ie.sz dp) → Src w I ie.sz x ns ds → Flat ie.sz l → Flat ie.sz ds →
      (l.length + ds.length) * ie.bytes ≤ 140737488355328 → ∀ fs : Nat → Nat → Prop, (dp = true → Deep w c G0 ns fs) → K ((s0.dem k).put dst (.own k (l ++ ds))) →
      Does P c a w (Builtin.append_ #[t, t] ty #[g.root, x]) dst K := by
    intro s0 G0 hr0 hk0 ds ns dp eh hs hfl hfd hb fs hd hK
    obtain ⟨g', hg', ho⟩ := hr0.objs.get eh
    rw [hk0] at hg'; cases hg'
    obtain ⟨v', w', I', g', q1, q2, q3, q4, q5⟩ := append_core hr0 (ty := ty) hu hie hby hk0 ho hv hfl hs hfd hb fs (dp := dp) (fun h => ⟨h, hd h⟩)
    have hX := hr0.updD q2 (.inl (by
      rcases ho with ⟨h1, _⟩ | ⟨_, _, _, h1, _⟩ | ⟨_, _, _, _, h1, _⟩ <;> exact ⟨_, _, _, h1⟩)) q4
    rw [set_dem _ _ _ _ _ eh] at hX
    refine ⟨v', w', q1, _, hK, I', _, hX.put ?_ dst⟩
    have hkl : k < G0.length := (List.getElem?_eq_some_iff.1 hk0).1
    exact .own k _ g' (by rw [List.getElem?_set]; simp [hkl]) q3 q5
  unfold vcGrow at hK
  split at hK
  · rename_i u sz eh
    obtain ⟨rfl, rfl, hfl, hK⟩ := hK
    split at hK
    · rename_i kx lx
      split at hK
      · rename_i ds ms eg
        obtain ⟨hb, hfd, hda, hkm, hK⟩ := hK
        cases hx with
        | sl b n kx lx gx g1 g2 g3 hc =>
          obtain ⟨xs, x1, x2, x3⟩ := hc.vals
          have hcells := giveEs_cells eg
          have hvd : VDs w I xs (ds.flatMap D.cells) := toDs_cells x2 x1 (gives_toDs hcells)
          obtain ⟨own, o1, o2, o3⟩ := gives_deep hcells x1 x2
          obtain ⟨G', k1, k2, k3, k4, k5⟩ := hr.kills hda
          have hnd := deepApps_nodup hda
          rw [← o2] at hnd
          have hlen : n = ds.length := g3.trans (toEs_len (giveEs_toEs eg))
          have hF : ∀ {m : Nat} {gm : Gh}, m ∈ ms → G[m]? = some gm → Shp w gm.F gm.root := fun {m gm} hm e => by
            obtain ⟨t', sz', e'⟩ := deepApps_mem hda m hm
            exact app_shp (hr.objs.obj m gm _ e e')
          have hmem : ∀ {j m : Nat}, own[j]? = some (some m) → m ∈ ms := fun {j m} e => by
            rw [← o2, List.mem_filterMap]; exact ⟨some m, List.mem_of_getElem? e, rfl⟩
          refine fin k1 ((k3 k hkm).trans hk) (k5 k _ _ _ hkm eh) ⟨hvd, by rw [hvd.len, flat_len hfd], .inl ⟨b, 0, n, by rw [hlen], x3⟩⟩ hfl hfd hb
            (fun j q => ∃ m gm, own[j]? = some (some m) ∧ G[m]? = some gm ∧ gm.F q) (fun _ => ⟨fun j y hy => ?_, fun i j q hij => ?_, fun j q => ?_⟩) hK
          · rcases o3 j y hy with ⟨_, h2⟩ | ⟨m, gm, h1, h2, h3⟩
            · exact .one _ _ (fun a n c e => absurd e (h2 a n c))
            · rw [← h3]
              exact (hF (hmem h1) h2).up (fun q hq => ⟨m, gm, h1, h2, hq⟩)
          · rintro ⟨m, gm, h1, h2, h3⟩ ⟨m', gm', h1', h2', h3'⟩
            by_cases hmm : m = m'
            · subst hmm; exact hij (nodup_own hnd h1 h1')
            · exact hr.objs.disj m m' gm gm' q h2 h2' hmm h3 h3'
          · rintro ⟨m, gm, h1, h2, h3⟩
            refine ⟨hr.objs.inb m gm q h2 h3, hr.fr.own m gm q h2 h3, fun i gi ei hi => ?_⟩
            by_cases him : i ∈ ms
            · exact k4 i gi him ei q hi
            · rw [k3 i him] at ei
              exact hr.objs.disj i m gi gm q ei h2 (fun h => him (h ▸ hmem h1)) hi h3
      · exact hK.elim
    · rename_i xa' hns
      split at hK
      · rename_i ds er
        obtain ⟨hb, hfd, hpl, hK⟩ := hK
        obtain ⟨ns, hs⟩ := Src.of_row (hx.row er) hfd
        refine fin hr hk eh hs hfl hfd hb (fun _ _ => False) (fun _ => ⟨fun j y hy => ?_, fun _ _ _ _ h => h.elim, fun _ _ h => h.elim⟩) hK
        obtain ⟨q, hq⟩ : ∃ q, (ds.flatMap D.cells)[j]? = some q := by
          have hlt := (List.getElem?_eq_some_iff.1 hy).1
          rw [hs.vals.len] at hlt
          exact ⟨_, List.getElem?_eq_getElem hlt⟩
        obtain ⟨y', e1, e2, _⟩ := hs.vals.get hq
        rw [hy] at e1; cases e1
        obtain ⟨z, hz, hqz⟩ := List.mem_flatMap.1 (List.mem_of_getElem? hq)
        have := hpl z hz q hqz
        cases e2 with
        | v y h => exact .one _ _ (fun a n c e => absurd e (sc_slice h _ _ _))
        | _ => simp [D.plain] at this
      · exact hK.elim
  · rename_i u sz eh
    obtain ⟨rfl, rfl, hfl, hK⟩ := hK
    split at hK
    · rename_i ds er
      obtain ⟨hb, hfd, hK⟩ := hK
      obtain ⟨ns, hs⟩ := Src.of_row (hx.row er) hfd
      exact fin hr hk eh hs hfl hfd hb (fun _ _ => False) (fun h => by cases h) hK
    · exact hK.elim
  · exact hK.elim
theorem does_append (hT : TOk P T) (hr : RelX c s a w I G) {t u ty : Nat} {x y : Value} {xa ya : A} (hx : VA w I G x xa) (hy : VA w I G y ya) {dst : Option Nat} {K : St → Prop}
    (hK : vcAppend T t u xa ya s fun r s' => K (s'.put dst r)) : Does P c a w (Builtin.append_ #[t, u] ty #[x, y]) dst K := by
  unfold vcAppend at hK
  split at hK
  · rename_i e sz by_ z et
    obtain ⟨rfl, hK⟩ := hK
    obtain ⟨_, _, _, _, _, _, _, _, _, _, _, _, hu⟩ := hT t _ et
    split at hK
    · rename_i ie ee
      obtain ⟨hby, hK⟩ := hK
      split at hK
      · cases hx with
        | nil =>
          have hlen := hr.objs.len
          have hp := hr.push (g := ⟨.slice none 0 0, fun _ => False⟩) (o := .app e ie.sz false) (.inl ⟨rfl, fun _ h => h⟩) (fun b hb => hb.elim)
          exact does_grow hT hp (t := t) (ty := ty) hu ee hby (k := s.h.length) (g := ⟨.slice none 0 0, fun _ => False⟩) (by rw [← hlen]; simp) .lnil
            (hy.mono (fun _ _ h => h) (fun _ _ _ => rfl) (roots_push G _)) hK
      · rename_i k l
        cases hx with
        | own k l g h1 h2 h3 =>
          rw [← h2] at h3 ⊢
          exact does_grow hT hr hu ee hby h1 h3 hy hK
      · rename_i k l
        split at hK
        · rename_i ds ed
          cases hx with
          | sl b n k l g h1 h2 h3 h4 =>
            have hrow : VD w I (.slice (some ⟨b, 0, none⟩) n n) (.lst ds) := (VA.sl b n k l g h1 h2 h3 h4).row ed
            rw [← h2] at hrow ⊢
            exact does_grow hT hr hu ee hby h1 hrow hy hK
        · exact hK.elim
      · exact hK.elim
    · exact hK.elim
  · exact hK.elim
end
end Go.Ab
