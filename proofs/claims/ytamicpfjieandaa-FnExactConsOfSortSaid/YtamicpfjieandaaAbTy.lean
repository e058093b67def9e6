/- Opened rows, held on from round to round. -/
import Derived.Test.YtamicpfjieandaaAbTx
namespace Go.Ab
open Go
set_option linter.unusedVariables false
set_option linter.unusedSimpArgs false
theorem COp.lel {ds : List D} {as : List A} {L : List (Value × D)} (h : COp ds as L) (n m : Nat) : A.lel n m as as := by
  induction h with
  | nil => simp only [A.lel]
  | v x _ ih => simp only [A.lel, A.le]; exact ⟨trivial, ih⟩
  | lst r l _ ih => simp only [A.lel, A.le]; exact ⟨trivial, ih⟩
theorem pack_le {as : List A} {n m : Nat} (h : A.lel n m as as) : A.le n m (pack as) (pack as) := by
  unfold pack
  split
  · simp only [A.le]
  · simp only [A.le]; exact h
theorem mkE_le {ag : Bool} {as : List A} {n m : Nat} (h : A.lel n m as as) : A.le n m (mkE ag as) (mkE ag as) := by
  unfold mkE
  split
  · simp only [A.lel] at h; exact h.1
  · exact pack_le h
theorem Opd.les {ag : Bool} {l : List D} {L : List A} {Ls : List (Value × D)} (h : Opd ag l L Ls) (n m : Nat) : ∀ x ∈ L, A.le n m x x := by
  induction h with
  | nil => intro x hx; cases hx
  | cons hc _ ih =>
    intro x hx
    rcases List.mem_cons.1 hx with rfl | hx
    · exact mkE_le (hc.lel n m)
    · exact ih x hx
theorem Opd.ole {ag : Bool} {l : List D} {L : List A} {Ls : List (Value × D)} (h : Opd ag l L Ls) (n m : Nat) (r : Value) (t sz : Nat) : O.le n m (.opn r t sz L) (.opn r t sz L) := by
  simp only [O.le]; exact ⟨trivial, trivial, trivial, trivial, h.les n m⟩
theorem Opd.olr {ag : Bool} {l : List D} {L : List A} {Ls : List (Value × D)} (h : Opd ag l L Ls) (n m : Nat) (t sz : Nat) : O.le n m (.row t sz L) (.row t sz L) := by
  simp only [O.le]; exact ⟨trivial, trivial, .inr ⟨trivial, h.les n m⟩⟩
end Go.Ab
