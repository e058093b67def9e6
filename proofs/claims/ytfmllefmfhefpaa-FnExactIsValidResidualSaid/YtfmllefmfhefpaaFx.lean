/- The walks of expressions, under the names that gen.py uses. -/
import Derived.Test.YtfmllefmfhefpaaFb
namespace Go.Proofs.Ytfmllefmfhefpaa
open Go Go.Ab
theorem szExpr_ct (a : Ex) (hok : a.ok) (l : Int) (h0 : 0 ≤ l) (h1 : l ≤ 1048576) : Ct Try.prog 25 [.d a.E, .int l] [] (fun _ : Unit => True) (fun _ => .int (szE a l)) (fun _ => []) := szE_ct a hok l h0 h1
theorem szExprS_ct (a : List Ex) (hok : a.length ≤ 9223372036854775807 ∧ ∀ y ∈ a, y.ok) (l : Int) (h0 : 0 ≤ l) (h1 : l ≤ 1048576) : Ct Try.prog 61 [.d (.lst (a.map Ex.E)), .int l] [] (fun _ : Unit => True) (fun _ => .int (szS a l)) (fun _ => []) :=
  szS_ct a hok.1 (fun e he l h0 h1 => szE_ct e (hok.2 e he) l h0 h1) l h0 h1
theorem toExpr_ct (a : Ex) (hsm : a.sm) : Ct Try.prog 28 [.d a.E] [] (fun _ : Unit => True) (fun _ => .d a.E) (fun _ => []) := toE_ct a hsm
theorem toExprS_ct (a : List Ex) (hsm : a.length ≤ 1048576 ∧ ∀ y ∈ a, y.sm) : Ct Try.prog 67 [.d (.lst (a.map Ex.E))] [] (fun _ : Unit => True) (fun _ => .d (.lst (a.map Ex.E))) (fun _ => []) :=
  toS_ct a hsm.1 fun e he => toE_ct e (hsm.2 e he)
theorem eqExpr_ct (a : Ex) (hsm : a.sm) : Ct Try.prog 32 [.d a.E, .d a.E] [] (fun _ : Unit => True) (fun _ => .bool true) (fun _ => []) := eqE_ct a hsm
theorem eqExprS_ct (a : List Ex) (hsm : a.length ≤ 1048576 ∧ ∀ y ∈ a, y.sm) : Ct Try.prog 74 [.d (.lst (a.map Ex.E)), .d (.lst (a.map Ex.E))] [] (fun _ : Unit => True) (fun _ => .bool true) (fun _ => []) :=
  eqS_ct a hsm.1 fun e he => eqE_ct e (hsm.2 e he)
end Go.Proofs.Ytfmllefmfhefpaa
