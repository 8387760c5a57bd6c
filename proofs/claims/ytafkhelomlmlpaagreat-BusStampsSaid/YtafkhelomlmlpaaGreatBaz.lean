/-
  The program's own facts and the library's contracts, for the symbolic executor. Conditions: none.
-/
import Derived.Test.YtafkhelomlmlpaaGreatLog10
import Derived.Test.YtafkhelomlmlpaaGreatRows
import Derived.ProofKit
set_option linter.unusedVariables false
set_option linter.unusedSimpArgs false
namespace Go.Proofs.YtafkhelomlmlpaaGreat
open Go Go.AE Go.SX Go.RowKit
set_option maxRecDepth 1000000
theorem own : ownKnob Tryz.prog.godebug = none := by kernel_rfl
theorem laidOut : laidOutB Tryz.prog = true := by kernel_rfl
theorem noNum : Tryz.prog.funcs.toList.all (fun d => !(d.name == "runtime.NumGoroutine")) = true := by kernel_rfl
theorem mixd : Tryz.prog.follows .mixedOrders = true := by kernel_rfl
noncomputable def T : Tab Tryz.prog := tabOf Tryz.prog noNum mixd
theorem hasM {a b n : Int} (h1 : a ≤ n) (h2 : n ≤ b) : (Rg.mk (some a) (some b)).has n := ⟨fun x hx => (by cases hx; exact h1), fun x hx => (by cases hx; exact h2)⟩
theorem hasT (n : Int) : Rg.top.has n := ⟨fun x hx => (by cases hx), fun x hx => (by cases hx)⟩
def noOb : Ob := ⟨fun _ _ _ _ => False, fun h => h.elim, fun h => h.elim⟩
variable [Fam]
abbrev W0 : FuncId → Nat → List (Hint Tryz.prog) := fun _ _ => []
abbrev C0 : FuncId → Option CallF := fun _ => none
def noX : Nat → List X := fun _ => []
def noJ : Nat → Option LJ := fun _ => none
/-! Functions that need nothing and say yes. -/
def cYes : ConF := fun _ args m => match args with
  | [] => some ([], .z (.b (.b true)), m)
  | _ => none
end Go.Proofs.YtafkhelomlmlpaaGreat
