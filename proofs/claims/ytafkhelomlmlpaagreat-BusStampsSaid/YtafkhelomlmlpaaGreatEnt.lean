/-
  Physical addresses of logical ones: one named function on both sides. Conditions: none.
-/
import Derived.Test.YtafkhelomlmlpaaGreatBusC
set_option linter.unusedSectionVars false
set_option linter.unusedVariables false
set_option linter.unusedSimpArgs false
namespace Go.Proofs.YtafkhelomlmlpaaGreat
open Go Go.AE Go.SX Go.RowKit
set_option maxRecDepth 1000000
section
variable [Fam]
end
/-- The address: the bank of the page, and the place in it. -/
def phI (l : List D) (a : Int) : Int := clampI 0 2097151 ((l.getD (a / 8192).toNat .u).toI * 8192 + a % 8192)
def phD (d : D) : D := .i (phI ((comps 9 d).take 8) ((comps 9 d).getD 8 .u).toI)
class PhOk [HF] : Prop where
  h50 : ∀ d, Fam.Φ 50 d = phD d
variable [HF] [PhOk]
end Go.Proofs.YtafkhelomlmlpaaGreat
