/-
  What is written to work memory is read: in plain words, of the bus's names. Conditions: none.
-/
import Derived.Test.YtafkhelomlmlpaaGreatStA
set_option linter.unusedSectionVars false
set_option linter.unusedVariables false
set_option linter.unusedSimpArgs false
namespace Go.Proofs.YtafkhelomlmlpaaGreat
open Go Go.AE Go.SX Go.RowKit
set_option maxRecDepth 1000000
variable [HF] [HOk1] [HOk2] [HOk3] [ROk] [BOk] [BOk2] [SOk]
def memAt (s : D) (a : Int) : Int := (((bpt s 5).toS.getD (a % 8192).toNat 0).toNat : Nat)
/-- A bus with n accesses left, whose work memory holds v at a. -/
structure HoldSt (s : D) (a v n : Int) : Prop where
  left : (bpt s 7).toI = n
  at_ : memAt s a = v
end Go.Proofs.YtafkhelomlmlpaaGreat
