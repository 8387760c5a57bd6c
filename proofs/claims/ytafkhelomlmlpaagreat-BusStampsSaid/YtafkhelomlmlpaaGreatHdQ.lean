/-
  Plain laws of the page: gone on in parts it is as gone on at once. Conditions: none.
-/
import Derived.Test.YtafkhelomlmlpaaGreatHdG
import Derived.Test.YtafkhelomlmlpaaGreatHdP
set_option linter.unusedSectionVars false
set_option linter.unusedVariables false
set_option linter.unusedSimpArgs false
namespace Go.Proofs.YtafkhelomlmlpaaGreat
open Go Go.AE Go.SX Go.RowKit
set_option maxRecDepth 1000000
/-- What going on changes. -/
structure PT where
  c : Int
  l : Int
  due : Bool
  seen : Int
  rose : Bool
  now : Int
structure PT.Ok (p : PT) (r : Int) (L : List (List A)) : Prop where
  c0 : 0 ≤ p.c
  c1 : p.c ≤ 127
  l0 : 1 ≤ p.l
  l1 : p.l ≤ 3072
  s0 : 0 ≤ p.seen
  s1 : p.seen ≤ (L.length : Nat)
  r0 : 0 ≤ r
  r1 : r ≤ 127
  e1 : ((L.length : Nat) : Int) ≤ 1000
/-! The same of states. -/
variable [HF] [HOk1] [HOk2] [HOk3]
end Go.Proofs.YtafkhelomlmlpaaGreat
