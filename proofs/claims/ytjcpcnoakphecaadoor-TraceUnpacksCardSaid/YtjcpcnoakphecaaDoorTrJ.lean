/-
  The contracts for the laws on packed traces. Conditions: none.
-/
import Derived.Test.YtjcpcnoakphecaaDoorTrC
import Derived.Test.YtjcpcnoakphecaaDoorTrI
set_option linter.unusedSectionVars false
set_option linter.unusedVariables false
set_option linter.unusedSimpArgs false
namespace Go.Proofs.YtjcpcnoakphecaaDoor
open Go Go.AE Go.SX Go.RowKit
set_option maxRecDepth 1000000
def lcsJ : List (FuncId × List LC) := [(20, [lcPkAx false, lcPkAx true, lcPkBx false]), (21, [lcPkAx false, lcPkBx false]), (23, [lcUpAx false, lcUpAx true, lcUpBx false]), (25, [lcUpAx false, lcUpBx false])]
theorem lcsJ_ok : ∀ p ∈ lcsJ, ∀ c ∈ p.2, c.ok = true ∧ c.Ok Tryd.prog p.1 :=
  all_cons' (all_cons' ⟨rfl, pkA1⟩ (all_cons' ⟨rfl, pkA2⟩ (all_cons' ⟨rfl, pkA3⟩ all_nil'))) (all_cons' (all_cons' ⟨rfl, pkB1⟩ (all_cons' ⟨rfl, pkB3⟩ all_nil')) (all_cons' (all_cons' ⟨rfl, upA1⟩ (all_cons' ⟨rfl, upA2⟩ (all_cons' ⟨rfl, upA3⟩ all_nil'))) (all_cons' (all_cons' ⟨rfl, upB1⟩ (all_cons' ⟨rfl, upB3⟩ all_nil')) all_nil')))
noncomputable def clJ (l : List (FuncId × List LC)) : List (FuncId × CallF) := (14, conCall cYes) :: l.map fun p => (p.1, conCall (conSm (conAlt (p.2.map (conG 12 T)))))
theorem clJ_ok {l : List (FuncId × List LC)} (h : ∀ p ∈ l, ∀ c ∈ p.2, c.ok = true ∧ c.Ok Tryd.prog p.1) : ∀ n c, conTab (clJ l) n = some c → ConOk T n c := conTab_ok (all_cons' live36.ok fun p hp => by
  obtain ⟨q, hq, rfl⟩ := List.mem_map.1 hp
  refine Con.ok (Con.sm (Con.alt fun f hf => ?_))
  obtain ⟨c, hc, rfl⟩ := List.mem_map.1 hf
  exact conG_ok (h q hq c hc).1 (h q hq c hc).2)
noncomputable def CJ := conTab (clJ lcsJ)
theorem CJ_ok : ∀ n c, CJ n = some c → ConOk T n c := clJ_ok lcsJ_ok
def Wsm : FuncId → Nat → List (Hint Tryd.prog) := fun n k => bif Nat.beq n 22 then [.t 5 (some 0) (some 13000)] else bif Nat.beq n 24 then [.t 5 (some 0) (some 2600)] else []
def urp : X := urX pk0
def few3 : X := .u .not (.o .lt (.i 3000) lenB)
def few1 : X := .u .not (.o .lt (.i 1000) (rlen (.v 0)))
def pku : X := pkX ur0 (rlen ur0)
theorem rows_eq {e : En} {a b : List (List A)} {k : Nat} (h : rowN a k = canon (rowN b k)) : rSt (rowN a k) = rSt (rowN b k) ∧ rAd (rowN a k) = rAd (rowN b k) ∧ rKd (rowN a k) = rKd (rowN b k) ∧ rWr (rowN a k) = rWr (rowN b k) ∧ rDa (rowN a k) = rDa (rowN b k) := by
  rw [h]
  exact ⟨canon_st _, canon_ad _, canon_kd _, rfl, canon_da _⟩
end Go.Proofs.YtjcpcnoakphecaaDoor
