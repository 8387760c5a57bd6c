/-
  The contracts and the loop of the law on counts of accesses. Conditions: none.
-/
import Derived.Test.YtjcpcnoakphecaaDoorTrC
import Derived.Test.YtjcpcnoakphecaaDoorTrO
set_option linter.unusedSectionVars false
set_option linter.unusedVariables false
set_option linter.unusedSimpArgs false
namespace Go.Proofs.YtjcpcnoakphecaaDoor
open Go Go.AE Go.SX Go.RowKit
set_option maxRecDepth 1000000
noncomputable section
def lcsP : List (FuncId × List LC) := [(26, [lcWhN]), (28, [lcKn []]), (29, [lcPn []]), (30, [lcOn []]), (27, [lcLn []]), (32, [lcRn []]), (31, [lcTn []])]
theorem lcsP_ok : ∀ p ∈ lcsP, ∀ c ∈ p.2, c.ok = true ∧ c.Ok Tryd.prog p.1 :=
  all_cons' (all_cons' ⟨rfl, wh_b⟩ all_nil') (all_cons' (all_cons' ⟨rfl, kn⟩ all_nil') (all_cons' (all_cons' ⟨rfl, pn⟩ all_nil') (all_cons' (all_cons' ⟨rfl, on⟩ all_nil') (all_cons' (all_cons' ⟨rfl, ln⟩ all_nil') (all_cons' (all_cons' ⟨rfl, rn⟩ all_nil') (all_cons' (all_cons' ⟨rfl, tn⟩ all_nil') all_nil'))))))
def clP (l : List (FuncId × List LC)) : List (FuncId × CallF) := (14, conCall cYes) :: l.map fun p => (p.1, conCall (conSm (conAlt (p.2.map (conG 12 T)))))
theorem clP_ok {l : List (FuncId × List LC)} (h : ∀ p ∈ l, ∀ c ∈ p.2, c.ok = true ∧ c.Ok Tryd.prog p.1) : ∀ n c, conTab (clP l) n = some c → ConOk T n c := conTab_ok (all_cons' live36.ok fun p hp => by
  obtain ⟨q, hq, rfl⟩ := List.mem_map.1 hp
  refine Con.ok (Con.sm (Con.alt fun f hf => ?_))
  obtain ⟨c, hc, rfl⟩ := List.mem_map.1 hf
  exact conG_ok (h q hq c hc).1 (h q hq c hc).2)
def CP := conTab (clP lcsP)
theorem CP_ok : ∀ n c, CP n = some c → ConOk T n c := clP_ok lcsP_ok
def Wcn : FuncId → Nat → List (Hint Tryd.prog) := fun n k => bif Nat.beq n 6 && Nat.beq k 0 then [.t 16 (some 0) (some 1000), .a 9 3 8, .a 10 3 9, .l 11 24 (some 1000), .t 12 (some 0) (some 255), .t 13 none none, .t 14 none none, .t 15 (some (-1)) (some 1000)] else bif Nat.beq n 24 then [.t 5 (some 0) (some 1000)] else []
def ofA : X := ofX v0 (.v 2)
def cInv : X := .o .and (kiPX v0 (.v 4) (.v 5)) (.o .and (plPX v0 (.v 4) (.v 6)) (.o .and (ofPX v0 (.v 2) (.v 4) (.v 7)) (.o .and (laPX v0 (.v 3) (.v 4) (.v 8) (.v 9)) (.o .and (riPX v0 (.v 4) (.v 10)) (otPX v0 (.v 1) (.v 4) (.v 11))))))
def cLem4 : List X := lemKi v0 (.v 4) (.v 5) ++ (lemPl v0 (.v 4) (.v 6) ++ (lemOf v0 (.v 2) (.v 4) (.v 7) ++ (lemLa v0 (.v 3) (.v 4) (.v 8) (.v 9) ++ (lemRi v0 (.v 4) (.v 10) ++ lemOt v0 (.v 1) (.v 4) (.v 11)))))
theorem cLem4_ok : AllB cLem4 := by
  intro x hx
  rcases List.mem_append.1 hx with h | h
  · exact lemKi_ok _ _ _ x h
  rcases List.mem_append.1 h with h | h
  · exact lemPl_ok _ _ _ x h
  rcases List.mem_append.1 h with h | h
  · exact lemOf_ok _ _ _ _ x h
  rcases List.mem_append.1 h with h | h
  · exact lemLa_ok _ _ _ _ _ x h
  rcases List.mem_append.1 h with h | h
  · exact lemRi_ok _ _ _ x h
  · exact lemOt_ok _ _ _ _ x h
def cLem13 : List X := [impS (.o .and (ofPX v0 (.v 2) (.v 4) (.v 7)) (.u .not (ltL v0 (.v 4)))) (fldX ofA (.v 7) (.v 13))]
theorem cLem13_ok : AllB cLem13 := allB1 (fun e => impS_ok fun h => by
  obtain ⟨h1, h2⟩ := and_out h
  exact fld_ok (of_end ((ofP_iff e _ _ _ _).1 h1) (nlt_out h2)).symm) allB0
def cExt : List X := [axK, axP, ofPX v0 (.v 2) (.i 0) nilR, laPX v0 (.v 3) (.i 0) (.i 0) (.b false), axR, axT]
theorem cExt_ok : AllB cExt := allB1 (ki0 v0) (allB1 (pl0 v0) (allB1 (of0 v0 (.v 2)) (allB1 (la0 v0 (.v 3)) (allB1 (ri0 v0) (allB1 (ot0 v0 (.v 1)) allB0)))))
def fewA (x : X) : X := .u .not (.o .lt (.i 1000) (rln x))
end
end Go.Proofs.YtjcpcnoakphecaaDoor
