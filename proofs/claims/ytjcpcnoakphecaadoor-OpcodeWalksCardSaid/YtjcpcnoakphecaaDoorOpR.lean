/-
  What must be whatever is asked of opcodes. Conditions: none.
-/
import Derived.Test.YtjcpcnoakphecaaDoorOpQ
set_option linter.unusedSectionVars false
set_option linter.unusedVariables false
set_option linter.unusedSimpArgs false
namespace Go.Proofs.YtjcpcnoakphecaaDoor
open Go Go.AE Go.SX Go.RowKit Go.Sort
set_option maxRecDepth 1000000
noncomputable def lcTabO (l : List (FuncId × List LC)) : List (FuncId × CallF) := l.map fun p => (p.1, conCall (conSm (conAlt (p.2.map (conG 12 TO)))))
theorem lcTabO_all {T' : Tab Tryd.prog} {l : List (FuncId × List LC)} (h : ∀ p ∈ l, ∀ c ∈ p.2, c.ok = true ∧ c.Ok Tryd.prog p.1) : ∀ p ∈ lcTabO l, ConOk T' p.1 p.2 := fun p hp => by
  obtain ⟨q, hq, rfl⟩ := List.mem_map.1 hp
  refine Con.ok (Con.sm (Con.alt fun f hf => ?_))
  obtain ⟨c, hc, rfl⟩ := List.mem_map.1 hf
  exact conG_ok (h q hq c hc).1 (h q hq c hc).2
theorem one_lcO {c : LC} {f : FuncId} (h1 : c.ok = true) (h : c.Ok Tryd.prog f) : ∀ c' ∈ [c], c'.ok = true ∧ c'.Ok Tryd.prog f := all_cons' ⟨h1, h⟩ all_nil'
noncomputable def CLq : List (FuncId × CallF) := lcTabO [(51, [lcNm (.rw [.s] nmsX)])] ++ CLo
theorem CLq_all {T' : Tab Tryd.prog} : ∀ p ∈ CLq, ConOk T' p.1 p.2 := fun p hp => (List.mem_append.1 hp).elim (lcTabO_all (all_cons' (one_lcO rfl names_lc) all_nil') p) (CLo_all p)
noncomputable def CQ0 := conTab (lcTabO [(49, [lcFd [76, 68, 65] 1 169 true, lcFd [76, 68, 65] 11 0 false]), (50, [lcMd [83, 84, 90] [2, 3, 5, 6]])] ++ CLq)
theorem CQ0_ok : ∀ n c, CQ0 n = some c → ConOk TO n c := conTab_ok fun p hp => (List.mem_append.1 hp).elim (lcTabO_all (all_cons' (all_cons' ⟨rfl, find1⟩ (all_cons' ⟨rfl, find2⟩ all_nil')) (all_cons' (one_lcO rfl modes1) all_nil')) p) (CLq_all p)
theorem live23 : Con Tryd.prog 48 cYes := yes_conT (T' := TO) rfl CQ0_ok (by kernel_rfl)
noncomputable def CO1 := conTab ((48, conCall cYes) :: CLq)
theorem CO1_ok : ∀ n c, CO1 n = some c → ConOk T n c := conTab_ok (all_cons' live23.ok CLq_all)
end Go.Proofs.YtjcpcnoakphecaaDoor
