/-
  What must be whatever is asked of traces: a closed run. Conditions: none.
-/
import Derived.Test.YtciemdpcllpdkaaDoorTrB
set_option linter.unusedSectionVars false
set_option linter.unusedVariables false
set_option linter.unusedSimpArgs false
namespace Go.Proofs.YtciemdpcllpdkaaDoor
open Go Go.AE Go.SX Go.RowKit Go.Shelf
set_option maxRecDepth 1000000
section
variable [Fam]
theorem yes_conW {n : FuncId} {T' : Tab Tryd.prog} {W : FuncId → Nat → List (Hint Tryd.prog)} (hfn : T'.fn n = true) {C : FuncId → Option CallF} (hC : ∀ n c, C n = some c → ConOk T' n c) (h : evT (envOf []) (.z (.b (.b true))) (treeOf T' W C 300 20 n (gI 0 []) [] []) = true) : Con Tryd.prog n cYes := by
  intro g args m ns v m' e hf hg hn
  unfold cYes at hf
  split at hf
  · cases hf
    exact ACall.of_fin (e := envOf []) hC hfn (gI_ok fun p hp => by cases hp) rfl h (denM e m)
  · cases hf
def CLt : List (FuncId × CallF) := [(57, conCall conJoin), (29, conCall conSplit), (33, conCall (conP oIndex))]
theorem CLt_all {T' : Tab Tryd.prog} : ∀ p ∈ CLt, ConOk T' p.1 p.2 := by
  intro p hp
  simp only [CLt, List.mem_cons, List.not_mem_nil, or_false] at hp
  rcases hp with rfl | rfl | rfl
  · exact conJN.ok
  · exact conSplit_ok.ok
  · exact conIX.ok
def CT0 := conTab CLt
theorem CT0_ok : ∀ n c, CT0 n = some c → ConOk T n c := conTab_ok CLt_all
noncomputable def WT : FuncId → Nat → List (Hint Tryd.prog) := fun n k => bif Nat.beq n 18 && Nat.beq k 2000 then [.r bkXX] else []
theorem live36 : Con Tryd.prog 5 cYes := yes_conW (T' := T) (W := WT) rfl CT0_ok (by kernel_rfl)
end
end Go.Proofs.YtciemdpcllpdkaaDoor
