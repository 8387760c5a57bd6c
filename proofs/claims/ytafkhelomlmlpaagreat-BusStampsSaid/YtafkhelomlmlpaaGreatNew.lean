/-
  A bus over a page made of nothing. Conditions: none.
-/
import Derived.Test.YtafkhelomlmlpaaGreatNil
set_option linter.unusedSectionVars false
set_option linter.unusedVariables false
set_option linter.unusedSimpArgs false
namespace Go.Proofs.YtafkhelomlmlpaaGreat
open Go Go.AE Go.SX Go.RowKit
set_option maxRecDepth 1000000
variable [HF] [HOk1] [HOk2] [HOk3] [ROk] [BOk]
def bud1 : X := iI (.o .lt (.v 1) (.i 0)) (.i 0) (iI (.o .lt (.i maxB) (.v 1)) (.i maxB) (.v 1))
/-! No image at all. -/
def consO : List (FuncId × List LC) := (47, [lcClN]) :: consB
noncomputable def CBo : FuncId → Option CallF := conLC 12 TI consO
theorem CBo_ok : ∀ n c, CBo n = some c → ConOk TI n c := conLC_ok (all_cons' (all_cons' ⟨rfl, clN⟩ all_nil') consB_ok)
def fsNil : List Fact := [⟨.v 1, ⟨some (-9223372036854775808), some 9223372036854775807⟩⟩, ⟨prX (.v 0) 18, ⟨some 0, some 0⟩⟩, ⟨prX (.v 0) 10, ⟨none, some 0⟩⟩, ⟨prX (.v 0) 12, ⟨none, some 0⟩⟩, ⟨prX (.v 0) 14, ⟨none, some 0⟩⟩]
def lcNil1 : LC := ⟨2, [.z .sl0, p0, .z (.i .i64 (.v 1))], [some (obS 1 (.v 0))], fsNil, [], .z (.p 1 (.i 0) 0 0), [none, some (obS 4 (packX [.i 0, .b false, .b false, .b false, .s [], zerosX, .v 0, bud1, .b false, .nil, .i 0]))]⟩
theorem nil1 : lcNil1.Ok Tryz.prog 8 := drop_ok lemZ_ok (
  LC.Ok.of_treeF (L := noJ) (lem := noX) (W := W0) (n := 12) (cf := 300) (d := 20) (opn := []) (cls := [(1, 4)]) (fun _ _ _ h => by cases h) (fun _ _ h => by cases h) CBo_ok tmB_ok rfl rfl (by kernel_rfl))
def bud0 : X := iI (.o .lt (.v 0) (.i 0)) (.i 0) (iI (.o .lt (.i maxB) (.v 0)) (.i maxB) (.v 0))
def busNil : X := packX [.i 0, .b false, .b false, .b false, .s [], zerosX, newX0 .nil, bud0, .b false, .nil, .i 0]
def lcBusNil : LC := ⟨1, [.z .sl0, p0, .z (.i .i64 (.v 0))], [some (obS 1 (newX0 .nil))], [⟨.v 0, ⟨some (-9223372036854775808), some 9223372036854775807⟩⟩], [], .z (.p 1 (.i 0) 0 0), [none, some (obS 4 busNil)]⟩
theorem busNilA : lcBusNil.Ok Tryz.prog 8 := by
  refine nil1.inst (es := [newX0 .nil, .v 0]) rfl fun ds hl hf ha => ?_
  obtain ⟨a, rfl⟩ := len1 hl
  refine ⟨all_cons' (hf _ List.mem_cons_self) (all_cons' ?_ (all_cons' ?_ (all_cons' ?_ (all_cons' ?_ all_nil')))), fun x hx => (by cases hx), rfl, rfl, rfl, rfl⟩
  · show (Rg.mk (some 0) (some 0)).has 0
    exact hasM (Int.le_refl _) (Int.le_refl _)
  all_goals
    show (Rg.mk none (some 0)).has 0
    exact ⟨fun _ h => (by cases h), fun y hy => by cases hy; exact Int.le_refl _⟩
/-- A function that needs nothing and says yes, by some contracts. -/
theorem yesC {n : FuncId} {C : FuncId → Option CallF} (hC : ∀ n c, C n = some c → ConOk TI n c) (hfn : TI.fn n = true) (h : evT (envOf []) (.z (.b (.b true))) (treeOf TI W0 C 300 20 n (gI 0 []) [] []) = true) : Con Tryz.prog n cYes := by
  intro g args m ns v m' e hf hg hn
  unfold cYes at hf
  split at hf
  · cases hf
    exact ACall.of_fin (e := envOf []) hC hfn (gI_ok fun p hp => by cases hp) rfl h (denM e m)
  · cases hf
def consR : List (FuncId × List LC) := [(96, [ramRd]), (65, [ramWr8, ramWr]), (48, [ramNw])]
noncomputable def CR : FuncId → Option CallF := conLC 12 TI consR
theorem CR_ok : ∀ n c, CR n = some c → ConOk TI n c := conLC_ok (all_cons' (all_cons' ⟨rfl, ramRd_ok⟩ all_nil') (all_cons' (all_cons' ⟨rfl, ramWr8_ok⟩ (all_cons' ⟨rfl, ramWr_ok⟩ all_nil')) (all_cons' (all_cons' ⟨rfl, ramNw_ok⟩ all_nil') all_nil')))
end Go.Proofs.YtafkhelomlmlpaaGreat
