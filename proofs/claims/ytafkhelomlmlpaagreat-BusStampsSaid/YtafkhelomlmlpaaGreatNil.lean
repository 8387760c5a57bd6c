/-
  Pages made of nothing; rows of accesses compared. Conditions: none.
-/
import Derived.Test.YtafkhelomlmlpaaGreatBusE
set_option linter.unusedSectionVars false
set_option linter.unusedVariables false
set_option linter.unusedSimpArgs false
namespace Go.Proofs.YtafkhelomlmlpaaGreat
open Go Go.AE Go.SX Go.RowKit
set_option maxRecDepth 1000000
variable [HF] [HOk1] [HOk2] [HOk3] [ROk] [BOk]
def dnN (k : Int) : X := .u .not (upX .nil (.i 0) (.i k))
def lemN : List X := [.ap 7 .nil, dnN 0, dnN 1, dnN 2, dnN 3]
theorem lemN_ok (e : En) : ∀ x ∈ lemN, x.B e = true := by
  have h : ∀ k : Int, (dnN k).B e = true := fun k => by
    show (!(Fam.Φ 0 (.p .u (.p (.i 0) (.i k)))).toB) = true
    rw [HOk1.h0]; rfl
  refine all_cons' ?_ (all_cons' (h 0) (all_cons' (h 1) (all_cons' (h 2) (all_cons' (h 3) all_nil'))))
  show (Fam.Φ 7 .u).toB = true
  rw [HOk1.h7]; rfl
def lcNewN (j : Nat) : LC := ⟨0, [.a (.ag [.z .sl0, .z .sl0, .z .sl0]), .a (.s (.z .sl0))], [], [], [], .tu [.s (.z (.p 0 (.i 0) 0 0)), .ag [.z (.i .i64 (.i 0)), .z (.i .i64 (.i 0))]], [some (obS j (newX0 .nil))]⟩
theorem newNA : (lcNewN 1).Ok Tryz.prog 7 := drop_ok lemN_ok (
  LC.Ok.of_treeF (L := noJ) (lem := noX) (W := W0) (n := 12) (cf := 300) (d := 20) (opn := []) (cls := [(0, 1)]) (fun _ _ _ h => by cases h) (fun _ _ h => by cases h) CI_ok tmB_ok rfl rfl (by kernel_rfl))
/-! Rows of accesses, compared. -/
end Go.Proofs.YtafkhelomlmlpaaGreat
