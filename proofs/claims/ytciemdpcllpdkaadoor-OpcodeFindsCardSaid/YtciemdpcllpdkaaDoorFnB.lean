/-
  What must be whatever is asked of opcodes. Conditions: none.
-/
import Derived.Test.YtciemdpcllpdkaaDoorFnA
set_option linter.unusedSectionVars false
set_option linter.unusedVariables false
set_option linter.unusedSimpArgs false
namespace Go.Proofs.YtciemdpcllpdkaaDoor
open Go Go.AE Go.SX Go.RowKit Go.Sort
set_option maxRecDepth 1000000
def padN : List (List UInt8) := namesL ++ List.replicate (sortedN.length - namesL.length) []
def lcNm (c : SC) : LC := ⟨0, [], [], [], [], .z (.sl 0 (.i 0) 0 0 (.i 117) (.i 234)), [some ⟨c, 9, true, false⟩]⟩
theorem names0 : (lcNm (.cs (strCs padN))).Ok Tryd.prog 44 := LC.Ok.of_treeF (L := noJ) (lem := noX) (T := TO) (W := W0) (n := 12) (cf := 300) (d := 20) (opn := []) (cls := []) (fun _ _ _ h => by cases h) (fun _ _ h => by cases h) CO0_ok noT_ok rfl rfl (by kernel_rfl)
/-! The other calls of the laws' head. -/
def sF (l : List UInt8) (k : Int) : List SV := [.z (.s (.s l)), .z (.i .u8 (.i k))]
def lcFd (l : List UInt8) (k b : Int) (q : Bool) : LC := ⟨0, sF l k, [], [], [], .tu [.s (.z (.i .u8 (.i b))), .s (.z (.b (.b q)))], []⟩
theorem find1 : (lcFd [76, 68, 65] 1 169 true).Ok Tryd.prog 12 := LC.Ok.of_treeF (L := noJ) (lem := noX) (T := TO) (W := W0) (n := 12) (cf := 300) (d := 20) (opn := []) (cls := []) (fun _ _ _ h => by cases h) (fun _ _ h => by cases h) CO0_ok noT_ok rfl rfl (by kernel_rfl)
theorem find2 : (lcFd [76, 68, 65] 11 0 false).Ok Tryd.prog 12 := LC.Ok.of_treeF (L := noJ) (lem := noX) (T := TO) (W := W0) (n := 12) (cf := 300) (d := 20) (opn := []) (cls := []) (fun _ _ _ h => by cases h) (fun _ _ h => by cases h) CO0_ok noT_ok rfl rfl (by kernel_rfl)
def lcMd (l r : List UInt8) : LC := ⟨0, [.z (.s (.s l))], [], [], [], .z (.sl 0 (.i 0) 0 0 (.i (r.length : Nat)) (.i (r.length : Nat))), [some ⟨.cs (r.map fun b => .z (.i .u8 (.i (b.toNat : Nat)))), 5, true, false⟩]⟩
theorem modes1 : (lcMd [83, 84, 90] [2, 3, 5, 6]).Ok Tryd.prog 15 := LC.Ok.of_treeF (L := noJ) (lem := noX) (T := TO) (W := W0) (n := 12) (cf := 300) (d := 20) (opn := []) (cls := []) (fun _ _ _ h => by cases h) (fun _ _ h => by cases h) CO0_ok noT_ok rfl rfl (by kernel_rfl)
noncomputable def CQ0 := conTab (lcTabO [(44, [lcNm (.cs (strCs padN))]), (12, [lcFd [76, 68, 65] 1 169 true, lcFd [76, 68, 65] 11 0 false]), (15, [lcMd [83, 84, 90] [2, 3, 5, 6]])] ++ CLo)
theorem CQ0_ok : ∀ n c, CQ0 n = some c → ConOk TO n c := conTab_ok fun p hp => (List.mem_append.1 hp).elim (lcTabO_all (all_cons' (one_lcO rfl names0) (all_cons' (all_cons' ⟨rfl, find1⟩ (all_cons' ⟨rfl, find2⟩ all_nil')) (all_cons' (one_lcO rfl modes1) all_nil'))) p) (CLo_all p)
theorem live23 : Con Tryd.prog 11 cYes := yes_conT (T' := TO) rfl CQ0_ok (by kernel_rfl)
end Go.Proofs.YtciemdpcllpdkaaDoor
