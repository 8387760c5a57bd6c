/-
  The named functions of the modes' laws; what must be whatever is asked. Conditions: none.
-/
import Derived.Test.YtmjapmghihalpaaDoorBase
import Derived.ProofKit
set_option linter.unusedVariables false
set_option linter.unusedSimpArgs false
namespace Go.Proofs.YtmjapmghihalpaaDoor
open Go Go.AE Go.SX Go.RowKit
set_option maxRecDepth 1000000
def bhL : List Int := [0, 1, 1, 1, 1, 2, 2, 2, 1, 1, 1, 1, 2, 2, 2, 3, 3, 2, 2, 6]
def bhF (n : Int) : Int := bhL.getD n.toNat (-1)
def phi : Nat → D → D
  | 40, d => .i (bhF d.toI)
  | _, _ => .u
def phR : Nat → List Bool → Rg
  | 40, [] => ⟨some (-1), some 6⟩
  | _, _ => .top
theorem bh_rg (n : Int) : -1 ≤ bhF n ∧ bhF n ≤ 6 := by
  unfold bhF
  have h : ∀ x ∈ bhL, -1 ≤ x ∧ x ≤ 6 := by decide
  rw [List.getD_eq_getElem?_getD]
  cases hx : bhL[n.toNat]? with
  | none => exact ⟨by decide, by decide⟩
  | some x => exact h x (List.mem_of_getElem? hx)
theorem phR_ok : ∀ f p d, (phR f p).has ((phi f d).proj p).toI := by
  intro f p d
  unfold phR
  split
  · exact hasM (bh_rg _).1 (bh_rg _).2
  · exact hasT _
def phII : Nat → Bool
  | 40 => true
  | _ => false
theorem phII_ok : ∀ f d, phII f = true → phi f d = phi f (.i d.toI) := by
  intro f d h
  unfold phII at h
  split at h
  · rfl
  · cases h
instance : Fam := ⟨phi, fun _ _ => noOb, phR, phR_ok, phII, phII_ok, fun _ => []⟩
/-! The modes. -/
def aM : List SV := [.z (.i .u8 (.v 0))]
def sBh : SV := .z (.i .i64 (.ap 40 (.v 0)))
def cBh : ConF := con1 .u8 fun x => .z (.i .i64 (.ap 40 x))
theorem bh_con {n : FuncId} (hfn : T.fn n = true) (h : tryAll sBh (treeOf T W0 C0 300 20 n (gI 1 [255]) aM []) ((allI 256).map fun x => [x]) = true) : Con Tryd.prog n cBh :=
  con1_ok (F := fun i => .int .i64 (bhF i)) (fun _ _ => rfl) fun i h0 h1 m => ACall.of_fin (e := envOf [.i i]) C0_ok hfn (g1_ok h0 h1) rfl (tryAll_ok h (List.mem_map.2 ⟨_, allI_mem h0 (Int.lt_add_one_of_le h1), rfl⟩)) m
theorem conB1 : Con Tryd.prog 11 cBh := bh_con rfl (by kernel_rfl)
theorem conB2 : Con Tryd.prog 12 cBh := bh_con rfl (by kernel_rfl)
def CL : List (FuncId × CallF) := [(96, conCall (conP oIndexByte)), (56, conCall (conP oIndex)), (63, conCall (conP oTrimRight)), (70, conCall conJoin), (11, conCall cBh), (12, conCall cBh)]
theorem CL_all : ∀ p ∈ CL, ConOk T p.1 p.2 := by
  intro p hp
  simp only [CL, List.mem_cons, List.not_mem_nil, or_false] at hp
  rcases hp with rfl | rfl | rfl | rfl | rfl | rfl
  · exact conIB.ok
  · exact conIX.ok
  · exact conTR.ok
  · exact conJN.ok
  · exact conB1.ok
  · exact conB2.ok
def CB := conTab CL
theorem CB_ok : ∀ n c, CB n = some c → ConOk T n c := conTab_ok CL_all
theorem conLive24 : Con Tryd.prog 6 cYes := yes_con rfl CB_ok (by kernel_rfl)
end Go.Proofs.YtmjapmghihalpaaDoor
