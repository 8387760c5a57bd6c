/-
  The law BusHolds: whatever the input, the call returns true and its arguments read as before. Conditions: none.
-/
import Derived.Test.YtnibdhcfkjmnaaaGreatHoldB
import Derived.Test.YtnibdhcfkjmnaaaGreatSzd
import Derived.ProofKit
import Derived.OpenShut
import Derived.JoinedCond
import Derived.Deep.DeepHandedRow
import Derived.Deep.DeepWitnessRowRef
import Derived.Stop.Joined
import Derived.KernelRfl
namespace Go.Proofs.YtnibdhcfkjmnaaaGreat.busHolds
open Go Go.AE Go.SX Go.ChangeShapes Go.WideShapes Go.ChangeAt Go.RowKit
set_option maxRecDepth 1000000
set_option linter.unusedVariables false
set_option linter.unusedSimpArgs false
def CEL : List (FuncId × List LC) := [(9, [lcNewN 1]), (11, [lcBusN false 1 4 (rom0 false)]), (20, [busRdW 4]), (21, [busWrW 4]), (25, [busPkW 4]), (26, [lcW, lcWR])]
theorem CEL_ok : ∀ p ∈ CEL, ∀ c ∈ p.2, c.ok = true ∧ c.Ok Tryz.prog p.1 := all_cons' (all_cons' ⟨rfl, newNA⟩ all_nil') (all_cons' (all_cons' ⟨rfl, busNA⟩ all_nil') (all_cons' (all_cons' ⟨rfl, busRdA⟩ all_nil') (all_cons' (all_cons' ⟨rfl, busWrA⟩ all_nil') (all_cons' (all_cons' ⟨rfl, busPkA⟩ all_nil') (all_cons' (all_cons' ⟨rfl, whB⟩ (all_cons' ⟨rfl, whRB⟩ all_nil')) all_nil')))))
noncomputable def CE : FuncId → Option CallF := conTab ((19, conCall cYes) :: (CEL.map fun (p : FuncId × List LC) => (p.1, conCall (conSm (conAlt (p.2.map (conG 12 TI)))))))
theorem conLive : Con Tryz.prog 19 cYes := yesC CR_ok rfl (by kernel_rfl)
theorem CE_ok : ∀ n c, CE n = some c → ConOk TI n c := conTab_ok fun p hp => by
  rcases List.mem_cons.1 hp with rfl | hp
  · exact conLive.ok
  · obtain ⟨q, hq, rfl⟩ := List.mem_map.1 hp
    refine Con.ok (Con.sm (Con.alt fun f hf => ?_))
    obtain ⟨c, hc, rfl⟩ := List.mem_map.1 hf
    exact conG_ok (CEL_ok q hq c hc).1 (CEL_ok q hq c hc).2

def aks : List AL := [.by, .z (.i .u32), .z (.i .u8)]
def ext : List X := []
theorem aks_ok : Tryz.f5.params.toList.mapM (alkind Tryz.prog) = some aks := by kernel_rfl
theorem as_ok : ∀ x ∈ ext, ∀ e : En, (∀ f ∈ facL aks 0, f.r.has (f.e.I e)) → x.B e = true := by
  intro x hx e hf
  cases hx
def cs0 : X := holdX
def cs : List X := [cs0]
theorem cs_ok : ∀ e : En, (∀ f ∈ szL 140737488351232 aks 0 ++ facL aks 0, f.r.has (f.e.I e)) → ∃ c ∈ cs, c.B e = true := by
  intro e hf
  have h1 := hf ⟨.v 1, ⟨some 0, some 4294967295⟩⟩ (List.mem_append_right _ (.tail _ (.head _)))
  have h2 := hf ⟨.v 2, ⟨some 0, some 255⟩⟩ (List.mem_append_right _ (.tail _ (.tail _ (.head _))))
  exact ⟨cs0, List.mem_cons_self, hold_ok e (h1.1 _ rfl) (h2.1 _ rfl) (h2.2 _ rfl)⟩
theorem tree0 : prvF 40 noJ noX (fun g v _ => finTrue 40 g v) (assume (gZ 140737488351232 aks ext) cs0) [] (treeOf TI W0 CE 300 20 5 (assume (gZ 140737488351232 aks ext) cs0) (symL aks 0 0) (memL aks 0)) = true := by kernel_rfl
theorem trees : ∀ c ∈ cs, prvF 40 noJ noX (fun g v _ => finTrue 40 g v) (assume (gZ 140737488351232 aks ext) c) [] (treeOf TI W0 CE 300 20 5 (assume (gZ 140737488351232 aks ext) c) (symL aks 0 0) (memL aks 0)) = true := by
  intro c hc
  simp only [cs, List.mem_cons, List.not_mem_nil, or_false] at hc
  rcases hc with rfl
  · exact tree0
theorem witness_row (os : Os) {H : Type} (enc : TypeId × Value → H) :
    (OpenSpec.ofChange Rows.busHoldsSpec).preRow enc Tryz.prog Tryz.f5 Rows.busHoldsRow.domain false Rows.busHoldsRow.laid ((World.settled Tryz.prog os).forCall (fun _ _ => 0) ⟨#[], #[.slice none 0 0, .int .u32 0, .int .u8 0], []⟩).memory #[.slice none 0 0, .int .u32 0, .int .u8 0] := by
  have hw : (DataW.whole enc Tryz.prog ((World.settled Tryz.prog os).forCall (fun _ _ => 0) ⟨#[], #[.slice none 0 0, .int .u32 0, .int .u8 0], []⟩).memory Tryz.f5.params.toList (OpenSpec.ofChange Rows.busHoldsSpec).vars false (#[.slice none 0 0, .int .u32 0, .int .u8 0] : Array Value).toList 8).isSome = true := by kernel_rfl
  obtain ⟨x, hx⟩ := Option.isSome_iff_exists.1 hw
  exact OpenSpec.preRow_of_cond 8 hx rfl (fun k hk => by cases hk) (by kernel_rfl) ⟨[], rfl, List.nodup_nil, fun _ _ h => by cases h⟩
set_option maxHeartbeats 2000000 in
theorem lifted (os : Os) (started : os.Started) (H : Type) (enc : TypeId × Value → H) (F : Stop.Interp) :
    ReturnsInHanded {} Tryz.checked os 5 .any ((OpenSpec.ofChange Rows.busHoldsSpec).preRow enc Tryz.prog Tryz.f5 Rows.busHoldsRow.domain false Rows.busHoldsRow.laid) (((OpenSpec.ofChange Rows.busHoldsSpec).at F).post enc Tryz.prog Tryz.f5 false true false false) := by
  refine returnsInHanded_of_row (C := Tryz.checked) (s := OpenSpec.ofChange Rows.busHoldsSpec) own started (by kernel_rfl) Tryz.func5
    (witness_row_atRef (enc := enc) (C := Tryz.checked) false (World.settled Tryz.prog os) #[.slice none 0 0, .int .u32 0, .int .u8 0] rfl (by kernel_rfl) (by kernel_rfl) (by kernel_rfl) (witness_row os enc)) ?_
  intro W base args ds gs before hval0 hW _ _ hsz _ hsh _
  have hval : ∀ (j : Nat) t v, Tryz.f5.params.toList[j]? = some t → args[j]? = some v → Value.okWide Tryz.prog W .any base t v := fun j t v h1 h2 => hval0 j t v (by simpa using h1) h2
  have hW' := hW
  obtain ⟨p, q, hA0, hV, rfl, hfz, hnd⟩ := hW
  have hA : DataW.TrodAll enc Tryz.prog W 0 (fun _ => true) true Tryz.f5.params.toList args.toList ds p := hA0
  have hk := hA
  rw [Tryz.params5] at hA
  obtain ⟨v0, vs0, d0, ds0, p0, q0, hargs0, rfl, rfl, h0, r0⟩ := trodAll_cons hA
  obtain ⟨v1, vs1, d1, ds1, p1, q1, hargs1, rfl, rfl, h1, r1⟩ := trodAll_cons r0
  obtain ⟨v2, vs2, d2, ds2, p2, q2, hargs2, rfl, rfl, h2, r2⟩ := trodAll_cons r1
  obtain ⟨rfl, rfl, rfl⟩ := trodAll_nil r2
  obtain ⟨rfl, rfl⟩ := trodVars_none hV
  simp only [List.append_nil] at hW' hk
  refine (law_callsZ (T := TI) CE_ok rfl (fun _ _ _ h => by cases h) (fun _ _ h => by cases h) aks_ok as_ok cs_ok trees (fun _ => rfl) hk hval trivial (sized_of hk (by first | exact hsz | simpa using hsz) (by kernel_rfl))).mono fun e W' ⟨he, bel⟩ => ?_
  subst he
  exact ⟨_, rfl, _, _, _, [], _, [], hW', trodAll_cons_mk (shut_bool Tryz.underlying4 true) trodAll_mk0, trodAll_keep laidOut hk (by kernel_rfl) bel (fun x hx => by simpa using hW'.lt x hx), rfl, bel.frame _, fun h => by cases h⟩
theorem over : Rows.BusHoldsSaid :=
  OpenClaim.holds_of_cond 5 Tryz.f5 rfl rfl rfl rfl rfl rfl rfl ⟨rfl, rfl, rfl, rfl, rfl⟩ rfl rfl rfl rfl rfl (by kernel_rfl) Tryz.func5 (by kernel_rfl)
    (of_decide_eq_true (by kernel_rfl)) (by unfold Func.isWrapper; first | (rw [if_pos (by decide +kernel)]; kernel_rfl) | (rw [if_neg (by decide +kernel)]; exact ⟨rfl, rfl⟩))
    (fun os started H enc _ F0 => by rw [OpenClaim.pre_eq_preRow]; exact lifted os started H enc F0)
end Go.Proofs.YtnibdhcfkjmnaaaGreat.busHolds
