/-
  The law BusStamps: whatever the input, the call returns true and its arguments read as before. Conditions: none.
-/
import Derived.Test.YtafkhelomlmlpaaGreatStB
import Derived.ProofKit
import Derived.OpenShut
import Derived.JoinedCond
import Derived.Deep.DeepHandedRow
import Derived.Deep.DeepWitnessRowRef
import Derived.Stop.Joined
import Derived.KernelRfl
namespace Go.Proofs.YtafkhelomlmlpaaGreat.busStamps
open Go Go.AE Go.SX Go.ChangeShapes Go.WideShapes Go.ChangeAt Go.RowKit
set_option maxRecDepth 1000000
set_option linter.unusedVariables false
set_option linter.unusedSimpArgs false
def CEL : List (FuncId × List LC) := [(7, [lcNewN 1]), (8, [lcBusNil]), (9, [busRdW 4]), (10, [busWrW 4]), (11, [busAskW 4]), (12, [busTurnW 4]), (13, [traceW]), (14, [tellW (.z (.i .i64 (bpc 7)))])]
theorem CEL_ok : ∀ p ∈ CEL, ∀ c ∈ p.2, c.ok = true ∧ c.Ok Tryz.prog p.1 := all_cons' (all_cons' ⟨rfl, newNA⟩ all_nil') (all_cons' (all_cons' ⟨rfl, busNilA⟩ all_nil') (all_cons' (all_cons' ⟨rfl, busRdA⟩ all_nil') (all_cons' (all_cons' ⟨rfl, busWrA⟩ all_nil') (all_cons' (all_cons' ⟨rfl, busAskA⟩ all_nil') (all_cons' (all_cons' ⟨rfl, busTurnA⟩ all_nil') (all_cons' (all_cons' ⟨rfl, traceWA⟩ all_nil') (all_cons' (all_cons' ⟨rfl, left4W⟩ all_nil') all_nil')))))))
noncomputable def CE : FuncId → Option CallF := conTab ((6, conCall cYes) :: (CEL.map fun (p : FuncId × List LC) => (p.1, conCall (conSm (conAlt (p.2.map (conG 12 TI)))))))
theorem conLive : Con Tryz.prog 6 cYes := yesC CR_ok rfl (by kernel_rfl)
theorem CE_ok : ∀ n c, CE n = some c → ConOk TI n c := conTab_ok fun p hp => by
  rcases List.mem_cons.1 hp with rfl | hp
  · exact conLive.ok
  · obtain ⟨q, hq, rfl⟩ := List.mem_map.1 hp
    refine Con.ok (Con.sm (Con.alt fun f hf => ?_))
    obtain ⟨c, hc, rfl⟩ := List.mem_map.1 hf
    exact conG_ok (CEL_ok q hq c hc).1 (CEL_ok q hq c hc).2
noncomputable def Wq : FuncId → Nat → List (Hint Tryz.prog) := fun n k => bif Nat.beq n 3 then (bif Nat.beq k 0 then [.t 9 (some 0) (some 100), .t 8 (some 0) (some 100), .o [7]] else bif Nat.beq k 1 then [.t 12 (some 0) (some 100), .t 11 (some 0) (some 2400)] else []) else []

def aks : List AL := [.rw [.i .u8, .i .u32, .i .u8, .i .u8], .z (.i .u8)]
def ext : List X := []
theorem aks_ok : Tryz.f3.params.toList.mapM (alkind Tryz.prog) = some aks := by kernel_rfl
theorem as_ok : ∀ x ∈ ext, ∀ e : En, (∀ f ∈ facL aks 0, f.r.has (f.e.I e)) → x.B e = true := by
  intro x hx e hf
  cases hx
def cs0 : X := initS
def cs : List X := [cs0]
theorem cs_ok : ∀ e : En, (∀ f ∈ facL aks 0, f.r.has (f.e.I e)) → ∃ c ∈ cs, c.B e = true := by
  intro e hf
  have h := hf ⟨.v 1, ⟨some 0, some 255⟩⟩ (.tail _ (.head _))
  exact ⟨_, List.mem_cons_self, initS_ok e (h.1 _ rfl) (h.2 _ rfl)⟩
theorem tree0 : prvF 40 LpS lemS (fun g v _ => finTrue 40 g v) (assume (gL aks ext) cs0) [] (treeOf TI Wq CE 300 20 3 (assume (gL aks ext) cs0) (symL aks 0 0) (memL aks 0)) = true := by kernel_rfl
theorem trees : ∀ c ∈ cs, prvF 40 LpS lemS (fun g v _ => finTrue 40 g v) (assume (gL aks ext) c) [] (treeOf TI Wq CE 300 20 3 (assume (gL aks ext) c) (symL aks 0 0) (memL aks 0)) = true := by
  intro c hc
  simp only [cs, List.mem_cons, List.not_mem_nil, or_false] at hc
  rcases hc with rfl
  · exact tree0
theorem witness_row (os : Os) {H : Type} (enc : TypeId × Value → H) :
    (OpenSpec.ofChange Rows.busStampsSpec).preRow enc Tryz.prog Tryz.f3 Rows.busStampsRow.domain false Rows.busStampsRow.laid ((World.settled Tryz.prog os).forCall (fun _ _ => 0) ⟨#[], #[.slice none 0 0, .int .u8 0], []⟩).memory #[.slice none 0 0, .int .u8 0] := by
  have hw : (DataW.whole enc Tryz.prog ((World.settled Tryz.prog os).forCall (fun _ _ => 0) ⟨#[], #[.slice none 0 0, .int .u8 0], []⟩).memory Tryz.f3.params.toList (OpenSpec.ofChange Rows.busStampsSpec).vars false (#[.slice none 0 0, .int .u8 0] : Array Value).toList 8).isSome = true := by kernel_rfl
  obtain ⟨x, hx⟩ := Option.isSome_iff_exists.1 hw
  exact OpenSpec.preRow_of_cond 8 hx rfl (fun k hk => by cases hk) (by kernel_rfl) ⟨[], rfl, List.nodup_nil, fun _ _ h => by cases h⟩
set_option maxHeartbeats 2000000 in
theorem lifted (os : Os) (started : os.Started) (H : Type) (enc : TypeId × Value → H) (F : Stop.Interp) :
    ReturnsInHanded {} Tryz.checked os 3 .any ((OpenSpec.ofChange Rows.busStampsSpec).preRow enc Tryz.prog Tryz.f3 Rows.busStampsRow.domain false Rows.busStampsRow.laid) (((OpenSpec.ofChange Rows.busStampsSpec).at F).post enc Tryz.prog Tryz.f3 false true false false) := by
  refine returnsInHanded_of_row (C := Tryz.checked) (s := OpenSpec.ofChange Rows.busStampsSpec) own started (by kernel_rfl) Tryz.func3
    (witness_row_atRef (enc := enc) (C := Tryz.checked) false (World.settled Tryz.prog os) #[.slice none 0 0, .int .u8 0] rfl (by kernel_rfl) (by kernel_rfl) (by kernel_rfl) (witness_row os enc)) ?_
  intro W base args ds gs before hval0 hW _ _ _ _ hsh _
  have hval : ∀ (j : Nat) t v, Tryz.f3.params.toList[j]? = some t → args[j]? = some v → Value.okWide Tryz.prog W .any base t v := fun j t v h1 h2 => hval0 j t v (by simpa using h1) h2
  have hW' := hW
  obtain ⟨p, q, hA0, hV, rfl, hfz, hnd⟩ := hW
  have hA : DataW.TrodAll enc Tryz.prog W 0 (fun _ => true) true Tryz.f3.params.toList args.toList ds p := hA0
  have hk := hA
  rw [Tryz.params3] at hA
  obtain ⟨v0, vs0, d0, ds0, p0, q0, hargs0, rfl, rfl, h0, r0⟩ := trodAll_cons hA
  obtain ⟨v1, vs1, d1, ds1, p1, q1, hargs1, rfl, rfl, h1, r1⟩ := trodAll_cons r0
  obtain ⟨rfl, rfl, rfl⟩ := trodAll_nil r1
  obtain ⟨rfl, rfl⟩ := trodVars_none hV
  simp only [List.append_nil] at hW' hk
  refine (law_callsF (T := TI) CE_ok rfl (LpS_ok) (lemS_ok) aks_ok as_ok cs_ok trees (fun _ => rfl) hk hval trivial).mono fun e W' ⟨he, bel⟩ => ?_
  subst he
  exact ⟨_, rfl, _, _, _, [], _, [], hW', trodAll_cons_mk (shut_bool Tryz.underlying4 true) trodAll_mk0, trodAll_keep laidOut hk (by kernel_rfl) bel (fun x hx => by simpa using hW'.lt x hx), rfl, bel.frame _, fun h => by cases h⟩
theorem over : Rows.BusStampsSaid :=
  OpenClaim.holds_of_cond 3 Tryz.f3 rfl rfl rfl rfl rfl rfl rfl ⟨rfl, rfl, rfl, rfl, rfl⟩ rfl rfl rfl rfl rfl (by kernel_rfl) Tryz.func3 (by kernel_rfl)
    (of_decide_eq_true (by kernel_rfl)) (by unfold Func.isWrapper; first | (rw [if_pos (by decide +kernel)]; kernel_rfl) | (rw [if_neg (by decide +kernel)]; exact ⟨rfl, rfl⟩))
    (fun os started H enc _ F0 => by rw [OpenClaim.pre_eq_preRow]; exact lifted os started H enc F0)
end Go.Proofs.YtafkhelomlmlpaaGreat.busStamps
