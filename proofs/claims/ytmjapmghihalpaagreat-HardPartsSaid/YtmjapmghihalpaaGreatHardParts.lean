/-
  The law HardParts: whatever the input, the call returns true and its arguments read as before. Conditions: none.
-/
import Derived.Test.YtmjapmghihalpaaGreatHdW
import Derived.ProofKit
import Derived.OpenShut
import Derived.JoinedCond
import Derived.Deep.DeepHandedRow
import Derived.Deep.DeepWitnessRowRef
import Derived.Stop.Joined
import Derived.KernelRfl
namespace Go.Proofs.YtmjapmghihalpaaGreat.hardParts
open Go Go.AE Go.SX Go.ChangeShapes Go.WideShapes Go.ChangeAt Go.RowKit
set_option maxRecDepth 1000000
set_option linter.unusedVariables false
set_option linter.unusedSimpArgs false
noncomputable def CQ : FuncId → Option CallF := conTab ([(11, conCall cYes), (13, conCall (conNew 12 TI [] [lcNew 1, lcBad])), (14, conCall (conNew 12 TI [] [lcNew 2, lcBad]))] ++ ((cons4 ++ [(12, [lcNear]), (15, [soft (lcPlay 0)]), (16, [cpW 1])]).map fun (p : FuncId × List LC) => (p.1, conCall (conSm (conAlt (p.2.map (conG 12 TI)))))))
theorem conLive : Con Tryz.prog 11 cYes := yesI rfl (by kernel_rfl)
theorem new1_ok : Con Tryz.prog 13 (conNew 12 TI [] [lcNew 1, lcBad]) := conNew_ok (all_cons' ⟨rfl, newA⟩ (all_cons' ⟨rfl, badA⟩ all_nil'))
theorem new2_ok : Con Tryz.prog 14 (conNew 12 TI [] [lcNew 2, lcBad]) := conNew_ok (all_cons' ⟨rfl, newB⟩ (all_cons' ⟨rfl, badB⟩ all_nil'))
theorem cons5_ok : ∀ p ∈ cons4 ++ [(12, [lcNear]), (15, [soft (lcPlay 0)]), (16, [cpW 1])], ∀ c ∈ p.2, c.ok = true ∧ c.Ok Tryz.prog p.1 := fun p hp => by
  rcases List.mem_append.1 hp with hp | hp
  · exact cons4_ok p hp
  · have h : ∀ p ∈ [(12, [lcNear]), (15, [soft (lcPlay 0)]), (16, [cpW 1])], ∀ c ∈ p.2, c.ok = true ∧ c.Ok Tryz.prog p.1 := all_cons' (all_cons' ⟨rfl, nearOk⟩ all_nil') (all_cons' (one_ok rfl play0) (all_cons' (all_cons' ⟨rfl, copyWA⟩ all_nil') all_nil'))
    exact h p hp
theorem CQ_ok : ∀ n c, CQ n = some c → ConOk TI n c := conTab_ok fun p hp => by
  rcases List.mem_append.1 hp with hp | hp
  · have h : ∀ p ∈ [(11, conCall cYes), (13, conCall (conNew 12 TI [] [lcNew 1, lcBad])), (14, conCall (conNew 12 TI [] [lcNew 2, lcBad]))], ConOk TI p.1 p.2 := all_cons' conLive.ok (all_cons' new1_ok.ok (all_cons' new2_ok.ok all_nil'))
    exact h p hp
  · obtain ⟨q, hq, rfl⟩ := List.mem_map.1 hp
    refine Con.ok (Con.sm (Con.alt fun f hf => ?_))
    obtain ⟨c, hc, rfl⟩ := List.mem_map.1 hf
    exact conG_ok (cons5_ok q hq c hc).1 (cons5_ok q hq c hc).2
def Wq : FuncId → Nat → List Hint := fun n _ => bif Nat.beq n 4 then [.t 13 (some 0) (some 60), .t 12 none none, .o [11]] else []
def LP : Nat → Option LJ := fun n => bif Nat.beq n 3 then some ⟨GP, .o .add (.i 60) (.o .mul (.v 3) (.i (-1))), none⟩ else none
theorem LP_ok : ∀ b li f, LP b = some li → li.fn = some f → IsLoop f := fun b li f h hf => by
  unfold LP at h
  cases hb : Nat.beq b 3 with
  | false => rw [hb] at h; cases h
  | true => rw [hb] at h; cases h; cases hf

def aks : List AL := [.rw [.i .i64, .i .u8, .b], .rw [.i .u8, .i .u16, .i .u8, .i .u32], .rw [.i .u32]]
def ext : List X := []
theorem aks_ok : Tryz.f4.params.toList.mapM (alkind Tryz.prog) = some aks := by kernel_rfl
theorem as_ok : ∀ x ∈ ext, ∀ e : En, (∀ f ∈ facL aks 0, f.r.has (f.e.I e)) → x.B e = true := by
  intro x hx e hf
  cases hx
def cs0 : X := badE'
def cs1 : X := .u .not (.ap 4 (.v 1))
def cs2 : X := goodC
def cs : List X := [cs0, cs1, cs2]
theorem cs_ok : ∀ e : En, (∀ f ∈ facL aks 0, f.r.has (f.e.I e)) → ∃ c ∈ cs, c.B e = true := by
  intro e hf
  rcases parts_cover e with h | h | h
  · exact ⟨cs0, by simp [cs], h⟩
  · exact ⟨cs1, by simp [cs], h⟩
  · exact ⟨cs2, by simp [cs], h⟩
theorem tree0 : prvF 40 LP (Xone 3 lemP) (fun g v _ => finTrue 40 g v) (assume (gL aks ext) cs0) [] (treeOf TI Wq CQ 300 20 4 (assume (gL aks ext) cs0) (symL aks 0 0) (memL aks 0)) = true := by kernel_rfl
theorem tree1 : prvF 40 LP (Xone 3 lemP) (fun g v _ => finTrue 40 g v) (assume (gL aks ext) cs1) [] (treeOf TI Wq CQ 300 20 4 (assume (gL aks ext) cs1) (symL aks 0 0) (memL aks 0)) = true := by kernel_rfl
theorem tree2 : prvF 40 LP (Xone 3 lemP) (fun g v _ => finTrue 40 g v) (assume (gL aks ext) cs2) [] (treeOf TI Wq CQ 300 20 4 (assume (gL aks ext) cs2) (symL aks 0 0) (memL aks 0)) = true := by kernel_rfl
theorem trees : ∀ c ∈ cs, prvF 40 LP (Xone 3 lemP) (fun g v _ => finTrue 40 g v) (assume (gL aks ext) c) [] (treeOf TI Wq CQ 300 20 4 (assume (gL aks ext) c) (symL aks 0 0) (memL aks 0)) = true := by
  intro c hc
  simp only [cs, List.mem_cons, List.not_mem_nil, or_false] at hc
  rcases hc with rfl | rfl | rfl
  · exact tree0
  · exact tree1
  · exact tree2
theorem witness_row (os : Os) {H : Type} (enc : TypeId × Value → H) :
    (OpenSpec.ofChange Rows.hardPartsSpec).preRow enc Tryz.prog Tryz.f4 Rows.hardPartsRow.domain false Rows.hardPartsRow.laid ((World.settled Tryz.prog os).forCall (fun _ _ => 0) ⟨#[], #[.slice none 0 0, .slice none 0 0, .slice none 0 0], []⟩).memory #[.slice none 0 0, .slice none 0 0, .slice none 0 0] := by
  have hw : (DataW.whole enc Tryz.prog ((World.settled Tryz.prog os).forCall (fun _ _ => 0) ⟨#[], #[.slice none 0 0, .slice none 0 0, .slice none 0 0], []⟩).memory Tryz.f4.params.toList (OpenSpec.ofChange Rows.hardPartsSpec).vars false (#[.slice none 0 0, .slice none 0 0, .slice none 0 0] : Array Value).toList 8).isSome = true := by kernel_rfl
  obtain ⟨x, hx⟩ := Option.isSome_iff_exists.1 hw
  exact OpenSpec.preRow_of_cond 8 hx rfl (fun k hk => by cases hk) (by kernel_rfl) ⟨[], rfl, List.nodup_nil, fun _ _ h => by cases h⟩
set_option maxHeartbeats 2000000 in
theorem lifted (os : Os) (started : os.Started) (H : Type) (enc : TypeId × Value → H) (F : Stop.Interp) :
    ReturnsInHanded {} Tryz.checked os 4 .any ((OpenSpec.ofChange Rows.hardPartsSpec).preRow enc Tryz.prog Tryz.f4 Rows.hardPartsRow.domain false Rows.hardPartsRow.laid) (((OpenSpec.ofChange Rows.hardPartsSpec).at F).post enc Tryz.prog Tryz.f4 false true false false) := by
  refine returnsInHanded_of_row (C := Tryz.checked) (s := OpenSpec.ofChange Rows.hardPartsSpec) own started (by kernel_rfl) Tryz.func4
    (witness_row_atRef (enc := enc) (C := Tryz.checked) false (World.settled Tryz.prog os) #[.slice none 0 0, .slice none 0 0, .slice none 0 0] rfl (by kernel_rfl) (by kernel_rfl) (by kernel_rfl) (witness_row os enc)) ?_
  intro W base args ds gs before hval0 hW _ _ _ _ hsh _
  have hval : ∀ (j : Nat) t v, Tryz.f4.params.toList[j]? = some t → args[j]? = some v → Value.okWide Tryz.prog W .any base t v := fun j t v h1 h2 => hval0 j t v (by simpa using h1) h2
  have hW' := hW
  obtain ⟨p, q, hA0, hV, rfl, hfz, hnd⟩ := hW
  have hA : DataW.TrodAll enc Tryz.prog W 0 (fun _ => true) true Tryz.f4.params.toList args.toList ds p := hA0
  have hk := hA
  rw [Tryz.params4] at hA
  obtain ⟨v0, vs0, d0, ds0, p0, q0, hargs0, rfl, rfl, h0, r0⟩ := trodAll_cons hA
  obtain ⟨v1, vs1, d1, ds1, p1, q1, hargs1, rfl, rfl, h1, r1⟩ := trodAll_cons r0
  obtain ⟨v2, vs2, d2, ds2, p2, q2, hargs2, rfl, rfl, h2, r2⟩ := trodAll_cons r1
  obtain ⟨rfl, rfl, rfl⟩ := trodAll_nil r2
  obtain ⟨rfl, rfl⟩ := trodVars_none hV
  simp only [List.append_nil] at hW' hk
  refine (law_callsF (T := TI) CQ_ok rfl (LP_ok) (Xone_ok lemP_ok) aks_ok as_ok cs_ok trees (fun _ => rfl) hk hval trivial).mono fun e W' ⟨he, bel⟩ => ?_
  subst he
  exact ⟨_, rfl, _, _, _, [], _, [], hW', trodAll_cons_mk (shut_bool Tryz.underlying4 true) trodAll_mk0, trodAll_keep laidOut hk (by kernel_rfl) bel (fun x hx => by simpa using hW'.lt x hx), rfl, bel.frame _, fun h => by cases h⟩
theorem over : Rows.HardPartsSaid :=
  OpenClaim.holds_of_cond 4 Tryz.f4 rfl rfl rfl rfl rfl rfl rfl ⟨rfl, rfl, rfl, rfl, rfl⟩ rfl rfl rfl rfl rfl (by kernel_rfl) Tryz.func4 (by kernel_rfl)
    (of_decide_eq_true (by kernel_rfl)) (by unfold Func.isWrapper; first | (rw [if_pos (by decide +kernel)]; kernel_rfl) | (rw [if_neg (by decide +kernel)]; exact ⟨rfl, rfl⟩))
    (fun os started H enc _ F0 => by rw [OpenClaim.pre_eq_preRow]; exact lifted os started H enc F0)
end Go.Proofs.YtmjapmghihalpaaGreat.hardParts
