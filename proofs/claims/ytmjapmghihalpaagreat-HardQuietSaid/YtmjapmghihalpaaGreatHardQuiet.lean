/-
  The law HardQuiet: whatever the input, the call returns true and its arguments read as before. Conditions: none.
-/
import Derived.Test.YtmjapmghihalpaaGreatHdS
import Derived.ProofKit
import Derived.OpenShut
import Derived.JoinedCond
import Derived.Deep.DeepHandedRow
import Derived.Deep.DeepWitnessRowRef
import Derived.Stop.Joined
import Derived.KernelRfl
namespace Go.Proofs.YtmjapmghihalpaaGreat.hardQuiet
open Go Go.AE Go.SX Go.ChangeShapes Go.WideShapes Go.ChangeAt Go.RowKit
set_option maxRecDepth 1000000
set_option linter.unusedVariables false
set_option linter.unusedSimpArgs false
def nilE : List (Option SBlk) := [some ⟨.rw eK (.o .rtake .nil (.i 0)), 0, false, false⟩]
noncomputable def CQ : FuncId → Option CallF := conTab ([(11, conCall cYes), (13, conCall (conNew 12 TI [nilE] [gen.lcNew 1, gen.lcBad])), (14, conCall (conNew 12 TI [nilE] [gen.lcNew 2, gen.lcBad])), (15, conCall (conNew 12 TI [] [soft (lcPlay 0)]))] ++ ((cons4 ++ [(12, [lcNear]), (23, [lcW])]).map fun (p : FuncId × List LC) => (p.1, conCall (conSm (conAlt (p.2.map (conG 12 TI)))))))
theorem conLive : Con Tryz.prog 11 cYes := yesI rfl (by kernel_rfl)
theorem new1_ok : Con Tryz.prog 13 (conNew 12 TI [nilE] [gen.lcNew 1, gen.lcBad]) := conNew_ok (all_cons' ⟨rfl, gen.newA⟩ (all_cons' ⟨rfl, gen.badA⟩ all_nil'))
theorem new2_ok : Con Tryz.prog 14 (conNew 12 TI [nilE] [gen.lcNew 2, gen.lcBad]) := conNew_ok (all_cons' ⟨rfl, gen.newB⟩ (all_cons' ⟨rfl, gen.badB⟩ all_nil'))
theorem play_ok : Con Tryz.prog 15 (conNew 12 TI [] [soft (lcPlay 0)]) := conNew_ok (all_cons' ⟨rfl, soft_ok play0⟩ all_nil')
theorem cons5_ok : ∀ p ∈ cons4 ++ [(12, [lcNear]), (23, [lcW])], ∀ c ∈ p.2, c.ok = true ∧ c.Ok Tryz.prog p.1 := fun p hp => by
  rcases List.mem_append.1 hp with hp | hp
  · exact cons4_ok p hp
  · have h : ∀ p ∈ [(12, [lcNear]), (23, [lcW])], ∀ c ∈ p.2, c.ok = true ∧ c.Ok Tryz.prog p.1 := all_cons' (all_cons' ⟨rfl, nearOk⟩ all_nil') (all_cons' (all_cons' ⟨rfl, whB⟩ all_nil') all_nil')
    exact h p hp
theorem CQ_ok : ∀ n c, CQ n = some c → ConOk TI n c := conTab_ok fun p hp => by
  rcases List.mem_append.1 hp with hp | hp
  · have h : ∀ p ∈ [(11, conCall cYes), (13, conCall (conNew 12 TI [nilE] [gen.lcNew 1, gen.lcBad])), (14, conCall (conNew 12 TI [nilE] [gen.lcNew 2, gen.lcBad])), (15, conCall (conNew 12 TI [] [soft (lcPlay 0)]))], ConOk TI p.1 p.2 := all_cons' conLive.ok (all_cons' new1_ok.ok (all_cons' new2_ok.ok (all_cons' play_ok.ok all_nil')))
    exact h p hp
  · obtain ⟨q, hq, rfl⟩ := List.mem_map.1 hp
    refine Con.ok (Con.sm (Con.alt fun f hf => ?_))
    obtain ⟨c, hc, rfl⟩ := List.mem_map.1 hf
    exact conG_ok (cons5_ok q hq c hc).1 (cons5_ok q hq c hc).2

def aks : List AL := [.fl [none, none, none], .rw [.i .u8, .i .u16, .i .u8, .i .u32], .z (.i .u16), .z (.i .u8)]
def ext : List X := []
theorem aks_ok : Tryz.f5.params.toList.mapM (alkind Tryz.prog) = some aks := by kernel_rfl
theorem as_ok : ∀ x ∈ ext, ∀ e : En, (∀ f ∈ facL aks 0, f.r.has (f.e.I e)) → x.B e = true := by
  intro x hx e hf
  cases hx
def cs0 : X := gen.longX
def cs1 : X := .u .not (.ap 4 (.v 3))
def cs2 : X := q2
def cs3 : X := q3
def cs4 : X := q4
def cs5 : X := q5
def cs : List X := [cs0, cs1, cs2, cs3, cs4, cs5]
theorem cs_ok : ∀ e : En, (∀ f ∈ facL aks 0, f.r.has (f.e.I e)) → ∃ c ∈ cs, c.B e = true := by
  intro e hf
  have h4 := hf ⟨.v 4, ⟨some 0, some 65535⟩⟩ (.tail _ (.tail _ (.tail _ (.tail _ (.head _)))))
  have h5 := hf ⟨.v 5, ⟨some 0, some 255⟩⟩ (.tail _ (.tail _ (.tail _ (.tail _ (.tail _ (.head _))))))
  rcases quiet_cover e (h4.1 _ rfl) (h4.2 _ rfl) (h5.1 _ rfl) (h5.2 _ rfl) with h | h | h | h | h | h
  · exact ⟨cs0, by simp [cs], h⟩
  · exact ⟨cs1, by simp [cs], h⟩
  · exact ⟨cs2, by simp [cs], h⟩
  · exact ⟨cs3, by simp [cs], h⟩
  · exact ⟨cs4, by simp [cs], h⟩
  · exact ⟨cs5, by simp [cs], h⟩
theorem tree0 : prvF 40 noJ noX (fun g v _ => finTrue 40 g v) (assume (gL aks ext) cs0) [] (treeOf TI W0 CQ 300 20 5 (assume (gL aks ext) cs0) (symL aks 0 0) (memL aks 0)) = true := by kernel_rfl
theorem tree1 : prvF 40 noJ noX (fun g v _ => finTrue 40 g v) (assume (gL aks ext) cs1) [] (treeOf TI W0 CQ 300 20 5 (assume (gL aks ext) cs1) (symL aks 0 0) (memL aks 0)) = true := by kernel_rfl
theorem tree2 : prvF 40 noJ noX (fun g v _ => finTrue 40 g v) (assume (gL aks ext) cs2) [] (treeOf TI W0 CQ 300 20 5 (assume (gL aks ext) cs2) (symL aks 0 0) (memL aks 0)) = true := by kernel_rfl
theorem tree3 : prvF 40 noJ noX (fun g v _ => finTrue 40 g v) (assume (gL aks ext) cs3) [] (treeOf TI W0 CQ 300 20 5 (assume (gL aks ext) cs3) (symL aks 0 0) (memL aks 0)) = true := by kernel_rfl
theorem tree4 : prvF 40 noJ noX (fun g v _ => finTrue 40 g v) (assume (gL aks ext) cs4) [] (treeOf TI W0 CQ 300 20 5 (assume (gL aks ext) cs4) (symL aks 0 0) (memL aks 0)) = true := by kernel_rfl
theorem tree5 : prvF 40 noJ noX (fun g v _ => finTrue 40 g v) (assume (gL aks ext) cs5) [] (treeOf TI W0 CQ 300 20 5 (assume (gL aks ext) cs5) (symL aks 0 0) (memL aks 0)) = true := by kernel_rfl
theorem trees : ∀ c ∈ cs, prvF 40 noJ noX (fun g v _ => finTrue 40 g v) (assume (gL aks ext) c) [] (treeOf TI W0 CQ 300 20 5 (assume (gL aks ext) c) (symL aks 0 0) (memL aks 0)) = true := by
  intro c hc
  simp only [cs, List.mem_cons, List.not_mem_nil, or_false] at hc
  rcases hc with rfl | rfl | rfl | rfl | rfl | rfl
  · exact tree0
  · exact tree1
  · exact tree2
  · exact tree3
  · exact tree4
  · exact tree5
theorem witness_row (os : Os) {H : Type} (enc : TypeId × Value → H) :
    (OpenSpec.ofChange Rows.hardQuietSpec).preRow enc Tryz.prog Tryz.f5 Rows.hardQuietRow.domain false Rows.hardQuietRow.laid ((World.settled Tryz.prog os).forCall (fun _ _ => 0) ⟨#[], #[.agg #[.slice none 0 0, .slice none 0 0, .slice none 0 0], .slice none 0 0, .int .u16 0, .int .u8 0], []⟩).memory #[.agg #[.slice none 0 0, .slice none 0 0, .slice none 0 0], .slice none 0 0, .int .u16 0, .int .u8 0] := by
  have hw : (DataW.whole enc Tryz.prog ((World.settled Tryz.prog os).forCall (fun _ _ => 0) ⟨#[], #[.agg #[.slice none 0 0, .slice none 0 0, .slice none 0 0], .slice none 0 0, .int .u16 0, .int .u8 0], []⟩).memory Tryz.f5.params.toList (OpenSpec.ofChange Rows.hardQuietSpec).vars false (#[.agg #[.slice none 0 0, .slice none 0 0, .slice none 0 0], .slice none 0 0, .int .u16 0, .int .u8 0] : Array Value).toList 8).isSome = true := by kernel_rfl
  obtain ⟨x, hx⟩ := Option.isSome_iff_exists.1 hw
  exact OpenSpec.preRow_of_cond 8 hx rfl (fun k hk => by cases hk) (by kernel_rfl) ⟨[], rfl, List.nodup_nil, fun _ _ h => by cases h⟩
set_option maxHeartbeats 2000000 in
theorem lifted (os : Os) (started : os.Started) (H : Type) (enc : TypeId × Value → H) (F : Stop.Interp) :
    ReturnsInHanded {} Tryz.checked os 5 .any ((OpenSpec.ofChange Rows.hardQuietSpec).preRow enc Tryz.prog Tryz.f5 Rows.hardQuietRow.domain false Rows.hardQuietRow.laid) (((OpenSpec.ofChange Rows.hardQuietSpec).at F).post enc Tryz.prog Tryz.f5 false true false false) := by
  refine returnsInHanded_of_row (C := Tryz.checked) (s := OpenSpec.ofChange Rows.hardQuietSpec) own started (by kernel_rfl) Tryz.func5
    (witness_row_atRef (enc := enc) (C := Tryz.checked) false (World.settled Tryz.prog os) #[.agg #[.slice none 0 0, .slice none 0 0, .slice none 0 0], .slice none 0 0, .int .u16 0, .int .u8 0] rfl (by kernel_rfl) (by kernel_rfl) (by kernel_rfl) (witness_row os enc)) ?_
  intro W base args ds gs before hval0 hW _ _ _ _ hsh _
  have hval : ∀ (j : Nat) t v, Tryz.f5.params.toList[j]? = some t → args[j]? = some v → Value.okWide Tryz.prog W .any base t v := fun j t v h1 h2 => hval0 j t v (by simpa using h1) h2
  have hW' := hW
  obtain ⟨p, q, hA0, hV, rfl, hfz, hnd⟩ := hW
  have hA : DataW.TrodAll enc Tryz.prog W 0 (fun _ => true) true Tryz.f5.params.toList args.toList ds p := hA0
  have hk := hA
  rw [Tryz.params5] at hA
  obtain ⟨v0, vs0, d0, ds0, p0, q0, hargs0, rfl, rfl, h0, r0⟩ := trodAll_cons hA
  obtain ⟨v1, vs1, d1, ds1, p1, q1, hargs1, rfl, rfl, h1, r1⟩ := trodAll_cons r0
  obtain ⟨v2, vs2, d2, ds2, p2, q2, hargs2, rfl, rfl, h2, r2⟩ := trodAll_cons r1
  obtain ⟨v3, vs3, d3, ds3, p3, q3, hargs3, rfl, rfl, h3, r3⟩ := trodAll_cons r2
  obtain ⟨rfl, rfl, rfl⟩ := trodAll_nil r3
  obtain ⟨rfl, rfl⟩ := trodVars_none hV
  simp only [List.append_nil] at hW' hk
  refine (law_callsF (T := TI) CQ_ok rfl (fun _ _ _ h => by cases h) (fun _ _ h => by cases h) aks_ok as_ok cs_ok trees (fun _ => rfl) hk hval trivial).mono fun e W' ⟨he, bel⟩ => ?_
  subst he
  exact ⟨_, rfl, _, _, _, [], _, [], hW', trodAll_cons_mk (shut_bool Tryz.underlying4 true) trodAll_mk0, trodAll_keep laidOut hk (by kernel_rfl) bel (fun x hx => by simpa using hW'.lt x hx), rfl, bel.frame _, fun h => by cases h⟩
theorem over : Rows.HardQuietSaid :=
  OpenClaim.holds_of_cond 5 Tryz.f5 rfl rfl rfl rfl rfl rfl rfl ⟨rfl, rfl, rfl, rfl, rfl⟩ rfl rfl rfl rfl rfl (by kernel_rfl) Tryz.func5 (by kernel_rfl)
    (of_decide_eq_true (by kernel_rfl)) (by unfold Func.isWrapper; first | (rw [if_pos (by decide +kernel)]; kernel_rfl) | (rw [if_neg (by decide +kernel)]; exact ⟨rfl, rfl⟩))
    (fun os started H enc _ F0 => by rw [OpenClaim.pre_eq_preRow]; exact lifted os started H enc F0)
end Go.Proofs.YtmjapmghihalpaaGreat.hardQuiet
