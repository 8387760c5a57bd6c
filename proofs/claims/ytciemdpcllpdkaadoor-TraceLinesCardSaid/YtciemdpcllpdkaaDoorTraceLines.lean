/-
  The law TraceLines: whatever the input, the call returns true and its arguments read as before. Conditions: none.
-/
import Derived.Test.YtciemdpcllpdkaaDoorTlR
import Derived.ProofKit
import Derived.OpenShut
import Derived.JoinedCond
import Derived.Deep.DeepHandedRow
import Derived.Deep.DeepWitnessRowRef
import Derived.Stop.Joined
import Derived.KernelRfl
import Derived.Test.YtciemdpcllpdkaaDoorLaidF
import Derived.Test.YtciemdpcllpdkaaDoorTie
import Derived.Test.YtciemdpcllpdkaaDoorCards
import Derived.SevenTiedAt
namespace Go.Proofs.YtciemdpcllpdkaaDoor.traceLines
open Go Go.AE Go.SX Go.ChangeShapes Go.WideShapes Go.ChangeAt Go.RowKit
set_option maxRecDepth 1000000
set_option linter.unusedVariables false
set_option linter.unusedSimpArgs false
def leafX : X := .o .and (.o .beq mayX (.o .eq (r6 lnV) (.i 0))) (.o .or (.u .not (.o .eq (r6 lnV) (.i 0))) (.o .and (.o .eq (r1 lnV) (.v 0)) (.o .and (.o .eq (r2 lnV) (.v 1)) (.o .and (.o .eq (r3 lnV) (.v 2)) (.o .and (.o .beq (r4 lnV) (.v 3)) (.o .eq (r5 lnV) (.v 4)))))))
theorem lnF_len (st ad kd : Int) (wr : Bool) (da : Int) : (lnF st ad kd wr da).length ≤ 300 := by
  unfold lnF
  cases hm : mayG st ad kd with
  | false => show 0 ≤ 300; omega
  | true =>
    have := dec_len 17 st.toNat (by have := may_iff.1 hm; omega)
    show (decF st.toNat ++ 32 :: ([ltF.getD kd.toNat 0] ++ 32 :: (physF ad ++ 32 :: ([if wr = true then 119 else 114] ++ 32 :: hex2 da)))).length ≤ 300
    simp only [List.length_append, List.length_cons, List.length_nil, physF, hex2, hex4]
    omega
theorem leaf_ok (e : En) (h1 : 0 ≤ (e.ρ 1).toI) (h2 : 0 ≤ (e.ρ 2).toI) (h4 : 0 ≤ (e.ρ 4).toI ∧ (e.ρ 4).toI ≤ 255) : leafX.B e = true := by
  have key : ∀ r : R6, rdP (lnF (e.ρ 0).toI (e.ρ 1).toI (e.ρ 2).toI (e.ρ 3).toB (e.ρ 4).toI) = r → leafX.B e = ((mayX.B e == decide (r.2.2.2.2.2 = 0)) && (!decide (r.2.2.2.2.2 = 0) || (decide (r.1 = (e.ρ 0).toI) && (decide (r.2.1 = (e.ρ 1).toI) && (decide (r.2.2.1 = (e.ρ 2).toI) && ((r.2.2.2.1 == (e.ρ 3).toB) && decide (r.2.2.2.2.1 = (e.ρ 4).toI))))))) := fun r hr => by subst hr; rfl
  cases hm : mayG (e.ρ 0).toI (e.ρ 1).toI (e.ρ 2).toI with
  | true =>
    rw [key _ (rdP_of hm h1 h2 h4), mayX_B, hm]
    simp
  | false =>
    rw [key _ (rdP_not hm), mayX_B, hm]; rfl
def aks : List AL := [.st [.i .i64, .i .u32, .i .u8, .b, .i .u8], .z .s]
def ext : List X := []
theorem aks_ok : Tryd.f3.params.toList.mapM (alkind Tryd.prog) = some aks := by kernel_rfl
theorem as_ok : ∀ x ∈ ext, ∀ e : En, (∀ f ∈ facL aks 0, f.r.has (f.e.I e)) → x.B e = true := by
  intro x hx e hf
  cases hx
def cs0 : X := (.o .and (.u .not (.o .lt (.i 300) (lenX' (.v 5)))) (.o .and (.u .not (.o .lt (.i 300) (lenX' lnV))) leafX))
def cs1 : X := .o .lt (.i 300) (lenX' (.v 5))
def cs : List X := [cs0, cs1]
theorem cs_ok : ∀ e : En, (∀ f ∈ facL aks 0, f.r.has (f.e.I e)) → ∃ c ∈ cs, c.B e = true := by
  intro e hf
  by_cases h0 : (300 : Int) < (((e.ρ 5).toS.length : Nat) : Int)
  · exact ⟨cs1, by simp [cs], decide_eq_true h0⟩
  have g1 : (⟨.v 1, ⟨some 0, some 4294967295⟩⟩ : Fact).r.has ((e.ρ 1).toI) := hf ⟨.v 1, ⟨some 0, some 4294967295⟩⟩ (by first | exact .head _ | exact .tail _ (.head _) | exact .tail _ (.tail _ (.head _)) | exact .tail _ (.tail _ (.tail _ (.head _))))
  have g2 : (⟨.v 2, ⟨some 0, some 255⟩⟩ : Fact).r.has ((e.ρ 2).toI) := hf ⟨.v 2, ⟨some 0, some 255⟩⟩ (by first | exact .head _ | exact .tail _ (.head _) | exact .tail _ (.tail _ (.head _)) | exact .tail _ (.tail _ (.tail _ (.head _))))
  have g4 : (⟨.v 4, ⟨some 0, some 255⟩⟩ : Fact).r.has ((e.ρ 4).toI) := hf ⟨.v 4, ⟨some 0, some 255⟩⟩ (by first | exact .head _ | exact .tail _ (.head _) | exact .tail _ (.tail _ (.head _)) | exact .tail _ (.tail _ (.tail _ (.head _))))
  refine ⟨cs0, by simp [cs], and_B (nlt_in h0) (and_B (nlt_in ?_) (leaf_ok e (g1.1 _ rfl) (g2.1 _ rfl) ⟨g4.1 _ rfl, g4.2 _ rfl⟩))⟩
  show ¬ (300 : Int) < (((lnF (e.ρ 0).toI (e.ρ 1).toI (e.ρ 2).toI (e.ρ 3).toB (e.ρ 4).toI).length : Nat) : Int)
  have := lnF_len (e.ρ 0).toI (e.ρ 1).toI (e.ρ 2).toI (e.ρ 3).toB (e.ρ 4).toI
  omega
theorem tree0 : prvF 40 noJ noX (fun g v _ => finTrue 40 g v) (assume (gL aks ext) cs0) [] (treeOf T Wl CTl 300 20 3 (assume (gL aks ext) cs0) (symL aks 0 0) (memL aks 0)) = true := by kernel_rfl
theorem tree1 : prvF 40 noJ noX (fun g v _ => finTrue 40 g v) (assume (gL aks ext) cs1) [] (treeOf T Wl CTl 300 20 3 (assume (gL aks ext) cs1) (symL aks 0 0) (memL aks 0)) = true := by kernel_rfl
theorem trees : ∀ c ∈ cs, prvF 40 noJ noX (fun g v _ => finTrue 40 g v) (assume (gL aks ext) c) [] (treeOf T Wl CTl 300 20 3 (assume (gL aks ext) c) (symL aks 0 0) (memL aks 0)) = true := by
  intro c hc
  simp only [cs, List.mem_cons, List.not_mem_nil, or_false] at hc
  rcases hc with rfl | rfl
  · exact tree0
  · exact tree1
theorem witness_row (os : Os) {H : Type} (enc : TypeId × Value → H) :
    (OpenSpec.ofChange Rows.traceLinesSpec).preRow enc Tryd.prog Tryd.f3 Rows.traceLinesRow.domain false Rows.traceLinesRow.laid ((laidWorld os).forCall (fun _ _ => 0) ⟨#[], #[.agg #[.int .i64 0, .int .u32 0, .int .u8 0, .bool false, .int .u8 0], .string ⟨#[]⟩], []⟩).memory #[.agg #[.int .i64 0, .int .u32 0, .int .u8 0, .bool false, .int .u8 0], .string ⟨#[]⟩] := by
  have hw : (DataW.whole enc Tryd.prog ((laidWorld os).forCall (fun _ _ => 0) ⟨#[], #[.agg #[.int .i64 0, .int .u32 0, .int .u8 0, .bool false, .int .u8 0], .string ⟨#[]⟩], []⟩).memory Tryd.f3.params.toList (OpenSpec.ofChange Rows.traceLinesSpec).vars false (#[.agg #[.int .i64 0, .int .u32 0, .int .u8 0, .bool false, .int .u8 0], .string ⟨#[]⟩] : Array Value).toList 8).isSome = true := by kernel_rfl
  obtain ⟨x, hx⟩ := Option.isSome_iff_exists.1 hw
  exact OpenSpec.preRow_of_cond 8 hx rfl (fun k hk => by cases hk) (by kernel_rfl) (laid_met os _)
set_option maxHeartbeats 2000000 in
theorem lifted (os : Os) (started : os.Started) (H : Type) (enc : TypeId × Value → H) (F : Stop.Interp) :
    ReturnsInHanded {} Tryd.checked os 3 .any ((OpenSpec.ofChange Rows.traceLinesSpec).preRow enc Tryd.prog Tryd.f3 Rows.traceLinesRow.domain false Rows.traceLinesRow.laid) (((OpenSpec.ofChange Rows.traceLinesSpec).at F).post enc Tryd.prog Tryd.f3 false true false false) := by
  refine returnsInHanded_of_row (C := Tryd.checked) (s := OpenSpec.ofChange Rows.traceLinesSpec) own started (by kernel_rfl) Tryd.func3
    (witness_row_atRef (enc := enc) (C := Tryd.checked) false (laidWorld os) #[.agg #[.int .i64 0, .int .u32 0, .int .u8 0, .bool false, .int .u8 0], .string ⟨#[]⟩] rfl (by kernel_rfl) (by kernel_rfl) (by kernel_rfl) (witness_row os enc)) ?_
  intro W base args ds gs before hval0 hW _ _ _ _ hsh _
  have hval : ∀ (j : Nat) t v, Tryd.f3.params.toList[j]? = some t → args[j]? = some v → Value.okWide Tryd.prog W .any base t v := fun j t v h1 h2 => hval0 j t v (by simpa using h1) h2
  have hW' := hW
  obtain ⟨p, q, hA0, hV, rfl, hfz, hnd⟩ := hW
  have hA : DataW.TrodAll enc Tryd.prog W 0 (fun _ => true) true Tryd.f3.params.toList args.toList ds p := hA0
  have hk := hA
  rw [Tryd.params3] at hA
  obtain ⟨v0, vs0, d0, ds0, p0, q0, hargs0, rfl, rfl, h0, r0⟩ := trodAll_cons hA
  obtain ⟨v1, vs1, d1, ds1, p1, q1, hargs1, rfl, rfl, h1, r1⟩ := trodAll_cons r0
  obtain ⟨rfl, rfl, rfl⟩ := trodAll_nil r1
  obtain ⟨rfl, rfl⟩ := trodVars_none hV
  simp only [List.append_nil] at hW' hk
  refine (law_callsF (T := T) CTl_ok rfl (fun _ _ _ h => by cases h) (fun _ _ h => by cases h) aks_ok as_ok cs_ok trees (fun _ => rfl) hk hval (good_of_shape hsh)).mono fun e W' ⟨he, bel⟩ => ?_
  subst he
  exact ⟨_, rfl, _, _, _, [], _, [], hW', trodAll_cons_mk (shut_bool Tryd.underlying4 true) trodAll_mk0, trodAll_keep laidOut hk (by kernel_rfl) bel (fun x hx => by simpa using hW'.lt x hx), rfl, bel.frame _, fun h => by cases h⟩
theorem over : Rows.TraceLinesSaid :=
  OpenClaim.holds_of_cond 3 Tryd.f3 rfl rfl rfl rfl rfl rfl rfl ⟨rfl, rfl, rfl, rfl, rfl⟩ rfl rfl rfl rfl rfl (by kernel_rfl) Tryd.func3 (by kernel_rfl)
    (of_decide_eq_true (by kernel_rfl)) (by unfold Func.isWrapper; first | (rw [if_pos (by decide +kernel)]; kernel_rfl) | (rw [if_neg (by decide +kernel)]; exact ⟨rfl, rfl⟩))
    (fun os started H enc _ F0 => by rw [OpenClaim.pre_eq_preRow]; exact lifted os started H enc F0)
theorem card_holds : Rows.TraceLinesCardSaid :=
  Claim7.holds_tied_plain_at .later [] [.data, .pinned] true (true, "7a008cd209621a0adce0e7757db54de5d4f04e520147e5c01a7a13301d1de687") false
    over (fun _ h => by cases h) (by kernel_rfl) (fun _ h => by cases h) traceLines_row_tie rfl ⟨rfl, rfl⟩ (by kernel_rfl) rfl
    (fun f fn hf hfn => by
      obtain rfl : f = 3 := Option.some.inj ((show Tryd.prog.funcNamed "gannet/gannetlaw36.TraceLines" = some 3 by kernel_rfl).symm.trans hf) |>.symm
      obtain rfl : fn = Tryd.f3 := (Option.some.inj (Tryd.func3.symm.trans hfn)).symm
      exact ⟨by kernel_rfl, fun j t ht => by
        rw [Tryd.params3] at ht
        rcases j with _ | j
        · obtain rfl : (24 : TypeId) = t := by simpa using ht
          exact (show Tryd.prog.wantsStandIn 24 = false by kernel_rfl)
        rcases j with _ | j
        · obtain rfl : (9 : TypeId) = t := by simpa using ht
          exact (show Tryd.prog.wantsStandIn 9 = false by kernel_rfl)
        · simp at ht⟩)
    (by kernel_rfl)
end Go.Proofs.YtciemdpcllpdkaaDoor.traceLines
