/-
  The law TraceCounts: whatever the input, the call returns true and its arguments read as before. Conditions: none.
-/
import Derived.Test.YtjcpcnoakphecaaDoorTrP
import Derived.ProofKit
import Derived.OpenShut
import Derived.JoinedCond
import Derived.Deep.DeepHandedRow
import Derived.Deep.DeepWitnessRowRef
import Derived.Stop.Joined
import Derived.KernelRfl
import Derived.Test.YtjcpcnoakphecaaDoorLaidT
import Derived.Test.YtjcpcnoakphecaaDoorTie
import Derived.Test.YtjcpcnoakphecaaDoorCards
import Derived.SevenTiedAt
namespace Go.Proofs.YtjcpcnoakphecaaDoor.traceCounts
open Go Go.AE Go.SX Go.ChangeShapes Go.WideShapes Go.ChangeAt Go.RowKit
set_option maxRecDepth 1000000
set_option linter.unusedVariables false
set_option linter.unusedSimpArgs false
noncomputable def LpC : Nat → Option LJ := fun n => bif Nat.beq n 4 then some ⟨cInv, left v0 (.v 4), none⟩ else bif Nat.beq n 13 then some ⟨.b true, mkSub (rln ofA) (.v 13), none⟩ else none
theorem LpC_ok : ∀ n li g, LpC n = some li → li.fn = some g → IsLoop g := fun n li g hl hg => by
  unfold LpC at hl
  cases h0 : Nat.beq n 4 with
  | true => rw [h0] at hl; cases hl; cases hg
  | false =>
  rw [h0] at hl
  cases h1 : Nat.beq n 13 with
  | true => rw [h1] at hl; cases hl; cases hg
  | false =>
  rw [h1] at hl
  cases hl
noncomputable def lmC : Nat → List X := fun n => bif Nat.beq n 4 then cLem4 else bif Nat.beq n 13 then cLem13 else []
theorem lmC_ok : ∀ b, ∀ x ∈ lmC b, ∀ e : En, x.B e = true := fun n x hx e => by
  unfold lmC at hx
  cases h0 : Nat.beq n 4 with
  | true => rw [h0] at hx; exact cLem4_ok x hx e
  | false =>
  rw [h0] at hx
  cases h1 : Nat.beq n 13 with
  | true => rw [h1] at hx; exact cLem13_ok x hx e
  | false =>
  rw [h1] at hx
  cases hx
def aks : List AL := [.rw [.i .i64, .i .u32, .i .u8, .b, .i .u8], .rw [.i .i64, .i .u32, .i .u8, .b, .i .u8], .z (.i .u8), .z (.i .u32)]
def ext : List X := cExt
theorem aks_ok : Tryd.f6.params.toList.mapM (alkind Tryd.prog) = some aks := by kernel_rfl
theorem as_ok : ∀ x ∈ ext, ∀ e : En, (∀ f ∈ facL aks 0, f.r.has (f.e.I e)) → x.B e = true := by
  intro x hx e hf
  exact cExt_ok x hx e
def cs0 : X := (.o .and (fewA v0) (.o .and (fewA (.v 1)) (fewA ofA)))
def cs1 : X := .o .lt (.i 1000) (rln v0)
def cs2 : X := .o .lt (.i 1000) (rln (.v 1))
def cs : List X := [cs0, cs1, cs2]
theorem cs_ok : ∀ e : En, (∀ f ∈ facL aks 0, f.r.has (f.e.I e)) → ∃ c ∈ cs, c.B e = true := by
  intro e hf
  by_cases h0 : (1000 : Int) < (((e.ρ 0).toR.length : Nat) : Int)
  · exact ⟨cs1, by simp [cs], decide_eq_true h0⟩
  by_cases h1 : (1000 : Int) < (((e.ρ 1).toR.length : Nat) : Int)
  · exact ⟨cs2, by simp [cs], decide_eq_true h1⟩
  refine ⟨cs0, by simp [cs], and_B (nlt_in h0) (and_B (nlt_in h1) (nlt_in ?_))⟩
  show ¬ (1000 : Int) < (((ofF (e.ρ 0).toR (e.ρ 2).toI (e.ρ 0).toR.length).length : Nat) : Int)
  have := of_len (e.ρ 0).toR (e.ρ 2).toI (e.ρ 0).toR.length
  omega
theorem tree0 : prvF 40 LpC lmC (fun g v _ => finTrue 40 g v) (assume (gL aks ext) cs0) [] (treeOf T Wcn CP 300 20 6 (assume (gL aks ext) cs0) (symL aks 0 0) (memL aks 0)) = true := by kernel_rfl
theorem tree1 : prvF 40 LpC lmC (fun g v _ => finTrue 40 g v) (assume (gL aks ext) cs1) [] (treeOf T Wcn CP 300 20 6 (assume (gL aks ext) cs1) (symL aks 0 0) (memL aks 0)) = true := by kernel_rfl
theorem tree2 : prvF 40 LpC lmC (fun g v _ => finTrue 40 g v) (assume (gL aks ext) cs2) [] (treeOf T Wcn CP 300 20 6 (assume (gL aks ext) cs2) (symL aks 0 0) (memL aks 0)) = true := by kernel_rfl
theorem trees : ∀ c ∈ cs, prvF 40 LpC lmC (fun g v _ => finTrue 40 g v) (assume (gL aks ext) c) [] (treeOf T Wcn CP 300 20 6 (assume (gL aks ext) c) (symL aks 0 0) (memL aks 0)) = true := by
  intro c hc
  simp only [cs, List.mem_cons, List.not_mem_nil, or_false] at hc
  rcases hc with rfl | rfl | rfl
  · exact tree0
  · exact tree1
  · exact tree2
theorem witness_row (os : Os) {H : Type} (enc : TypeId × Value → H) :
    (OpenSpec.ofChange Rows.traceCountsSpec).preRow enc Tryd.prog Tryd.f6 Rows.traceCountsRow.domain false Rows.traceCountsRow.laid ((laidWorld os).forCall (fun _ _ => 0) ⟨#[], #[.slice none 0 0, .slice none 0 0, .int .u8 0, .int .u32 0], []⟩).memory #[.slice none 0 0, .slice none 0 0, .int .u8 0, .int .u32 0] := by
  have hw : (DataW.whole enc Tryd.prog ((laidWorld os).forCall (fun _ _ => 0) ⟨#[], #[.slice none 0 0, .slice none 0 0, .int .u8 0, .int .u32 0], []⟩).memory Tryd.f6.params.toList (OpenSpec.ofChange Rows.traceCountsSpec).vars false (#[.slice none 0 0, .slice none 0 0, .int .u8 0, .int .u32 0] : Array Value).toList 8).isSome = true := by kernel_rfl
  obtain ⟨x, hx⟩ := Option.isSome_iff_exists.1 hw
  exact OpenSpec.preRow_of_cond 8 hx rfl (fun k hk => by cases hk) (by kernel_rfl) (laid_met os _)
set_option maxHeartbeats 2000000 in
theorem lifted (os : Os) (started : os.Started) (H : Type) (enc : TypeId × Value → H) (F : Stop.Interp) :
    ReturnsInHanded {} Tryd.checked os 6 .any ((OpenSpec.ofChange Rows.traceCountsSpec).preRow enc Tryd.prog Tryd.f6 Rows.traceCountsRow.domain false Rows.traceCountsRow.laid) (((OpenSpec.ofChange Rows.traceCountsSpec).at F).post enc Tryd.prog Tryd.f6 false true false false) := by
  refine returnsInHanded_of_row (C := Tryd.checked) (s := OpenSpec.ofChange Rows.traceCountsSpec) own started (by kernel_rfl) Tryd.func6
    (witness_row_atRef (enc := enc) (C := Tryd.checked) false (laidWorld os) #[.slice none 0 0, .slice none 0 0, .int .u8 0, .int .u32 0] rfl (by kernel_rfl) (by kernel_rfl) (by kernel_rfl) (witness_row os enc)) ?_
  intro W base args ds gs before hval0 hW _ _ _ _ hsh _
  have hval : ∀ (j : Nat) t v, Tryd.f6.params.toList[j]? = some t → args[j]? = some v → Value.okWide Tryd.prog W .any base t v := fun j t v h1 h2 => hval0 j t v (by simpa using h1) h2
  have hW' := hW
  obtain ⟨p, q, hA0, hV, rfl, hfz, hnd⟩ := hW
  have hA : DataW.TrodAll enc Tryd.prog W 0 (fun _ => true) true Tryd.f6.params.toList args.toList ds p := hA0
  have hk := hA
  rw [Tryd.params6] at hA
  obtain ⟨v0, vs0, d0, ds0, p0, q0, hargs0, rfl, rfl, h0, r0⟩ := trodAll_cons hA
  obtain ⟨v1, vs1, d1, ds1, p1, q1, hargs1, rfl, rfl, h1, r1⟩ := trodAll_cons r0
  obtain ⟨v2, vs2, d2, ds2, p2, q2, hargs2, rfl, rfl, h2, r2⟩ := trodAll_cons r1
  obtain ⟨v3, vs3, d3, ds3, p3, q3, hargs3, rfl, rfl, h3, r3⟩ := trodAll_cons r2
  obtain ⟨rfl, rfl, rfl⟩ := trodAll_nil r3
  obtain ⟨rfl, rfl⟩ := trodVars_none hV
  simp only [List.append_nil] at hW' hk
  refine (law_callsF (T := T) CP_ok rfl (LpC_ok) (lmC_ok) aks_ok as_ok cs_ok trees (fun _ => rfl) hk hval (good_of_shape hsh)).mono fun e W' ⟨he, bel⟩ => ?_
  subst he
  exact ⟨_, rfl, _, _, _, [], _, [], hW', trodAll_cons_mk (shut_bool Tryd.underlying4 true) trodAll_mk0, trodAll_keep laidOut hk (by kernel_rfl) bel (fun x hx => by simpa using hW'.lt x hx), rfl, bel.frame _, fun h => by cases h⟩
theorem over : Rows.TraceCountsSaid :=
  OpenClaim.holds_of_cond 6 Tryd.f6 rfl rfl rfl rfl rfl rfl rfl ⟨rfl, rfl, rfl, rfl, rfl⟩ rfl rfl rfl rfl rfl (by kernel_rfl) Tryd.func6 (by kernel_rfl)
    (of_decide_eq_true (by kernel_rfl)) (by unfold Func.isWrapper; first | (rw [if_pos (by decide +kernel)]; kernel_rfl) | (rw [if_neg (by decide +kernel)]; exact ⟨rfl, rfl⟩))
    (fun os started H enc _ F0 => by rw [OpenClaim.pre_eq_preRow]; exact lifted os started H enc F0)
theorem card_holds : Rows.TraceCountsCardSaid :=
  Claim7.holds_tied_plain_at .later [] [.data, .pinned] true (true, "66250c5cb7edaa95260dea6d9912e001b94eabe5d011c1a062c2fe32f5e3d6f5") false
    over (fun _ h => by cases h) (by kernel_rfl) (fun _ h => by cases h) traceCounts_row_tie rfl ⟨rfl, rfl⟩ (by kernel_rfl) rfl
    (fun f fn hf hfn => by
      obtain rfl : f = 6 := Option.some.inj ((show Tryd.prog.funcNamed "gannet/gannetlaw36.TraceCounts" = some 6 by kernel_rfl).symm.trans hf) |>.symm
      obtain rfl : fn = Tryd.f6 := (Option.some.inj (Tryd.func6.symm.trans hfn)).symm
      exact ⟨by kernel_rfl, fun j t ht => by
        rw [Tryd.params6] at ht
        rcases j with _ | j
        · obtain rfl : (32 : TypeId) = t := by simpa using ht
          exact (show Tryd.prog.wantsStandIn 32 = false by kernel_rfl)
        rcases j with _ | j
        · obtain rfl : (32 : TypeId) = t := by simpa using ht
          exact (show Tryd.prog.wantsStandIn 32 = false by kernel_rfl)
        rcases j with _ | j
        · obtain rfl : (5 : TypeId) = t := by simpa using ht
          exact (show Tryd.prog.wantsStandIn 5 = false by kernel_rfl)
        rcases j with _ | j
        · obtain rfl : (22 : TypeId) = t := by simpa using ht
          exact (show Tryd.prog.wantsStandIn 22 = false by kernel_rfl)
        · simp at ht⟩)
    (by kernel_rfl)
end Go.Proofs.YtjcpcnoakphecaaDoor.traceCounts
