/-
  The law TracePacks: whatever the input, the call returns true and its arguments read as before. Conditions: none.
-/
import Derived.Test.YtjcpcnoakphecaaDoorTrJ
import Derived.ProofKit
import Derived.OpenShut
import Derived.JoinedCond
import Derived.Deep.DeepHandedRow
import Derived.Deep.DeepWitnessRowRef
import Derived.Stop.Joined
import Derived.KernelRfl
import Derived.Test.YtjcpcnoakphecaaDoorLaidT
import Derived.Test.YtjcpcnoakphecaaDoorTie
import Derived.Test.YtjcpcnoakphecaaDoorCards
import Derived.SevenTiedAt
namespace Go.Proofs.YtjcpcnoakphecaaDoor.tracePacks
open Go Go.AE Go.SX Go.ChangeShapes Go.WideShapes Go.ChangeAt Go.RowKit
set_option maxRecDepth 1000000
set_option linter.unusedVariables false
set_option linter.unusedSimpArgs false
def LpP : Nat → Option LJ := fun n => bif Nat.beq n 1 then some ⟨.b true, mkSub (.u .len pk0) (.v 1), none⟩ else bif Nat.beq n 3 then some ⟨.b true, mkSub (rlen urp) (.v 3), none⟩ else none
theorem LpP_ok : ∀ n li g, LpP n = some li → li.fn = some g → IsLoop g := fun n li g hl hg => by
  unfold LpP at hl
  cases h0 : Nat.beq n 1 with
  | true => rw [h0] at hl; cases hl; cases hg
  | false =>
  rw [h0] at hl
  cases h1 : Nat.beq n 3 with
  | true => rw [h1] at hl; cases hl; cases hg
  | false =>
  rw [h1] at hl
  cases hl
def prP : X := .o .and (.o .eq (nfI (.v 0)) (.i 1)) (.o .and (.u .not (.o .lt (.v 3) (.i 0))) (.o .lt (.v 3) (rlen (.v 0))))
def eqsP : X := .o .and (eq2 (fSt urp (.v 3)) (fSt (.v 0) (.v 3))) (.o .and (eq2 (fAd urp (.v 3)) (fAd (.v 0) (.v 3))) (.o .and (eq2 (fKd urp (.v 3)) (fKd (.v 0) (.v 3))) (.o .and (.o .and (.o .beq (fWr urp (.v 3)) (fWr (.v 0) (.v 3))) (.o .beq (fWr (.v 0) (.v 3)) (fWr urp (.v 3)))) (eq2 (fDa urp (.v 3)) (fDa (.v 0) (.v 3))))))
theorem pk0_S (e : En) : pk0.S e = pkF (e.ρ 0).toR (e.ρ 0).toR.length := by
  show pkF (e.ρ 0).toR (((e.ρ 0).toR.length : Nat) : Int).toNat = _
  rw [Int.toNat_natCast]
theorem urp_R (e : En) : urp.R e = urF (pkF (e.ρ 0).toR (e.ρ 0).toR.length) := by
  show urF (pk0.S e) = _
  rw [pk0_S]
def lemP3 : List X := [impS prP eqsP]
theorem lemP3_ok : ∀ x ∈ lemP3, ∀ e : En, x.B e = true := all_cons' (P := fun x : X => ∀ e : En, x.B e = true) (fun e => impS_ok fun h => by
  obtain ⟨h0, h⟩ := and_out h
  obtain ⟨h1, h2⟩ := and_out h
  have h0 := (nfI_1 e (.v 0)).1 (eq_out h0)
  have h0 : (e.ρ 0).toR.length ≤ faF (e.ρ 0).toR := h0
  have h1 : ¬ (e.ρ 3).toI < 0 := nlt_out h1
  have h2 : (e.ρ 3).toI < (((e.ρ 0).toR.length : Nat) : Int) := lt_out h2
  obtain ⟨q1, q2, q3, q4, q5⟩ := rows_eq (e := e) (back_row h0 (i := (e.ρ 3).toI.toNat) (by omega))
  rw [← urp_R e] at q1 q2 q3 q4 q5
  refine and_B (eq2_in q1) (and_B (eq2_in q2) (and_B (eq2_in q3) (and_B ?_ (eq2_in q5))))
  have e1 : (fWr urp (.v 3)).B e = (fWr (.v 0) (.v 3)).B e := q4
  refine and_B ?_ ?_
  · show ((fWr urp (.v 3)).B e == (fWr (.v 0) (.v 3)).B e) = true
    rw [e1]; exact beq_self_eq_true _
  · show ((fWr (.v 0) (.v 3)).B e == (fWr urp (.v 3)).B e) = true
    rw [e1]; exact beq_self_eq_true _) all_nil'
def lmP : Nat → List X := fun n => bif Nat.beq n 3 then lemP3 else []
theorem lmP_ok : ∀ b, ∀ x ∈ lmP b, ∀ e : En, x.B e = true := fun n x hx e => by
  unfold lmP at hx
  cases h0 : Nat.beq n 3 with
  | true => rw [h0] at hx; exact lemP3_ok x hx e
  | false =>
  rw [h0] at hx
  cases hx
def aks : List AL := [.rw [.i .i64, .i .u32, .i .u8, .b, .i .u8]]
def ext : List X := []
theorem aks_ok : Tryd.f4.params.toList.mapM (alkind Tryd.prog) = some aks := by kernel_rfl
theorem as_ok : ∀ x ∈ ext, ∀ e : En, (∀ f ∈ facL aks 0, f.r.has (f.e.I e)) → x.B e = true := by
  intro x hx e hf
  cases hx
def cs0 : X := (.o .and few1 (.o .and (.o .eq (nfI (.v 0)) (.i 1)) (.o .and (.o .eq (okI pk0) (.i 1)) (.o .and (.u .not (.o .lt (.i 13000) (.u .len pk0))) (.o .and (.u .not (.o .lt (.i 1000) (rlen urp))) (eq2 (rlen urp) (rlen (.v 0))))))))
def cs1 : X := (.o .and few1 (.o .eq (nfI (.v 0)) (.i 0)))
def cs2 : X := .o .lt (.i 1000) (rlen (.v 0))
def cs : List X := [cs0, cs1, cs2]
theorem cs_ok : ∀ e : En, (∀ f ∈ facL aks 0, f.r.has (f.e.I e)) → ∃ c ∈ cs, c.B e = true := by
  intro e hf
  by_cases hfw : (1000 : Int) < (((e.ρ 0).toR.length : Nat) : Int)
  · exact ⟨cs2, by simp [cs], decide_eq_true hfw⟩
  have hf1 : few1.B e = true := nlt_in hfw
  by_cases hn : (e.ρ 0).toR.length ≤ faF (e.ρ 0).toR
  · refine ⟨cs0, by simp [cs], and_B hf1 (and_B (eq_in ((nfI_1 e (.v 0)).2 hn)) (and_B (eq_in ((okI_1 e pk0).2 ?_)) (and_B (nlt_in ?_) (and_B (nlt_in ?_) (eq2_in ?_)))))⟩
    · rw [pk0_S]; exact (pk_back hn).1
    · show ¬ (13000 : Int) < (((pk0.S e).length : Nat) : Int)
      rw [pk0_S]
      have := (pk_len (e.ρ 0).toR (e.ρ 0).toR.length).2
      omega
    · show ¬ (1000 : Int) < (((urp.R e).length : Nat) : Int)
      rw [urp_R, back_len hn]; exact hfw
    · show (((urp.R e).length : Nat) : Int) = (((e.ρ 0).toR.length : Nat) : Int)
      rw [urp_R, back_len hn]
  · exact ⟨cs1, by simp [cs], and_B hf1 (eq_in ((nfI_0 e (.v 0)).2 hn))⟩
theorem tree0 : prvF 40 LpP lmP (fun g v _ => finTrue 40 g v) (assume (gL aks ext) cs0) [] (treeOf T Wsm CJ 300 20 4 (assume (gL aks ext) cs0) (symL aks 0 0) (memL aks 0)) = true := by kernel_rfl
theorem tree1 : prvF 40 LpP lmP (fun g v _ => finTrue 40 g v) (assume (gL aks ext) cs1) [] (treeOf T Wsm CJ 300 20 4 (assume (gL aks ext) cs1) (symL aks 0 0) (memL aks 0)) = true := by kernel_rfl
theorem tree2 : prvF 40 LpP lmP (fun g v _ => finTrue 40 g v) (assume (gL aks ext) cs2) [] (treeOf T Wsm CJ 300 20 4 (assume (gL aks ext) cs2) (symL aks 0 0) (memL aks 0)) = true := by kernel_rfl
theorem trees : ∀ c ∈ cs, prvF 40 LpP lmP (fun g v _ => finTrue 40 g v) (assume (gL aks ext) c) [] (treeOf T Wsm CJ 300 20 4 (assume (gL aks ext) c) (symL aks 0 0) (memL aks 0)) = true := by
  intro c hc
  simp only [cs, List.mem_cons, List.not_mem_nil, or_false] at hc
  rcases hc with rfl | rfl | rfl
  · exact tree0
  · exact tree1
  · exact tree2
theorem witness_row (os : Os) {H : Type} (enc : TypeId × Value → H) :
    (OpenSpec.ofChange Rows.tracePacksSpec).preRow enc Tryd.prog Tryd.f4 Rows.tracePacksRow.domain false Rows.tracePacksRow.laid ((laidWorld os).forCall (fun _ _ => 0) ⟨#[], #[.slice none 0 0], []⟩).memory #[.slice none 0 0] := by
  have hw : (DataW.whole enc Tryd.prog ((laidWorld os).forCall (fun _ _ => 0) ⟨#[], #[.slice none 0 0], []⟩).memory Tryd.f4.params.toList (OpenSpec.ofChange Rows.tracePacksSpec).vars false (#[.slice none 0 0] : Array Value).toList 8).isSome = true := by kernel_rfl
  obtain ⟨x, hx⟩ := Option.isSome_iff_exists.1 hw
  exact OpenSpec.preRow_of_cond 8 hx rfl (fun k hk => by cases hk) (by kernel_rfl) (laid_met os _)
set_option maxHeartbeats 2000000 in
theorem lifted (os : Os) (started : os.Started) (H : Type) (enc : TypeId × Value → H) (F : Stop.Interp) :
    ReturnsInHanded {} Tryd.checked os 4 .any ((OpenSpec.ofChange Rows.tracePacksSpec).preRow enc Tryd.prog Tryd.f4 Rows.tracePacksRow.domain false Rows.tracePacksRow.laid) (((OpenSpec.ofChange Rows.tracePacksSpec).at F).post enc Tryd.prog Tryd.f4 false true false false) := by
  refine returnsInHanded_of_row (C := Tryd.checked) (s := OpenSpec.ofChange Rows.tracePacksSpec) own started (by kernel_rfl) Tryd.func4
    (witness_row_atRef (enc := enc) (C := Tryd.checked) false (laidWorld os) #[.slice none 0 0] rfl (by kernel_rfl) (by kernel_rfl) (by kernel_rfl) (witness_row os enc)) ?_
  intro W base args ds gs before hval0 hW _ _ _ _ hsh _
  have hval : ∀ (j : Nat) t v, Tryd.f4.params.toList[j]? = some t → args[j]? = some v → Value.okWide Tryd.prog W .any base t v := fun j t v h1 h2 => hval0 j t v (by simpa using h1) h2
  have hW' := hW
  obtain ⟨p, q, hA0, hV, rfl, hfz, hnd⟩ := hW
  have hA : DataW.TrodAll enc Tryd.prog W 0 (fun _ => true) true Tryd.f4.params.toList args.toList ds p := hA0
  have hk := hA
  rw [Tryd.params4] at hA
  obtain ⟨v0, vs0, d0, ds0, p0, q0, hargs0, rfl, rfl, h0, r0⟩ := trodAll_cons hA
  obtain ⟨rfl, rfl, rfl⟩ := trodAll_nil r0
  obtain ⟨rfl, rfl⟩ := trodVars_none hV
  simp only [List.append_nil] at hW' hk
  refine (law_callsF (T := T) CJ_ok rfl (LpP_ok) (lmP_ok) aks_ok as_ok cs_ok trees (fun _ => rfl) hk hval (good_of_shape hsh)).mono fun e W' ⟨he, bel⟩ => ?_
  subst he
  exact ⟨_, rfl, _, _, _, [], _, [], hW', trodAll_cons_mk (shut_bool Tryd.underlying4 true) trodAll_mk0, trodAll_keep laidOut hk (by kernel_rfl) bel (fun x hx => by simpa using hW'.lt x hx), rfl, bel.frame _, fun h => by cases h⟩
theorem over : Rows.TracePacksSaid :=
  OpenClaim.holds_of_cond 4 Tryd.f4 rfl rfl rfl rfl rfl rfl rfl ⟨rfl, rfl, rfl, rfl, rfl⟩ rfl rfl rfl rfl rfl (by kernel_rfl) Tryd.func4 (by kernel_rfl)
    (of_decide_eq_true (by kernel_rfl)) (by unfold Func.isWrapper; first | (rw [if_pos (by decide +kernel)]; kernel_rfl) | (rw [if_neg (by decide +kernel)]; exact ⟨rfl, rfl⟩))
    (fun os started H enc _ F0 => by rw [OpenClaim.pre_eq_preRow]; exact lifted os started H enc F0)
theorem card_holds : Rows.TracePacksCardSaid :=
  Claim7.holds_tied_plain_at .later [] [.data, .pinned] true (true, "66250c5cb7edaa95260dea6d9912e001b94eabe5d011c1a062c2fe32f5e3d6f5") false
    over (fun _ h => by cases h) (by kernel_rfl) (fun _ h => by cases h) tracePacks_row_tie rfl ⟨rfl, rfl⟩ (by kernel_rfl) rfl
    (fun f fn hf hfn => by
      obtain rfl : f = 4 := Option.some.inj ((show Tryd.prog.funcNamed "gannet/gannetlaw36.TracePacks" = some 4 by kernel_rfl).symm.trans hf) |>.symm
      obtain rfl : fn = Tryd.f4 := (Option.some.inj (Tryd.func4.symm.trans hfn)).symm
      exact ⟨by kernel_rfl, fun j t ht => by
        rw [Tryd.params4] at ht
        rcases j with _ | j
        · obtain rfl : (32 : TypeId) = t := by simpa using ht
          exact (show Tryd.prog.wantsStandIn 32 = false by kernel_rfl)
        · simp at ht⟩)
    (by kernel_rfl)
end Go.Proofs.YtjcpcnoakphecaaDoor.tracePacks
