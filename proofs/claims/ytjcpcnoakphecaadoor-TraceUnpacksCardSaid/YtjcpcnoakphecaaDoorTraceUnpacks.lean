/-
  The law TraceUnpacks: whatever the input, the call returns true and its arguments read as before. Conditions: none.
-/
import Derived.Test.YtjcpcnoakphecaaDoorTrJ
import Derived.ProofKit
import Derived.OpenShut
import Derived.JoinedCond
import Derived.Deep.DeepHandedRow
import Derived.Deep.DeepWitnessRowRef
import Derived.Stop.Joined
import Derived.KernelRfl
import Derived.Test.YtjcpcnoakphecaaDoorLaidT
import Derived.Test.YtjcpcnoakphecaaDoorTie
import Derived.Test.YtjcpcnoakphecaaDoorCards
import Derived.SevenTiedAt
namespace Go.Proofs.YtjcpcnoakphecaaDoor.traceUnpacks
open Go Go.AE Go.SX Go.ChangeShapes Go.WideShapes Go.ChangeAt Go.RowKit
set_option maxRecDepth 1000000
set_option linter.unusedVariables false
set_option linter.unusedSimpArgs false
def LpU : Nat → Option LJ := fun n => bif Nat.beq n 1 then some ⟨.b true, mkSub (rlen ur0) (.v 1), none⟩ else bif Nat.beq n 3 then some ⟨.b true, mkSub (.u .len pku) (.v 3), none⟩ else none
theorem LpU_ok : ∀ n li g, LpU n = some li → li.fn = some g → IsLoop g := fun n li g hl hg => by
  unfold LpU at hl
  cases h0 : Nat.beq n 1 with
  | true => rw [h0] at hl; cases hl; cases hg
  | false =>
  rw [h0] at hl
  cases h1 : Nat.beq n 3 with
  | true => rw [h1] at hl; cases hl; cases hg
  | false =>
  rw [h1] at hl
  cases hl
theorem pku_S (e : En) (h : okU (e.ρ 0).toS = true) : pku.S e = (e.ρ 0).toS := by
  show pkF (urF (e.ρ 0).toS) (((urF (e.ρ 0).toS).length : Nat) : Int).toNat = _
  rw [Int.toNat_natCast]
  exact (ur_back h).2
def lemU3 : List X := [impS (.o .eq (okI (.v 0)) (.i 1)) (eq2 (.o .nth pku (.v 3)) (.o .nth (.v 0) (.v 3)))]
theorem lemU3_ok : ∀ x ∈ lemU3, ∀ e : En, x.B e = true := all_cons' (P := fun x : X => ∀ e : En, x.B e = true) (fun e => impS_ok fun h => by
  have h0 := (okI_1 e (.v 0)).1 (eq_out h)
  have h0 : okU (e.ρ 0).toS = true := h0
  refine eq2_in ?_
  show ((((pku.S e).getD (e.ρ 3).toI.toNat 0).toNat : Nat) : Int) = ((((e.ρ 0).toS.getD (e.ρ 3).toI.toNat 0).toNat : Nat) : Int)
  rw [pku_S e h0]) all_nil'
def lmU : Nat → List X := fun n => bif Nat.beq n 3 then lemU3 else []
theorem lmU_ok : ∀ b, ∀ x ∈ lmU b, ∀ e : En, x.B e = true := fun n x hx e => by
  unfold lmU at hx
  cases h0 : Nat.beq n 3 with
  | true => rw [h0] at hx; exact lemU3_ok x hx e
  | false =>
  rw [h0] at hx
  cases hx
def aks : List AL := [.by]
def ext : List X := []
theorem aks_ok : Tryd.f5.params.toList.mapM (alkind Tryd.prog) = some aks := by kernel_rfl
theorem as_ok : ∀ x ∈ ext, ∀ e : En, (∀ f ∈ facL aks 0, f.r.has (f.e.I e)) → x.B e = true := by
  intro x hx e hf
  cases hx
def cs0 : X := (.o .and few3 (.o .and (.o .eq (okI (.v 0)) (.i 1)) (.o .and (.o .eq (nfI ur0) (.i 1)) (.o .and (.u .not (.o .lt (.i 1000) (rlen ur0))) (.o .and (.u .not (.o .lt (.i 3000) (.u .len pku))) (eq2 (.u .len pku) lenB))))))
def cs1 : X := (.o .and few3 (.o .eq (okI (.v 0)) (.i 0)))
def cs2 : X := .o .lt (.i 3000) lenB
def cs : List X := [cs0, cs1, cs2]
theorem cs_ok : ∀ e : En, (∀ f ∈ facL aks 0, f.r.has (f.e.I e)) → ∃ c ∈ cs, c.B e = true := by
  intro e hf
  by_cases hfw : (3000 : Int) < (((e.ρ 0).toS.length : Nat) : Int)
  · exact ⟨cs2, by simp [cs], decide_eq_true hfw⟩
  have hf1 : few3.B e = true := nlt_in hfw
  cases hn : okU (e.ρ 0).toS with
  | true =>
    refine ⟨cs0, by simp [cs], and_B hf1 (and_B (eq_in ((okI_1 e (.v 0)).2 hn)) (and_B (eq_in ((nfI_1 e ur0).2 ?_)) (and_B (nlt_in ?_) (and_B (nlt_in ?_) (eq2_in ?_)))))⟩
    · exact Nat.le_of_eq (ur_back hn).1.symm
    · show ¬ (1000 : Int) < (((urF (e.ρ 0).toS).length : Nat) : Int)
      have := ur_len (e.ρ 0).toS
      omega
    · show ¬ (3000 : Int) < (((pku.S e).length : Nat) : Int)
      rw [pku_S e hn]; exact hfw
    · show (((pku.S e).length : Nat) : Int) = (((e.ρ 0).toS.length : Nat) : Int)
      rw [pku_S e hn]
  | false => exact ⟨cs1, by simp [cs], and_B hf1 (eq_in ((okI_0 e (.v 0)).2 hn))⟩
theorem tree0 : prvF 40 LpU lmU (fun g v _ => finTrue 40 g v) (assume (gL aks ext) cs0) [] (treeOf T Wsm CJ 300 20 5 (assume (gL aks ext) cs0) (symL aks 0 0) (memL aks 0)) = true := by kernel_rfl
theorem tree1 : prvF 40 LpU lmU (fun g v _ => finTrue 40 g v) (assume (gL aks ext) cs1) [] (treeOf T Wsm CJ 300 20 5 (assume (gL aks ext) cs1) (symL aks 0 0) (memL aks 0)) = true := by kernel_rfl
theorem tree2 : prvF 40 LpU lmU (fun g v _ => finTrue 40 g v) (assume (gL aks ext) cs2) [] (treeOf T Wsm CJ 300 20 5 (assume (gL aks ext) cs2) (symL aks 0 0) (memL aks 0)) = true := by kernel_rfl
theorem trees : ∀ c ∈ cs, prvF 40 LpU lmU (fun g v _ => finTrue 40 g v) (assume (gL aks ext) c) [] (treeOf T Wsm CJ 300 20 5 (assume (gL aks ext) c) (symL aks 0 0) (memL aks 0)) = true := by
  intro c hc
  simp only [cs, List.mem_cons, List.not_mem_nil, or_false] at hc
  rcases hc with rfl | rfl | rfl
  · exact tree0
  · exact tree1
  · exact tree2
theorem witness_row (os : Os) {H : Type} (enc : TypeId × Value → H) :
    (OpenSpec.ofChange Rows.traceUnpacksSpec).preRow enc Tryd.prog Tryd.f5 Rows.traceUnpacksRow.domain false Rows.traceUnpacksRow.laid ((laidWorld os).forCall (fun _ _ => 0) ⟨#[], #[.slice none 0 0], []⟩).memory #[.slice none 0 0] := by
  have hw : (DataW.whole enc Tryd.prog ((laidWorld os).forCall (fun _ _ => 0) ⟨#[], #[.slice none 0 0], []⟩).memory Tryd.f5.params.toList (OpenSpec.ofChange Rows.traceUnpacksSpec).vars false (#[.slice none 0 0] : Array Value).toList 8).isSome = true := by kernel_rfl
  obtain ⟨x, hx⟩ := Option.isSome_iff_exists.1 hw
  exact OpenSpec.preRow_of_cond 8 hx rfl (fun k hk => by cases hk) (by kernel_rfl) (laid_met os _)
set_option maxHeartbeats 2000000 in
theorem lifted (os : Os) (started : os.Started) (H : Type) (enc : TypeId × Value → H) (F : Stop.Interp) :
    ReturnsInHanded {} Tryd.checked os 5 .any ((OpenSpec.ofChange Rows.traceUnpacksSpec).preRow enc Tryd.prog Tryd.f5 Rows.traceUnpacksRow.domain false Rows.traceUnpacksRow.laid) (((OpenSpec.ofChange Rows.traceUnpacksSpec).at F).post enc Tryd.prog Tryd.f5 false true false false) := by
  refine returnsInHanded_of_row (C := Tryd.checked) (s := OpenSpec.ofChange Rows.traceUnpacksSpec) own started (by kernel_rfl) Tryd.func5
    (witness_row_atRef (enc := enc) (C := Tryd.checked) false (laidWorld os) #[.slice none 0 0] rfl (by kernel_rfl) (by kernel_rfl) (by kernel_rfl) (witness_row os enc)) ?_
  intro W base args ds gs before hval0 hW _ _ _ _ hsh _
  have hval : ∀ (j : Nat) t v, Tryd.f5.params.toList[j]? = some t → args[j]? = some v → Value.okWide Tryd.prog W .any base t v := fun j t v h1 h2 => hval0 j t v (by simpa using h1) h2
  have hW' := hW
  obtain ⟨p, q, hA0, hV, rfl, hfz, hnd⟩ := hW
  have hA : DataW.TrodAll enc Tryd.prog W 0 (fun _ => true) true Tryd.f5.params.toList args.toList ds p := hA0
  have hk := hA
  rw [Tryd.params5] at hA
  obtain ⟨v0, vs0, d0, ds0, p0, q0, hargs0, rfl, rfl, h0, r0⟩ := trodAll_cons hA
  obtain ⟨rfl, rfl, rfl⟩ := trodAll_nil r0
  obtain ⟨rfl, rfl⟩ := trodVars_none hV
  simp only [List.append_nil] at hW' hk
  refine (law_callsF (T := T) CJ_ok rfl (LpU_ok) (lmU_ok) aks_ok as_ok cs_ok trees (fun _ => rfl) hk hval (good_of_shape hsh)).mono fun e W' ⟨he, bel⟩ => ?_
  subst he
  exact ⟨_, rfl, _, _, _, [], _, [], hW', trodAll_cons_mk (shut_bool Tryd.underlying4 true) trodAll_mk0, trodAll_keep laidOut hk (by kernel_rfl) bel (fun x hx => by simpa using hW'.lt x hx), rfl, bel.frame _, fun h => by cases h⟩
theorem over : Rows.TraceUnpacksSaid :=
  OpenClaim.holds_of_cond 5 Tryd.f5 rfl rfl rfl rfl rfl rfl rfl ⟨rfl, rfl, rfl, rfl, rfl⟩ rfl rfl rfl rfl rfl (by kernel_rfl) Tryd.func5 (by kernel_rfl)
    (of_decide_eq_true (by kernel_rfl)) (by unfold Func.isWrapper; first | (rw [if_pos (by decide +kernel)]; kernel_rfl) | (rw [if_neg (by decide +kernel)]; exact ⟨rfl, rfl⟩))
    (fun os started H enc _ F0 => by rw [OpenClaim.pre_eq_preRow]; exact lifted os started H enc F0)
theorem card_holds : Rows.TraceUnpacksCardSaid :=
  Claim7.holds_tied_plain_at .later [] [.data, .pinned] true (true, "66250c5cb7edaa95260dea6d9912e001b94eabe5d011c1a062c2fe32f5e3d6f5") false
    over (fun _ h => by cases h) (by kernel_rfl) (fun _ h => by cases h) traceUnpacks_row_tie rfl ⟨rfl, rfl⟩ (by kernel_rfl) rfl
    (fun f fn hf hfn => by
      obtain rfl : f = 5 := Option.some.inj ((show Tryd.prog.funcNamed "gannet/gannetlaw36.TraceUnpacks" = some 5 by kernel_rfl).symm.trans hf) |>.symm
      obtain rfl : fn = Tryd.f5 := (Option.some.inj (Tryd.func5.symm.trans hfn)).symm
      exact ⟨by kernel_rfl, fun j t ht => by
        rw [Tryd.params5] at ht
        rcases j with _ | j
        · obtain rfl : (33 : TypeId) = t := by simpa using ht
          exact (show Tryd.prog.wantsStandIn 33 = false by kernel_rfl)
        · simp at ht⟩)
    (by kernel_rfl)
end Go.Proofs.YtjcpcnoakphecaaDoor.traceUnpacks
