/-
  The law EnterPushes: whatever the input, the call returns true and its arguments read as before. Conditions: none.
-/
import Derived.Test.YtdfcddldjeohaaaFam
import Derived.ProofKit
import Derived.OpenShut
import Derived.JoinedCond
import Derived.Deep.DeepHandedRow
import Derived.Deep.DeepWitnessRowRef
import Derived.Stop.Joined
import Derived.KernelRfl
namespace Go.Proofs.Ytdfcddldjeohaaa.enterPushes
open Go Go.AE Go.SX Go.ChangeShapes Go.WideShapes Go.ChangeAt Go.RowKit
set_option maxRecDepth 1000000
set_option linter.unusedVariables false
set_option linter.unusedSimpArgs false
def CE := conTab [(14, conCall cPush), (16, conCall cEnt)]
theorem CE_ok : ∀ n c, CE n = some c → ConOk T n c := conTab_ok fun p hp => by
  simp only [List.mem_cons, List.not_mem_nil, or_false] at hp
  rcases hp with rfl | rfl
  · exact con122.ok
  · exact con125.ok
theorem b1 : ∀ n : Nat, n < 256 → decide (bits .and .u8 (fPushed n false : Nat) 48 = 0) = true := by decide +kernel
theorem b2 : ∀ n : Nat, n < 256 → decide (bits .or .u8 (bits .or .u8 (fPushed n false : Nat) 32) 16 = bits .or .u8 (bits .or .u8 n 32) 16) = true := by decide +kernel
theorem b3 : ∀ n : Nat, n < 256 → decide (bits .and .u8 (fEnt n : Nat) 44 = 4) = true := by decide +kernel
def aks : List AL := [.z (.i .u8), .st [.i .u8, .i .u8, .i .u8, .i .u8, .i .u8, .i .u16, .i .u8, .i .u8, .i .u8, .i .u8, .i .u8, .i .u8, .i .u8, .i .u8, .i .u8, .b]]
def ext : List X := [.o .eq (.ap 1 (.o .pair (.i 32) (.b false))) (.i 0), .o .eq (.ap 2 (.i 0)) (.i 4), .o .eq (.o .add (.o .emod (.v 6) (.i 256)) (.o .mul (.o .ediv (.v 6) (.i 256)) (.i 256))) (.v 6), .o .eq (.o (.bit .and .u8) (.ap 1 (.o .pair (.v 5) (.b false))) (.i 48)) (.i 0), .o .eq (.o (.bit .or .u8) (.o (.bit .or .u8) (.ap 1 (.o .pair (.v 5) (.b false))) (.i 32)) (.i 16)) (.o (.bit .or .u8) (.o (.bit .or .u8) (.v 5) (.i 32)) (.i 16)), .o .eq (.o (.bit .and .u8) (.ap 2 (.v 5)) (.i 44)) (.i 4)]
theorem aks_ok : Try.f3.params.toList.mapM (alkind Try.prog) = some aks := by kernel_rfl
theorem as_ok : ∀ x ∈ ext, ∀ e : En, (∀ f ∈ facL aks 0, f.r.has (f.e.I e)) → x.B e = true := by
  intro x hx e hf
  have h5 : (Rg.mk (some 0) (some 255)).has ((X.v 5).I e) := hf ⟨.v 5, ⟨some 0, some 255⟩⟩ (by
    repeat (first | exact List.mem_cons_self | apply List.mem_cons_of_mem))
  obtain ⟨n, hn, hp⟩ : ∃ n : Nat, n < 256 ∧ (e.ρ 5).toI = (n : Int) := ⟨(e.ρ 5).toI.toNat, by
    have h1 := h5.1 _ rfl
    have h2 := h5.2 _ rfl
    simp only [X.I, X.den] at h1 h2
    omega, by
    have h1 := h5.1 _ rfl
    simp only [X.I, X.den] at h1
    omega⟩
  simp only [ext, List.mem_cons, List.not_mem_nil, or_false] at hx
  rcases hx with rfl | rfl | rfl | rfl | rfl | rfl <;> simp only [X.B, X.I, X.den, O.den, Fam.Φ, phi, D.toB, D.fst, D.snd]
  · decide
  · decide
  · refine decide_eq_true ?_
    show (e.ρ 6).toI % 256 + (e.ρ 6).toI / 256 * 256 = (e.ρ 6).toI
    omega
  · show decide (bits .and .u8 (fPushed (e.ρ 5).toI false : Nat) 48 = 0) = true
    rw [hp]; exact b1 n hn
  · show decide (bits .or .u8 (bits .or .u8 (fPushed (e.ρ 5).toI false : Nat) 32) 16 = bits .or .u8 (bits .or .u8 (e.ρ 5).toI 32) 16) = true
    rw [hp]; exact b2 n hn
  · show decide (bits .and .u8 (fEnt (e.ρ 5).toI : Nat) 44 = 4) = true
    rw [hp]; exact b3 n hn
theorem tree : prvT 100 noL noX (finTrue 100) (gL aks ext) [] (treeOf T W0 CE 300 20 3 (gL aks ext) (symL aks 0 0) (memL aks 0)) = true := by kernel_rfl
theorem witness_row (os : Os) {H : Type} (enc : TypeId × Value → H) :
    (OpenSpec.ofChange Rows.enterPushesSpec).preRow enc Try.prog Try.f3 Rows.enterPushesRow.domain false Rows.enterPushesRow.laid ((World.settled Try.prog os).forCall (fun _ _ => 0) ⟨#[], #[.int .u8 0, .agg #[.int .u8 0, .int .u8 0, .int .u8 0, .int .u8 0, .int .u8 0, .int .u16 0, .int .u8 0, .int .u8 0, .int .u8 0, .int .u8 0, .int .u8 0, .int .u8 0, .int .u8 0, .int .u8 0, .int .u8 0, .bool false]], []⟩).memory #[.int .u8 0, .agg #[.int .u8 0, .int .u8 0, .int .u8 0, .int .u8 0, .int .u8 0, .int .u16 0, .int .u8 0, .int .u8 0, .int .u8 0, .int .u8 0, .int .u8 0, .int .u8 0, .int .u8 0, .int .u8 0, .int .u8 0, .bool false]] := by
  have hw : (DataW.whole enc Try.prog ((World.settled Try.prog os).forCall (fun _ _ => 0) ⟨#[], #[.int .u8 0, .agg #[.int .u8 0, .int .u8 0, .int .u8 0, .int .u8 0, .int .u8 0, .int .u16 0, .int .u8 0, .int .u8 0, .int .u8 0, .int .u8 0, .int .u8 0, .int .u8 0, .int .u8 0, .int .u8 0, .int .u8 0, .bool false]], []⟩).memory Try.f3.params.toList (OpenSpec.ofChange Rows.enterPushesSpec).vars false (#[.int .u8 0, .agg #[.int .u8 0, .int .u8 0, .int .u8 0, .int .u8 0, .int .u8 0, .int .u16 0, .int .u8 0, .int .u8 0, .int .u8 0, .int .u8 0, .int .u8 0, .int .u8 0, .int .u8 0, .int .u8 0, .int .u8 0, .bool false]] : Array Value).toList 8).isSome = true := by kernel_rfl
  obtain ⟨x, hx⟩ := Option.isSome_iff_exists.1 hw
  exact OpenSpec.preRow_of_cond 8 hx rfl (fun k hk => by cases hk) (by kernel_rfl) ⟨[], rfl, List.nodup_nil, fun _ _ h => by cases h⟩
set_option maxHeartbeats 2000000 in
theorem lifted (os : Os) (started : os.Started) (H : Type) (enc : TypeId × Value → H) (F : Stop.Interp) :
    ReturnsInHanded {} Try.checked os 3 .any ((OpenSpec.ofChange Rows.enterPushesSpec).preRow enc Try.prog Try.f3 Rows.enterPushesRow.domain false Rows.enterPushesRow.laid) (((OpenSpec.ofChange Rows.enterPushesSpec).at F).post enc Try.prog Try.f3 false true false false) := by
  refine returnsInHanded_of_row (C := Try.checked) (s := OpenSpec.ofChange Rows.enterPushesSpec) own started (by kernel_rfl) Try.func3
    (witness_row_atRef (enc := enc) (C := Try.checked) false (World.settled Try.prog os) #[.int .u8 0, .agg #[.int .u8 0, .int .u8 0, .int .u8 0, .int .u8 0, .int .u8 0, .int .u16 0, .int .u8 0, .int .u8 0, .int .u8 0, .int .u8 0, .int .u8 0, .int .u8 0, .int .u8 0, .int .u8 0, .int .u8 0, .bool false]] rfl (by kernel_rfl) (by kernel_rfl) (by kernel_rfl) (witness_row os enc)) ?_
  intro W base args ds gs before hval0 hW _ _ _ _ _ _
  have hval : ∀ (j : Nat) t v, Try.f3.params.toList[j]? = some t → args[j]? = some v → Value.okWide Try.prog W .any base t v := fun j t v h1 h2 => hval0 j t v (by simpa using h1) h2
  have hW' := hW
  obtain ⟨p, q, hA0, hV, rfl, hfz, hnd⟩ := hW
  have hA : DataW.TrodAll enc Try.prog W 0 (fun _ => true) true Try.f3.params.toList args.toList ds p := hA0
  have hk := hA
  rw [Try.params3] at hA
  obtain ⟨v0, vs0, d0, ds0, p0, q0, hargs0, rfl, rfl, h0, r0⟩ := trodAll_cons hA
  obtain ⟨v1, vs1, d1, ds1, p1, q1, hargs1, rfl, rfl, h1, r1⟩ := trodAll_cons r0
  obtain ⟨rfl, rfl, rfl⟩ := trodAll_nil r1
  obtain ⟨rfl, rfl⟩ := trodVars_none hV
  simp only [List.append_nil] at hW' hk
  refine (law_callsL (T := T) CE_ok rfl (fun _ _ h => by cases h) aks_ok as_ok tree (fun _ => rfl) hk hval trivial).mono fun e W' ⟨he, bel⟩ => ?_
  subst he
  exact ⟨_, rfl, _, _, _, [], _, [], hW', trodAll_cons_mk (shut_bool Try.underlying4 true) trodAll_mk0, trodAll_keep laidOut hk (by kernel_rfl) bel (fun x hx => by simpa using hW'.lt x hx), rfl, bel.frame _, fun h => by cases h⟩
theorem over : Rows.EnterPushesSaid :=
  OpenClaim.holds_of_cond 3 Try.f3 rfl rfl rfl rfl rfl rfl rfl ⟨rfl, rfl, rfl, rfl, rfl⟩ rfl rfl rfl rfl rfl (by kernel_rfl) Try.func3 (by kernel_rfl)
    (of_decide_eq_true (by kernel_rfl)) (by unfold Func.isWrapper; first | (rw [if_pos (by decide +kernel)]; kernel_rfl) | (rw [if_neg (by decide +kernel)]; exact ⟨rfl, rfl⟩))
    (fun os started H enc _ F0 => by rw [OpenClaim.pre_eq_preRow]; exact lifted os started H enc F0)
end Go.Proofs.Ytdfcddldjeohaaa.enterPushes
