/-
  The law ModesText: whatever the input, the call returns true and its arguments read as before. Conditions: none.
-/
import Derived.Test.YtjcpcnoakphecaaDoorTxF
import Derived.ProofKit
import Derived.OpenShut
import Derived.JoinedCond
import Derived.Deep.DeepHandedRow
import Derived.Deep.DeepWitnessRowRef
import Derived.Stop.Joined
import Derived.KernelRfl
import Derived.Test.YtjcpcnoakphecaaDoorLaidT
import Derived.Test.YtjcpcnoakphecaaDoorTie
import Derived.Test.YtjcpcnoakphecaaDoorCards
import Derived.SevenTiedAt
namespace Go.Proofs.YtjcpcnoakphecaaDoor.modesText
open Go Go.AE Go.SX Go.ChangeShapes Go.WideShapes Go.ChangeAt Go.RowKit
set_option maxRecDepth 1000000
set_option linter.unusedVariables false
set_option linter.unusedSimpArgs false
noncomputable def LpM : Nat → Option LJ := fun n => bif Nat.beq n 2 then some ⟨inv1, (.v 3), none⟩ else bif Nat.beq n 8 then some ⟨inv2, mkSub lenB (.v 9), none⟩ else none
theorem LpM_ok : ∀ n li g, LpM n = some li → li.fn = some g → IsLoop g := fun n li g hl hg => by
  unfold LpM at hl
  cases h0 : Nat.beq n 2 with
  | true => rw [h0] at hl; cases hl; cases hg
  | false =>
  rw [h0] at hl
  cases h1 : Nat.beq n 8 with
  | true => rw [h1] at hl; cases hl; cases hg
  | false =>
  rw [h1] at hl
  cases hl
noncomputable def lemA2 : List X := lkX (.i 0) (.i 0) :: lemA
theorem lemA2_ok : AllB lemA2 := allB1 ext2 lemA_ok
def extM : List X := [lsX (.i 0) (.v 1) (.o .rtake .nil (.i 0)), .o .eq lenB lenB]
noncomputable def lmM : Nat → List X := fun n => bif Nat.beq n 2 then lemA2 else bif Nat.beq n 8 then lemB else []
theorem lmM_ok : ∀ b, ∀ x ∈ lmM b, ∀ e : En, x.B e = true := fun n x hx e => by
  unfold lmM at hx
  cases h0 : Nat.beq n 2 with
  | true => rw [h0] at hx; exact lemA2_ok x hx e
  | false =>
  rw [h0] at hx
  cases h1 : Nat.beq n 8 with
  | true => rw [h1] at hx; exact lemB_ok x hx e
  | false =>
  rw [h1] at hx
  cases hx
def aks : List AL := [.by, .z (.i .u16)]
def ext : List X := extM
theorem aks_ok : Tryd.f7.params.toList.mapM (alkind Tryd.prog) = some aks := by kernel_rfl
theorem as_ok : ∀ x ∈ ext, ∀ e : En, (∀ f ∈ facL aks 0, f.r.has (f.e.I e)) → x.B e = true := by
  intro x hx e hf
  have h : (⟨.v 1, ⟨some 0, some 65535⟩⟩ : Fact).r.has ((e.ρ 1).toI) := hf ⟨.v 1, ⟨some 0, some 65535⟩⟩ (by first | exact .head _ | exact .tail _ (.head _))
  have h0 : 0 ≤ (e.ρ 1).toI := h.1 _ rfl
  have h1 : (e.ρ 1).toI ≤ 65535 := h.2 _ rfl
  exact (all_cons' (P := fun x : X => x.B e = true) (ext1 e h0 h1) (all_cons' (P := fun x : X => x.B e = true) (eq_in rfl) all_nil')) x hx
def cs0 : X := .o .eq lenB (.i 0)
def cs1 : X := .o .and few (.u .not (.o .lt lenB (.i 1)))
def cs2 : X := .o .lt (.i 300) lenB
def cs : List X := [cs0, cs1, cs2]
theorem cs_ok : ∀ e : En, (∀ f ∈ facL aks 0, f.r.has (f.e.I e)) → ∃ c ∈ cs, c.B e = true := by
  intro e hf
  by_cases h0 : (300 : Int) < (((e.ρ 0).toS.length : Nat) : Int)
  · exact ⟨cs2, by simp [cs], decide_eq_true h0⟩
  by_cases h1 : (((e.ρ 0).toS.length : Nat) : Int) = 0
  · exact ⟨cs0, by simp [cs], decide_eq_true h1⟩
  exact ⟨cs1, by simp [cs], and_B (nlt_in h0) (nlt_in (by show ¬ (((e.ρ 0).toS.length : Nat) : Int) < 1; omega))⟩
theorem tree0 : prvF 40 LpM lmM (fun g v _ => finTrue 40 g v) (assume (gL aks ext) cs0) [] (treeOf T Wmt CE 300 20 7 (assume (gL aks ext) cs0) (symL aks 0 0) (memL aks 0)) = true := by kernel_rfl
theorem tree1 : prvF 40 LpM lmM (fun g v _ => finTrue 40 g v) (assume (gL aks ext) cs1) [] (treeOf T Wmt CE 300 20 7 (assume (gL aks ext) cs1) (symL aks 0 0) (memL aks 0)) = true := by kernel_rfl
theorem tree2 : prvF 40 LpM lmM (fun g v _ => finTrue 40 g v) (assume (gL aks ext) cs2) [] (treeOf T Wmt CE 300 20 7 (assume (gL aks ext) cs2) (symL aks 0 0) (memL aks 0)) = true := by kernel_rfl
theorem trees : ∀ c ∈ cs, prvF 40 LpM lmM (fun g v _ => finTrue 40 g v) (assume (gL aks ext) c) [] (treeOf T Wmt CE 300 20 7 (assume (gL aks ext) c) (symL aks 0 0) (memL aks 0)) = true := by
  intro c hc
  simp only [cs, List.mem_cons, List.not_mem_nil, or_false] at hc
  rcases hc with rfl | rfl | rfl
  · exact tree0
  · exact tree1
  · exact tree2
theorem witness_row (os : Os) {H : Type} (enc : TypeId × Value → H) :
    (OpenSpec.ofChange Rows.modesTextSpec).preRow enc Tryd.prog Tryd.f7 Rows.modesTextRow.domain false Rows.modesTextRow.laid ((laidWorld os).forCall (fun _ _ => 0) ⟨#[], #[.slice none 0 0, .int .u16 0], []⟩).memory #[.slice none 0 0, .int .u16 0] := by
  have hw : (DataW.whole enc Tryd.prog ((laidWorld os).forCall (fun _ _ => 0) ⟨#[], #[.slice none 0 0, .int .u16 0], []⟩).memory Tryd.f7.params.toList (OpenSpec.ofChange Rows.modesTextSpec).vars false (#[.slice none 0 0, .int .u16 0] : Array Value).toList 8).isSome = true := by kernel_rfl
  obtain ⟨x, hx⟩ := Option.isSome_iff_exists.1 hw
  exact OpenSpec.preRow_of_cond 8 hx rfl (fun k hk => by cases hk) (by kernel_rfl) (laid_met os _)
set_option maxHeartbeats 2000000 in
theorem lifted (os : Os) (started : os.Started) (H : Type) (enc : TypeId × Value → H) (F : Stop.Interp) :
    ReturnsInHanded {} Tryd.checked os 7 .any ((OpenSpec.ofChange Rows.modesTextSpec).preRow enc Tryd.prog Tryd.f7 Rows.modesTextRow.domain false Rows.modesTextRow.laid) (((OpenSpec.ofChange Rows.modesTextSpec).at F).post enc Tryd.prog Tryd.f7 false true false false) := by
  refine returnsInHanded_of_row (C := Tryd.checked) (s := OpenSpec.ofChange Rows.modesTextSpec) own started (by kernel_rfl) Tryd.func7
    (witness_row_atRef (enc := enc) (C := Tryd.checked) false (laidWorld os) #[.slice none 0 0, .int .u16 0] rfl (by kernel_rfl) (by kernel_rfl) (by kernel_rfl) (witness_row os enc)) ?_
  intro W base args ds gs before hval0 hW _ _ _ _ hsh _
  have hval : ∀ (j : Nat) t v, Tryd.f7.params.toList[j]? = some t → args[j]? = some v → Value.okWide Tryd.prog W .any base t v := fun j t v h1 h2 => hval0 j t v (by simpa using h1) h2
  have hW' := hW
  obtain ⟨p, q, hA0, hV, rfl, hfz, hnd⟩ := hW
  have hA : DataW.TrodAll enc Tryd.prog W 0 (fun _ => true) true Tryd.f7.params.toList args.toList ds p := hA0
  have hk := hA
  rw [Tryd.params7] at hA
  obtain ⟨v0, vs0, d0, ds0, p0, q0, hargs0, rfl, rfl, h0, r0⟩ := trodAll_cons hA
  obtain ⟨v1, vs1, d1, ds1, p1, q1, hargs1, rfl, rfl, h1, r1⟩ := trodAll_cons r0
  obtain ⟨rfl, rfl, rfl⟩ := trodAll_nil r1
  obtain ⟨rfl, rfl⟩ := trodVars_none hV
  simp only [List.append_nil] at hW' hk
  refine (law_callsF (T := T) CE_ok rfl (LpM_ok) (lmM_ok) aks_ok as_ok cs_ok trees (fun _ => rfl) hk hval (good_of_shape hsh)).mono fun e W' ⟨he, bel⟩ => ?_
  subst he
  exact ⟨_, rfl, _, _, _, [], _, [], hW', trodAll_cons_mk (shut_bool Tryd.underlying4 true) trodAll_mk0, trodAll_keep laidOut hk (by kernel_rfl) bel (fun x hx => by simpa using hW'.lt x hx), rfl, bel.frame _, fun h => by cases h⟩
theorem over : Rows.ModesTextSaid :=
  OpenClaim.holds_of_cond 7 Tryd.f7 rfl rfl rfl rfl rfl rfl rfl ⟨rfl, rfl, rfl, rfl, rfl⟩ rfl rfl rfl rfl rfl (by kernel_rfl) Tryd.func7 (by kernel_rfl)
    (of_decide_eq_true (by kernel_rfl)) (by unfold Func.isWrapper; first | (rw [if_pos (by decide +kernel)]; kernel_rfl) | (rw [if_neg (by decide +kernel)]; exact ⟨rfl, rfl⟩))
    (fun os started H enc _ F0 => by rw [OpenClaim.pre_eq_preRow]; exact lifted os started H enc F0)
theorem card_holds : Rows.ModesTextCardSaid :=
  Claim7.holds_tied_plain_at .later [] [.data, .pinned] true (true, "66250c5cb7edaa95260dea6d9912e001b94eabe5d011c1a062c2fe32f5e3d6f5") false
    over (fun _ h => by cases h) (by kernel_rfl) (fun _ h => by cases h) modesText_row_tie rfl ⟨rfl, rfl⟩ (by kernel_rfl) rfl
    (fun f fn hf hfn => by
      obtain rfl : f = 7 := Option.some.inj ((show Tryd.prog.funcNamed "gannet/gannetlaw24.ModesText" = some 7 by kernel_rfl).symm.trans hf) |>.symm
      obtain rfl : fn = Tryd.f7 := (Option.some.inj (Tryd.func7.symm.trans hfn)).symm
      exact ⟨by kernel_rfl, fun j t ht => by
        rw [Tryd.params7] at ht
        rcases j with _ | j
        · obtain rfl : (33 : TypeId) = t := by simpa using ht
          exact (show Tryd.prog.wantsStandIn 33 = false by kernel_rfl)
        rcases j with _ | j
        · obtain rfl : (54 : TypeId) = t := by simpa using ht
          exact (show Tryd.prog.wantsStandIn 54 = false by kernel_rfl)
        · simp at ht⟩)
    (by kernel_rfl)
end Go.Proofs.YtjcpcnoakphecaaDoor.modesText
