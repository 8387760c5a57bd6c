/-
  The law OpcodeWalks: whatever the input, the call returns true and its arguments read as before. Conditions: none.
-/
import Derived.Test.YtjcpcnoakphecaaDoorOpR
import Derived.ProofKit
import Derived.OpenShut
import Derived.JoinedCond
import Derived.Deep.DeepHandedRow
import Derived.Deep.DeepWitnessRowRef
import Derived.Stop.Joined
import Derived.KernelRfl
import Derived.Test.YtjcpcnoakphecaaDoorLaidT
import Derived.Test.YtjcpcnoakphecaaDoorTie
import Derived.Test.YtjcpcnoakphecaaDoorCards
import Derived.SevenTiedAt
namespace Go.Proofs.YtjcpcnoakphecaaDoor.opcodeWalks
open Go Go.AE Go.SX Go.ChangeShapes Go.WideShapes Go.ChangeAt Go.RowKit
set_option maxRecDepth 1000000
set_option linter.unusedVariables false
set_option linter.unusedSimpArgs false
def LpW : Nat → Option LJ := fun n => bif Nat.beq n 1 then some ⟨wk1, mkSub (addI len0 8) (.v 1), none⟩ else bif Nat.beq n 4 then some ⟨wl4, mkSub rl2 (.v 4), none⟩ else none
theorem LpW_ok : ∀ n li g, LpW n = some li → li.fn = some g → IsLoop g := fun n li g hl hg => by
  unfold LpW at hl
  cases h0 : Nat.beq n 1 with
  | true => rw [h0] at hl; cases hl; cases hg
  | false =>
  rw [h0] at hl
  cases h1 : Nat.beq n 4 with
  | true => rw [h1] at hl; cases hl; cases hg
  | false =>
  rw [h1] at hl
  cases hl
def shortX (a : X) : X := .o .lt (.o .add (mulC a (-1)) len0) (szN a)
def lemW5 : List X := [impS (.o .and (.o .eq (.v 1) (.v 5)) (shortX (.v 1))) (shortX (.v 5))]
theorem lemW5_ok : ∀ x ∈ lemW5, ∀ e : En, x.B e = true := all_cons' (fun e => impS_ok fun h => by
  obtain ⟨h1, h2⟩ := and_out h
  have h1 : (e.ρ 1).toI = (e.ρ 5).toI := of_decide_eq_true h1
  have h2 : (mulC (.v 1) (-1)).I e + (((e.ρ 0).toS.length : Nat) : Int) < (szN (.v 1)).I e := lt_out h2
  rw [mulC_I, szN_I] at h2
  refine decide_eq_true ?_
  show (mulC (.v 5) (-1)).I e + (((e.ρ 0).toS.length : Nat) : Int) < (szN (.v 5)).I e
  rw [mulC_I, szN_I]
  have h3 : (X.v 1).I e = (X.v 5).I e := h1
  rw [← h3]
  exact h2) all_nil'
def endC : X := .o .and (.o .eq (.v 1) (.v 5)) (.u .not (.o .lt len0 (.v 5)))
def endV : X := .t .b (.o .and endC (.u .not (.o .eq (.v 5) len0))) (shortX (.v 5)) endC
def endN : X := .o .or (.u .not (.o .and endC (.u .not (.o .eq (.v 5) len0)))) (.o .lt (.v 5) len0)
theorem endN_ok (e : En) : endN.B e = true := by
  show (!((decide ((e.ρ 1).toI = (e.ρ 5).toI) && !decide ((((e.ρ 0).toS.length : Nat) : Int) < (e.ρ 5).toI)) && !decide ((e.ρ 5).toI = (((e.ρ 0).toS.length : Nat) : Int))) || decide ((e.ρ 5).toI < (((e.ρ 0).toS.length : Nat) : Int))) = true
  rcases Int.lt_trichotomy (e.ρ 5).toI (((e.ρ 0).toS.length : Nat) : Int) with h | h | h
  · rw [decide_eq_true h]; simp
  · rw [decide_eq_true h]; simp
  · rw [decide_eq_true (p := (((e.ρ 0).toS.length : Nat) : Int) < (e.ρ 5).toI) h]; simp
def lemW6 : List X := [endN, impS (.o .and (.o .and (.o .and wk1 wl4) (.u .not (.o .lt (.v 4) rl2))) (.o .or (.u .not (.o .lt (.v 1) len0)) (shortX (.v 1)))) endV]
theorem lemW6_ok : ∀ x ∈ lemW6, ∀ e : En, x.B e = true := all_cons' endN_ok (all_cons' (fun e => impS_ok fun h => by
  obtain ⟨h1, h2⟩ := and_out h
  obtain ⟨h1, hi⟩ := and_out h1
  obtain ⟨hw, hl⟩ := and_out h1
  have hw := (wkX_iff e _ _ _).1 hw
  have h3 : (e.ρ 1).toI = (e.ρ 5).toI := wl_end hw ((wlX_iff e _ _ _ _).1 hl) (nlt_out hi)
  have h4 : (e.ρ 1).toI ≤ (((e.ρ 0).toS.length : Nat) : Int) := hw.2.2.2.1
  have hc : endC.B e = true := and_B (eq_in h3) (nlt_in (by show ¬ (((e.ρ 0).toS.length : Nat) : Int) < (e.ρ 5).toI; omega))
  show (bif endC.B e && !decide ((e.ρ 5).toI = (((e.ρ 0).toS.length : Nat) : Int)) then (shortX (.v 5)).B e else endC.B e) = true
  rw [hc]
  cases hd : decide ((e.ρ 5).toI = (((e.ρ 0).toS.length : Nat) : Int)) with
  | true => rfl
  | false =>
    have hd := of_decide_eq_false hd
    show (shortX (.v 5)).B e = true
    have h2 : ((!decide ((e.ρ 1).toI < (((e.ρ 0).toS.length : Nat) : Int))) || (shortX (.v 1)).B e) = true := h2
    rw [decide_eq_true (by omega)] at h2
    have h2 : (shortX (.v 1)).B e = true := h2
    have h2 : (mulC (.v 1) (-1)).I e + (((e.ρ 0).toS.length : Nat) : Int) < (szN (.v 1)).I e := lt_out h2
    rw [mulC_I, szN_I] at h2
    refine decide_eq_true ?_
    show (mulC (.v 5) (-1)).I e + (((e.ρ 0).toS.length : Nat) : Int) < (szN (.v 5)).I e
    rw [mulC_I, szN_I]
    have h5 : (X.v 1).I e = (X.v 5).I e := h3
    rw [← h5]
    exact h2) all_nil')
theorem lemW45_ok : ∀ x ∈ lemW4 ++ (lemW5 ++ lemW6), ∀ e : En, x.B e = true := fun x hx => (List.mem_append.1 hx).elim (lemW4_ok x) fun hx => (List.mem_append.1 hx).elim (lemW5_ok x) (lemW6_ok x)
def lmW : Nat → List X := fun n => bif Nat.beq n 1 then lemW1 else bif Nat.beq n 4 then (lemW4 ++ (lemW5 ++ lemW6)) else []
theorem lmW_ok : ∀ b, ∀ x ∈ lmW b, ∀ e : En, x.B e = true := fun n x hx e => by
  unfold lmW at hx
  cases h0 : Nat.beq n 1 with
  | true => rw [h0] at hx; exact lemW1_ok x hx e
  | false =>
  rw [h0] at hx
  cases h1 : Nat.beq n 4 with
  | true => rw [h1] at hx; exact lemW45_ok x hx e
  | false =>
  rw [h1] at hx
  cases hx
def WqW : FuncId → Nat → List (Hint Tryd.prog) := fun n k => bif Nat.beq n 12 then (bif Nat.beq k 0 then [.t 6 (some 0) (some 1000), .t 5 (some 0) (some 1000)] else []) else bif Nat.beq n 52 then [.t 5 (some 0) (some 1000), .l 4 3 (some 1000)] else []

def aks : List AL := [.by]
def ext : List X := [wkX (.v 0) (.i 0) (.o .rtake .nil (.i 0))]
theorem aks_ok : Tryd.f12.params.toList.mapM (alkind Tryd.prog) = some aks := by kernel_rfl
theorem as_ok : ∀ x ∈ ext, ∀ e : En, (∀ f ∈ facL aks 0, f.r.has (f.e.I e)) → x.B e = true := by
  intro x hx e hf
  obtain rfl := List.mem_singleton.1 hx
  exact wk_init e
def cs0 : X := .b true
def cs : List X := [cs0]
theorem cs_ok : ∀ e : En, (∀ f ∈ facL aks 0, f.r.has (f.e.I e)) → ∃ c ∈ cs, c.B e = true := by
  intro e hf
  exact ⟨_, List.mem_cons_self, rfl⟩
theorem tree0 : prvF 40 LpW lmW (fun g v _ => finTrue 40 g v) (assume (gL aks ext) cs0) [] (treeOf T WqW CO1 300 20 12 (assume (gL aks ext) cs0) (symL aks 0 0) (memL aks 0)) = true := by kernel_rfl
theorem trees : ∀ c ∈ cs, prvF 40 LpW lmW (fun g v _ => finTrue 40 g v) (assume (gL aks ext) c) [] (treeOf T WqW CO1 300 20 12 (assume (gL aks ext) c) (symL aks 0 0) (memL aks 0)) = true := by
  intro c hc
  simp only [cs, List.mem_cons, List.not_mem_nil, or_false] at hc
  rcases hc with rfl
  · exact tree0
theorem witness_row (os : Os) {H : Type} (enc : TypeId × Value → H) :
    (OpenSpec.ofChange Rows.opcodeWalksSpec).preRow enc Tryd.prog Tryd.f12 Rows.opcodeWalksRow.domain false Rows.opcodeWalksRow.laid ((laidWorld os).forCall (fun _ _ => 0) ⟨#[], #[.slice none 0 0], []⟩).memory #[.slice none 0 0] := by
  have hw : (DataW.whole enc Tryd.prog ((laidWorld os).forCall (fun _ _ => 0) ⟨#[], #[.slice none 0 0], []⟩).memory Tryd.f12.params.toList (OpenSpec.ofChange Rows.opcodeWalksSpec).vars false (#[.slice none 0 0] : Array Value).toList 8).isSome = true := by kernel_rfl
  obtain ⟨x, hx⟩ := Option.isSome_iff_exists.1 hw
  exact OpenSpec.preRow_of_cond 8 hx rfl (fun k hk => by cases hk) (by kernel_rfl) (laid_met os _)
set_option maxHeartbeats 2000000 in
theorem lifted (os : Os) (started : os.Started) (H : Type) (enc : TypeId × Value → H) (F : Stop.Interp) :
    ReturnsInHanded {} Tryd.checked os 12 .any ((OpenSpec.ofChange Rows.opcodeWalksSpec).preRow enc Tryd.prog Tryd.f12 Rows.opcodeWalksRow.domain false Rows.opcodeWalksRow.laid) (((OpenSpec.ofChange Rows.opcodeWalksSpec).at F).post enc Tryd.prog Tryd.f12 false true false false) := by
  refine returnsInHanded_of_row (C := Tryd.checked) (s := OpenSpec.ofChange Rows.opcodeWalksSpec) own started (by kernel_rfl) Tryd.func12
    (witness_row_atRef (enc := enc) (C := Tryd.checked) false (laidWorld os) #[.slice none 0 0] rfl (by kernel_rfl) (by kernel_rfl) (by kernel_rfl) (witness_row os enc)) ?_
  intro W base args ds gs before hval0 hW _ _ _ _ hsh _
  have hval : ∀ (j : Nat) t v, Tryd.f12.params.toList[j]? = some t → args[j]? = some v → Value.okWide Tryd.prog W .any base t v := fun j t v h1 h2 => hval0 j t v (by simpa using h1) h2
  have hW' := hW
  obtain ⟨p, q, hA0, hV, rfl, hfz, hnd⟩ := hW
  have hA : DataW.TrodAll enc Tryd.prog W 0 (fun _ => true) true Tryd.f12.params.toList args.toList ds p := hA0
  have hk := hA
  rw [Tryd.params12] at hA
  obtain ⟨v0, vs0, d0, ds0, p0, q0, hargs0, rfl, rfl, h0, r0⟩ := trodAll_cons hA
  obtain ⟨rfl, rfl, rfl⟩ := trodAll_nil r0
  obtain ⟨rfl, rfl⟩ := trodVars_none hV
  simp only [List.append_nil] at hW' hk
  refine (law_callsF (T := T) CO1_ok rfl (LpW_ok) (lmW_ok) aks_ok as_ok cs_ok trees (fun _ => rfl) hk hval (good_of_shape hsh)).mono fun e W' ⟨he, bel⟩ => ?_
  subst he
  exact ⟨_, rfl, _, _, _, [], _, [], hW', trodAll_cons_mk (shut_bool Tryd.underlying4 true) trodAll_mk0, trodAll_keep laidOut hk (by kernel_rfl) bel (fun x hx => by simpa using hW'.lt x hx), rfl, bel.frame _, fun h => by cases h⟩
theorem over : Rows.OpcodeWalksSaid :=
  OpenClaim.holds_of_cond 12 Tryd.f12 rfl rfl rfl rfl rfl rfl rfl ⟨rfl, rfl, rfl, rfl, rfl⟩ rfl rfl rfl rfl rfl (by kernel_rfl) Tryd.func12 (by kernel_rfl)
    (of_decide_eq_true (by kernel_rfl)) (by unfold Func.isWrapper; first | (rw [if_pos (by decide +kernel)]; kernel_rfl) | (rw [if_neg (by decide +kernel)]; exact ⟨rfl, rfl⟩))
    (fun os started H enc _ F0 => by rw [OpenClaim.pre_eq_preRow]; exact lifted os started H enc F0)
theorem card_holds : Rows.OpcodeWalksCardSaid :=
  Claim7.holds_tied_plain_at .later [] [.data, .pinned] true (true, "66250c5cb7edaa95260dea6d9912e001b94eabe5d011c1a062c2fe32f5e3d6f5") false
    over (fun _ h => by cases h) (by kernel_rfl) (fun _ h => by cases h) opcodeWalks_row_tie rfl ⟨rfl, rfl⟩ (by kernel_rfl) rfl
    (fun f fn hf hfn => by
      obtain rfl : f = 12 := Option.some.inj ((show Tryd.prog.funcNamed "gannet/gannetlaw23.OpcodeWalks" = some 12 by kernel_rfl).symm.trans hf) |>.symm
      obtain rfl : fn = Tryd.f12 := (Option.some.inj (Tryd.func12.symm.trans hfn)).symm
      exact ⟨by kernel_rfl, fun j t ht => by
        rw [Tryd.params12] at ht
        rcases j with _ | j
        · obtain rfl : (33 : TypeId) = t := by simpa using ht
          exact (show Tryd.prog.wantsStandIn 33 = false by kernel_rfl)
        · simp at ht⟩)
    (by kernel_rfl)
end Go.Proofs.YtjcpcnoakphecaaDoor.opcodeWalks
