/-
  The law TimingBounds: whatever the input, the call returns true and its arguments read as before. Conditions: none.
-/
import Derived.Test.YtjcpcnoakphecaaDoorTmD
import Derived.ProofKit
import Derived.OpenShut
import Derived.JoinedCond
import Derived.Deep.DeepHandedRow
import Derived.Deep.DeepWitnessRowRef
import Derived.Stop.Joined
import Derived.KernelRfl
import Derived.Test.YtjcpcnoakphecaaDoorLaidT
import Derived.Test.YtjcpcnoakphecaaDoorTie
import Derived.Test.YtjcpcnoakphecaaDoorCards
import Derived.SevenTiedAt
namespace Go.Proofs.YtjcpcnoakphecaaDoor.timingBounds
open Go Go.AE Go.SX Go.ChangeShapes Go.WideShapes Go.ChangeAt Go.RowKit
set_option maxRecDepth 1000000
set_option linter.unusedVariables false
set_option linter.unusedSimpArgs false
def liB : X := kdX (alX (.v 0) (.v 1) (.v 2) (.v 3) (.v 4))
def LpT : Nat → Option LJ := fun n => bif Nat.beq n 6 then some ⟨.b true, mkSub (lenX' liB) (.v 6), none⟩ else bif Nat.beq n 8 then some ⟨moPX (.v 5) (.v 8) (.v 9), mkSub (lenX' (.v 5)) (.v 8), none⟩ else none
theorem LpT_ok : ∀ n li g, LpT n = some li → li.fn = some g → IsLoop g := fun n li g hl hg => by
  unfold LpT at hl
  cases h0 : Nat.beq n 6 with
  | true => rw [h0] at hl; cases hl; cases hg
  | false =>
  rw [h0] at hl
  cases h1 : Nat.beq n 8 with
  | true => rw [h1] at hl; cases hl; cases hg
  | false =>
  rw [h1] at hl
  cases hl
def qB : X := .t .i (.o .eq (mdX (.o .nth (.v 5) (.v 8))) (.i 19)) (.i 393233) (lenX' (alT (.o .nth (.v 5) (.v 8))))
def lemB6 : List X := [impS (.o .and (.u .not (.o .lt (.v 6) (.i 1))) (.o .lt (.v 6) (lenX' liB))) (.u .not (.o .or (.o .eq (.o .nth liB (.v 6)) (.i 0)) (.o .lt (.i 7) (.o .nth liB (.v 6)))))]
theorem li_S (e : En) : liB.S e = kdF (allF (e.ρ 0).toI.toNat (e.ρ 1).toB (e.ρ 2).toB (e.ρ 3).toB (e.ρ 4).toI) := by
  unfold liB
  rw [kd_S, al_S]; rfl
theorem lemB6_ok : ∀ x ∈ lemB6, ∀ e : En, x.B e = true := all_cons' (fun e => impS_ok fun h => by
  obtain ⟨h0, h1⟩ := and_out h
  have h0 : ¬ (e.ρ 6).toI < 1 := nlt_out h0
  have h1 : (e.ρ 6).toI < (((liB.S e).length : Nat) : Int) := lt_out h1
  show (!(decide (((((liB.S e).getD (e.ρ 6).toI.toNat 0).toNat : Nat) : Int) = 0) || decide ((7 : Int) < ((((liB.S e).getD (e.ρ 6).toI.toNat 0).toNat : Nat) : Int)))) = true
  rw [li_S] at h1 ⊢
  have := word_nth (all_word (e.ρ 0).toI.toNat (e.ρ 1).toB (e.ρ 2).toB (e.ρ 3).toB (e.ρ 4).toI) (i := (e.ρ 6).toI.toNat) (by omega) (by omega)
  rw [decide_eq_false (by omega), decide_eq_false (by omega)]; rfl) all_nil'
theorem qB_I (e : En) : qB.I e = mostB (((X.v 5).S e).getD ((X.v 8).I e).toNat 0).toNat := by
  rw [← moq, mo_I]
  exact mostX_I e (.o .nth (.v 5) (.v 8))
def lmB : Nat → List X := fun n => bif Nat.beq n 6 then lemB6 else bif Nat.beq n 8 then (lemB (.v 5) (.v 8) (.v 9) qB) else []
theorem lmB_ok : ∀ b, ∀ x ∈ lmB b, ∀ e : En, x.B e = true := fun n x hx e => by
  unfold lmB at hx
  cases h0 : Nat.beq n 6 with
  | true => rw [h0] at hx; exact lemB6_ok x hx e
  | false =>
  rw [h0] at hx
  cases h1 : Nat.beq n 8 with
  | true => rw [h1] at hx; exact lemB_ok qB_I x hx e
  | false =>
  rw [h1] at hx
  cases hx
def WqB : FuncId → Nat → List (Hint Tryd.prog) := fun n k => bif Nat.beq n 9 then (bif Nat.beq k 0 then [.t 8 (some 1) (some 400000)] else bif Nat.beq k 1 then [.t 10 (some 0) (some 300), .t 9 (some 0) (some 393233)] else []) else []
def extB : List X := [.u .not (.o .lt (lenX' liB) (.i 2)), .u .not (.o .lt (.i 393233) (lenX' liB)), .o .eq (.o .nth liB (.i 0)) (.i 0), moPX (.v 5) (.i 0) (.i 0)]
theorem extB_ok (e : En) : ∀ x ∈ extB, x.B e = true := by
  have hw := all_word (e.ρ 0).toI.toNat (e.ρ 1).toB (e.ρ 2).toB (e.ρ 3).toB (e.ρ 4).toI
  have hl := hw.len
  have hk : (kdF (allF (e.ρ 0).toI.toNat (e.ρ 1).toB (e.ρ 2).toB (e.ρ 3).toB (e.ρ 4).toI)).length = (allF (e.ρ 0).toI.toNat (e.ρ 1).toB (e.ρ 2).toB (e.ρ 3).toB (e.ρ 4).toI).length := by
    unfold kdF; rw [List.length_map]
  refine all_cons' (nlt_in ?_) (all_cons' (nlt_in ?_) (all_cons' (eq_in ?_) (all_cons' (mo_init e _) all_nil')))
  · show ¬ (((liB.S e).length : Nat) : Int) < 2
    rw [li_S]; omega
  · show ¬ (393233 : Int) < (((liB.S e).length : Nat) : Int)
    rw [li_S]; omega
  · show ((((liB.S e).getD 0 0).toNat : Nat) : Int) = 0
    rw [li_S, word_head hw]; rfl

def aks : List AL := [.z (.i .u8), .st [.b, .b, .b, .i .i64], .by]
def ext : List X := extB
theorem aks_ok : Tryd.f9.params.toList.mapM (alkind Tryd.prog) = some aks := by kernel_rfl
theorem as_ok : ∀ x ∈ ext, ∀ e : En, (∀ f ∈ facL aks 0, f.r.has (f.e.I e)) → x.B e = true := by
  intro x hx e hf
  exact extB_ok e x hx
def cs0 : X := .b true
def cs : List X := [cs0]
theorem cs_ok : ∀ e : En, (∀ f ∈ facL aks 0, f.r.has (f.e.I e)) → ∃ c ∈ cs, c.B e = true := by
  intro e hf
  exact ⟨_, List.mem_cons_self, rfl⟩
theorem tree0 : prvF 40 LpT lmB (fun g v _ => finTrue 40 g v) (assume (gL aks ext) cs0) [] (treeOf T WqB CT3 300 20 9 (assume (gL aks ext) cs0) (symL aks 0 0) (memL aks 0)) = true := by kernel_rfl
theorem trees : ∀ c ∈ cs, prvF 40 LpT lmB (fun g v _ => finTrue 40 g v) (assume (gL aks ext) c) [] (treeOf T WqB CT3 300 20 9 (assume (gL aks ext) c) (symL aks 0 0) (memL aks 0)) = true := by
  intro c hc
  simp only [cs, List.mem_cons, List.not_mem_nil, or_false] at hc
  rcases hc with rfl
  · exact tree0
theorem witness_row (os : Os) {H : Type} (enc : TypeId × Value → H) :
    (OpenSpec.ofChange Rows.timingBoundsSpec).preRow enc Tryd.prog Tryd.f9 Rows.timingBoundsRow.domain false Rows.timingBoundsRow.laid ((laidWorld os).forCall (fun _ _ => 0) ⟨#[], #[.int .u8 0, .agg #[.bool false, .bool false, .bool false, .int .i64 0], .slice none 0 0], []⟩).memory #[.int .u8 0, .agg #[.bool false, .bool false, .bool false, .int .i64 0], .slice none 0 0] := by
  have hw : (DataW.whole enc Tryd.prog ((laidWorld os).forCall (fun _ _ => 0) ⟨#[], #[.int .u8 0, .agg #[.bool false, .bool false, .bool false, .int .i64 0], .slice none 0 0], []⟩).memory Tryd.f9.params.toList (OpenSpec.ofChange Rows.timingBoundsSpec).vars false (#[.int .u8 0, .agg #[.bool false, .bool false, .bool false, .int .i64 0], .slice none 0 0] : Array Value).toList 8).isSome = true := by kernel_rfl
  obtain ⟨x, hx⟩ := Option.isSome_iff_exists.1 hw
  exact OpenSpec.preRow_of_cond 8 hx rfl (fun k hk => by cases hk) (by kernel_rfl) (laid_met os _)
set_option maxHeartbeats 2000000 in
theorem lifted (os : Os) (started : os.Started) (H : Type) (enc : TypeId × Value → H) (F : Stop.Interp) :
    ReturnsInHanded {} Tryd.checked os 9 .any ((OpenSpec.ofChange Rows.timingBoundsSpec).preRow enc Tryd.prog Tryd.f9 Rows.timingBoundsRow.domain false Rows.timingBoundsRow.laid) (((OpenSpec.ofChange Rows.timingBoundsSpec).at F).post enc Tryd.prog Tryd.f9 false true false false) := by
  refine returnsInHanded_of_row (C := Tryd.checked) (s := OpenSpec.ofChange Rows.timingBoundsSpec) own started (by kernel_rfl) Tryd.func9
    (witness_row_atRef (enc := enc) (C := Tryd.checked) false (laidWorld os) #[.int .u8 0, .agg #[.bool false, .bool false, .bool false, .int .i64 0], .slice none 0 0] rfl (by kernel_rfl) (by kernel_rfl) (by kernel_rfl) (witness_row os enc)) ?_
  intro W base args ds gs before hval0 hW _ _ _ _ hsh _
  have hval : ∀ (j : Nat) t v, Tryd.f9.params.toList[j]? = some t → args[j]? = some v → Value.okWide Tryd.prog W .any base t v := fun j t v h1 h2 => hval0 j t v (by simpa using h1) h2
  have hW' := hW
  obtain ⟨p, q, hA0, hV, rfl, hfz, hnd⟩ := hW
  have hA : DataW.TrodAll enc Tryd.prog W 0 (fun _ => true) true Tryd.f9.params.toList args.toList ds p := hA0
  have hk := hA
  rw [Tryd.params9] at hA
  obtain ⟨v0, vs0, d0, ds0, p0, q0, hargs0, rfl, rfl, h0, r0⟩ := trodAll_cons hA
  obtain ⟨v1, vs1, d1, ds1, p1, q1, hargs1, rfl, rfl, h1, r1⟩ := trodAll_cons r0
  obtain ⟨v2, vs2, d2, ds2, p2, q2, hargs2, rfl, rfl, h2, r2⟩ := trodAll_cons r1
  obtain ⟨rfl, rfl, rfl⟩ := trodAll_nil r2
  obtain ⟨rfl, rfl⟩ := trodVars_none hV
  simp only [List.append_nil] at hW' hk
  refine (law_callsF (T := T) CT3_ok rfl (LpT_ok) (lmB_ok) aks_ok as_ok cs_ok trees (fun _ => rfl) hk hval (good_of_shape hsh)).mono fun e W' ⟨he, bel⟩ => ?_
  subst he
  exact ⟨_, rfl, _, _, _, [], _, [], hW', trodAll_cons_mk (shut_bool Tryd.underlying4 true) trodAll_mk0, trodAll_keep laidOut hk (by kernel_rfl) bel (fun x hx => by simpa using hW'.lt x hx), rfl, bel.frame _, fun h => by cases h⟩
theorem over : Rows.TimingBoundsSaid :=
  OpenClaim.holds_of_cond 9 Tryd.f9 rfl rfl rfl rfl rfl rfl rfl ⟨rfl, rfl, rfl, rfl, rfl⟩ rfl rfl rfl rfl rfl (by kernel_rfl) Tryd.func9 (by kernel_rfl)
    (of_decide_eq_true (by kernel_rfl)) (by unfold Func.isWrapper; first | (rw [if_pos (by decide +kernel)]; kernel_rfl) | (rw [if_neg (by decide +kernel)]; exact ⟨rfl, rfl⟩))
    (fun os started H enc _ F0 => by rw [OpenClaim.pre_eq_preRow]; exact lifted os started H enc F0)
theorem card_holds : Rows.TimingBoundsCardSaid :=
  Claim7.holds_tied_plain_at .later [] [.data, .pinned] true (true, "66250c5cb7edaa95260dea6d9912e001b94eabe5d011c1a062c2fe32f5e3d6f5") false
    over (fun _ h => by cases h) (by kernel_rfl) (fun _ h => by cases h) timingBounds_row_tie rfl ⟨rfl, rfl⟩ (by kernel_rfl) rfl
    (fun f fn hf hfn => by
      obtain rfl : f = 9 := Option.some.inj ((show Tryd.prog.funcNamed "gannet/gannetlaw29.TimingBounds" = some 9 by kernel_rfl).symm.trans hf) |>.symm
      obtain rfl : fn = Tryd.f9 := (Option.some.inj (Tryd.func9.symm.trans hfn)).symm
      exact ⟨by kernel_rfl, fun j t ht => by
        rw [Tryd.params9] at ht
        rcases j with _ | j
        · obtain rfl : (5 : TypeId) = t := by simpa using ht
          exact (show Tryd.prog.wantsStandIn 5 = false by kernel_rfl)
        rcases j with _ | j
        · obtain rfl : (74 : TypeId) = t := by simpa using ht
          exact (show Tryd.prog.wantsStandIn 74 = false by kernel_rfl)
        rcases j with _ | j
        · obtain rfl : (33 : TypeId) = t := by simpa using ht
          exact (show Tryd.prog.wantsStandIn 33 = false by kernel_rfl)
        · simp at ht⟩)
    (by kernel_rfl)
end Go.Proofs.YtjcpcnoakphecaaDoor.timingBounds
