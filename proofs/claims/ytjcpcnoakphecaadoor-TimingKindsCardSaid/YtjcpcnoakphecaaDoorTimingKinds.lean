/-
  The law TimingKinds: whatever the input, the call returns true and its arguments read as before. Conditions: none.
-/
import Derived.Test.YtjcpcnoakphecaaDoorTmD
import Derived.ProofKit
import Derived.OpenShut
import Derived.JoinedCond
import Derived.Deep.DeepHandedRow
import Derived.Deep.DeepWitnessRowRef
import Derived.Stop.Joined
import Derived.KernelRfl
import Derived.Test.YtjcpcnoakphecaaDoorLaidT
import Derived.Test.YtjcpcnoakphecaaDoorTie
import Derived.Test.YtjcpcnoakphecaaDoorCards
import Derived.SevenTiedAt
namespace Go.Proofs.YtjcpcnoakphecaaDoor.timingKinds
open Go Go.AE Go.SX Go.ChangeShapes Go.WideShapes Go.ChangeAt Go.RowKit
set_option maxRecDepth 1000000
set_option linter.unusedVariables false
set_option linter.unusedSimpArgs false
def LpK : Nat → Option LJ := fun n => bif Nat.beq n 2 then some ⟨.b true, mkSub (lenX' (.v 1)) (.v 2), none⟩ else none
theorem LpK_ok : ∀ n li g, LpK n = some li → li.fn = some g → IsLoop g := fun n li g hl hg => by
  unfold LpK at hl
  cases h0 : Nat.beq n 2 with
  | true => rw [h0] at hl; cases hl; cases hg
  | false =>
  rw [h0] at hl
  cases hl
def lemTk : List X := [impS (.o .and (.u .not (.o .lt (.v 2) (.i 0))) (.o .lt (.v 2) (lenX' (.v 1)))) (.o .eq (.o .nth (txX (.v 1)) (.v 2)) (.t .i (.o .lt (.o .nth (.v 1) (.v 2)) (.i 8)) (.o .nth (.s lettersL) (.o .nth (.v 1) (.v 2))) (.i 63)))]
theorem lemTk_ok : ∀ x ∈ lemTk, ∀ e : En, x.B e = true := all_cons' (fun e => impS_ok fun h => by
  obtain ⟨h0, h1⟩ := and_out h
  have h0 : ¬ (e.ρ 2).toI < 0 := nlt_out h0
  have h1 : (e.ρ 2).toI < (((e.ρ 1).toS.length : Nat) : Int) := lt_out h1
  refine eq_in ?_
  show (((((txX (.v 1)).S e).getD (e.ρ 2).toI.toNat 0).toNat : Nat) : Int) = bif decide (((((e.ρ 1).toS.getD (e.ρ 2).toI.toNat 0).toNat : Nat) : Int) < 8) then (((lettersL.getD ((((e.ρ 1).toS.getD (e.ρ 2).toI.toNat 0).toNat : Nat) : Int).toNat 0).toNat : Nat) : Int) else 63
  rw [tx_S]
  exact tx_nth (by show (e.ρ 2).toI.toNat < (e.ρ 1).toS.length; omega)) all_nil'
def lmK : Nat → List X := fun n => bif Nat.beq n 2 then lemTk else []
theorem lmK_ok : ∀ b, ∀ x ∈ lmK b, ∀ e : En, x.B e = true := fun n x hx e => by
  unfold lmK at hx
  cases h0 : Nat.beq n 2 with
  | true => rw [h0] at hx; exact lemTk_ok x hx e
  | false =>
  rw [h0] at hx
  cases hx
def WqK : FuncId → Nat → List (Hint Tryd.prog) := fun n k => bif Nat.beq n 8 then (bif Nat.beq k 1 then [.t 9 (some 0) (some 300)] else []) else []

def aks : List AL := [.z (.i .u8), .by]
def ext : List X := [.o .eq (lenX' (txX (.v 1))) (lenX' (.v 1))]
theorem aks_ok : Tryd.f8.params.toList.mapM (alkind Tryd.prog) = some aks := by kernel_rfl
theorem as_ok : ∀ x ∈ ext, ∀ e : En, (∀ f ∈ facL aks 0, f.r.has (f.e.I e)) → x.B e = true := by
  intro x hx e hf
  obtain rfl := List.mem_singleton.1 hx
  refine eq_in ?_
  show ((((txX (.v 1)).S e).length : Nat) : Int) = (((e.ρ 1).toS.length : Nat) : Int)
  rw [tx_S]
  unfold txF
  rw [List.length_map]; rfl
def cs0 : X := .o .eq (.v 0) (.i 0)
def cs1 : X := .o .eq (.v 0) (.i 1)
def cs2 : X := .o .eq (.v 0) (.i 2)
def cs3 : X := .o .eq (.v 0) (.i 3)
def cs4 : X := .o .eq (.v 0) (.i 4)
def cs5 : X := .o .eq (.v 0) (.i 5)
def cs6 : X := .o .lt (.i 5) (.v 0)
def cs : List X := [cs0, cs1, cs2, cs3, cs4, cs5, cs6]
theorem cs_ok : ∀ e : En, (∀ f ∈ facL aks 0, f.r.has (f.e.I e)) → ∃ c ∈ cs, c.B e = true := by
  intro e hf
  have h := hf ⟨.v 0, ⟨some 0, some 255⟩⟩ (.head _)
  have h0 : 0 ≤ (e.ρ 0).toI := h.1 _ rfl
  rcases (by omega : (e.ρ 0).toI = 0 ∨ (e.ρ 0).toI = 1 ∨ (e.ρ 0).toI = 2 ∨ (e.ρ 0).toI = 3 ∨ (e.ρ 0).toI = 4 ∨ (e.ρ 0).toI = 5 ∨ 5 < (e.ρ 0).toI) with h | h | h | h | h | h | h
  · exact ⟨cs0, by simp [cs], decide_eq_true h⟩
  · exact ⟨cs1, by simp [cs], decide_eq_true h⟩
  · exact ⟨cs2, by simp [cs], decide_eq_true h⟩
  · exact ⟨cs3, by simp [cs], decide_eq_true h⟩
  · exact ⟨cs4, by simp [cs], decide_eq_true h⟩
  · exact ⟨cs5, by simp [cs], decide_eq_true h⟩
  · exact ⟨cs6, by simp [cs], decide_eq_true h⟩

theorem tree0 : prvF 40 LpK lmK (fun g v _ => finTrue 40 g v) (assume (gL aks ext) cs0) [] (treeOf T WqK CK1 300 20 8 (assume (gL aks ext) cs0) (symL aks 0 0) (memL aks 0)) = true := by kernel_rfl
theorem tree1 : prvF 40 LpK lmK (fun g v _ => finTrue 40 g v) (assume (gL aks ext) cs1) [] (treeOf T WqK CK1 300 20 8 (assume (gL aks ext) cs1) (symL aks 0 0) (memL aks 0)) = true := by kernel_rfl
theorem tree2 : prvF 40 LpK lmK (fun g v _ => finTrue 40 g v) (assume (gL aks ext) cs2) [] (treeOf T WqK CK1 300 20 8 (assume (gL aks ext) cs2) (symL aks 0 0) (memL aks 0)) = true := by kernel_rfl
theorem tree3 : prvF 40 LpK lmK (fun g v _ => finTrue 40 g v) (assume (gL aks ext) cs3) [] (treeOf T WqK CK1 300 20 8 (assume (gL aks ext) cs3) (symL aks 0 0) (memL aks 0)) = true := by kernel_rfl
theorem tree4 : prvF 40 LpK lmK (fun g v _ => finTrue 40 g v) (assume (gL aks ext) cs4) [] (treeOf T WqK CK1 300 20 8 (assume (gL aks ext) cs4) (symL aks 0 0) (memL aks 0)) = true := by kernel_rfl
theorem tree5 : prvF 40 LpK lmK (fun g v _ => finTrue 40 g v) (assume (gL aks ext) cs5) [] (treeOf T WqK CK1 300 20 8 (assume (gL aks ext) cs5) (symL aks 0 0) (memL aks 0)) = true := by kernel_rfl
theorem tree6 : prvF 40 LpK lmK (fun g v _ => finTrue 40 g v) (assume (gL aks ext) cs6) [] (treeOf T WqK CK1 300 20 8 (assume (gL aks ext) cs6) (symL aks 0 0) (memL aks 0)) = true := by kernel_rfl
theorem trees : ∀ c ∈ cs, prvF 40 LpK lmK (fun g v _ => finTrue 40 g v) (assume (gL aks ext) c) [] (treeOf T WqK CK1 300 20 8 (assume (gL aks ext) c) (symL aks 0 0) (memL aks 0)) = true := by
  intro c hc
  simp only [cs, List.mem_cons, List.not_mem_nil, or_false] at hc
  rcases hc with rfl | rfl | rfl | rfl | rfl | rfl | rfl
  · exact tree0
  · exact tree1
  · exact tree2
  · exact tree3
  · exact tree4
  · exact tree5
  · exact tree6
theorem witness_row (os : Os) {H : Type} (enc : TypeId × Value → H) :
    (OpenSpec.ofChange Rows.timingKindsSpec).preRow enc Tryd.prog Tryd.f8 Rows.timingKindsRow.domain false Rows.timingKindsRow.laid ((laidWorld os).forCall (fun _ _ => 0) ⟨#[], #[.int .u8 0, .slice none 0 0], []⟩).memory #[.int .u8 0, .slice none 0 0] := by
  have hw : (DataW.whole enc Tryd.prog ((laidWorld os).forCall (fun _ _ => 0) ⟨#[], #[.int .u8 0, .slice none 0 0], []⟩).memory Tryd.f8.params.toList (OpenSpec.ofChange Rows.timingKindsSpec).vars false (#[.int .u8 0, .slice none 0 0] : Array Value).toList 8).isSome = true := by kernel_rfl
  obtain ⟨x, hx⟩ := Option.isSome_iff_exists.1 hw
  exact OpenSpec.preRow_of_cond 8 hx rfl (fun k hk => by cases hk) (by kernel_rfl) (laid_met os _)
set_option maxHeartbeats 2000000 in
theorem lifted (os : Os) (started : os.Started) (H : Type) (enc : TypeId × Value → H) (F : Stop.Interp) :
    ReturnsInHanded {} Tryd.checked os 8 .any ((OpenSpec.ofChange Rows.timingKindsSpec).preRow enc Tryd.prog Tryd.f8 Rows.timingKindsRow.domain false Rows.timingKindsRow.laid) (((OpenSpec.ofChange Rows.timingKindsSpec).at F).post enc Tryd.prog Tryd.f8 false true false false) := by
  refine returnsInHanded_of_row (C := Tryd.checked) (s := OpenSpec.ofChange Rows.timingKindsSpec) own started (by kernel_rfl) Tryd.func8
    (witness_row_atRef (enc := enc) (C := Tryd.checked) false (laidWorld os) #[.int .u8 0, .slice none 0 0] rfl (by kernel_rfl) (by kernel_rfl) (by kernel_rfl) (witness_row os enc)) ?_
  intro W base args ds gs before hval0 hW _ _ _ _ hsh _
  have hval : ∀ (j : Nat) t v, Tryd.f8.params.toList[j]? = some t → args[j]? = some v → Value.okWide Tryd.prog W .any base t v := fun j t v h1 h2 => hval0 j t v (by simpa using h1) h2
  have hW' := hW
  obtain ⟨p, q, hA0, hV, rfl, hfz, hnd⟩ := hW
  have hA : DataW.TrodAll enc Tryd.prog W 0 (fun _ => true) true Tryd.f8.params.toList args.toList ds p := hA0
  have hk := hA
  rw [Tryd.params8] at hA
  obtain ⟨v0, vs0, d0, ds0, p0, q0, hargs0, rfl, rfl, h0, r0⟩ := trodAll_cons hA
  obtain ⟨v1, vs1, d1, ds1, p1, q1, hargs1, rfl, rfl, h1, r1⟩ := trodAll_cons r0
  obtain ⟨rfl, rfl, rfl⟩ := trodAll_nil r1
  obtain ⟨rfl, rfl⟩ := trodVars_none hV
  simp only [List.append_nil] at hW' hk
  refine (law_callsF (T := T) CK1_ok rfl (LpK_ok) (lmK_ok) aks_ok as_ok cs_ok trees (fun _ => rfl) hk hval (good_of_shape hsh)).mono fun e W' ⟨he, bel⟩ => ?_
  subst he
  exact ⟨_, rfl, _, _, _, [], _, [], hW', trodAll_cons_mk (shut_bool Tryd.underlying4 true) trodAll_mk0, trodAll_keep laidOut hk (by kernel_rfl) bel (fun x hx => by simpa using hW'.lt x hx), rfl, bel.frame _, fun h => by cases h⟩
theorem over : Rows.TimingKindsSaid :=
  OpenClaim.holds_of_cond 8 Tryd.f8 rfl rfl rfl rfl rfl rfl rfl ⟨rfl, rfl, rfl, rfl, rfl⟩ rfl rfl rfl rfl rfl (by kernel_rfl) Tryd.func8 (by kernel_rfl)
    (of_decide_eq_true (by kernel_rfl)) (by unfold Func.isWrapper; first | (rw [if_pos (by decide +kernel)]; kernel_rfl) | (rw [if_neg (by decide +kernel)]; exact ⟨rfl, rfl⟩))
    (fun os started H enc _ F0 => by rw [OpenClaim.pre_eq_preRow]; exact lifted os started H enc F0)
theorem card_holds : Rows.TimingKindsCardSaid :=
  Claim7.holds_tied_plain_at .later [] [.data, .pinned] true (true, "66250c5cb7edaa95260dea6d9912e001b94eabe5d011c1a062c2fe32f5e3d6f5") false
    over (fun _ h => by cases h) (by kernel_rfl) (fun _ h => by cases h) timingKinds_row_tie rfl ⟨rfl, rfl⟩ (by kernel_rfl) rfl
    (fun f fn hf hfn => by
      obtain rfl : f = 8 := Option.some.inj ((show Tryd.prog.funcNamed "gannet/gannetlaw29.TimingKinds" = some 8 by kernel_rfl).symm.trans hf) |>.symm
      obtain rfl : fn = Tryd.f8 := (Option.some.inj (Tryd.func8.symm.trans hfn)).symm
      exact ⟨by kernel_rfl, fun j t ht => by
        rw [Tryd.params8] at ht
        rcases j with _ | j
        · obtain rfl : (5 : TypeId) = t := by simpa using ht
          exact (show Tryd.prog.wantsStandIn 5 = false by kernel_rfl)
        rcases j with _ | j
        · obtain rfl : (33 : TypeId) = t := by simpa using ht
          exact (show Tryd.prog.wantsStandIn 33 = false by kernel_rfl)
        · simp at ht⟩)
    (by kernel_rfl)
end Go.Proofs.YtjcpcnoakphecaaDoor.timingKinds
