/-
  The law OpcodeNames: whatever the input, the call returns true and its arguments read as before. Conditions: none.
-/
import Derived.Test.YtjcpcnoakphecaaDoorOpR
import Derived.ProofKit
import Derived.OpenShut
import Derived.JoinedCond
import Derived.Deep.DeepHandedRow
import Derived.Deep.DeepWitnessRowRef
import Derived.Stop.Joined
import Derived.KernelRfl
import Derived.Test.YtjcpcnoakphecaaDoorLaidT
import Derived.Test.YtjcpcnoakphecaaDoorTie
import Derived.Test.YtjcpcnoakphecaaDoorCards
import Derived.SevenTiedAt
namespace Go.Proofs.YtjcpcnoakphecaaDoor.opcodeNames
open Go Go.AE Go.SX Go.ChangeShapes Go.WideShapes Go.ChangeAt Go.RowKit
set_option maxRecDepth 1000000
set_option linter.unusedVariables false
set_option linter.unusedSimpArgs false
def nm2 : X := nmPX (nmX (.v 0)) (.v 1) (.v 2) (.v 3) (.v 4)
def kn6 : X := knPX (.v 1) (.v 6) (.v 7)
def LpN : Nat → Option LJ := fun n => bif Nat.beq n 2 then some ⟨nm2, mkSub (.i 117) (.v 2), none⟩ else bif Nat.beq n 6 then some ⟨kn6, mkSub (.i 256) (.v 6), none⟩ else none
theorem LpN_ok : ∀ n li g, LpN n = some li → li.fn = some g → IsLoop g := fun n li g hl hg => by
  unfold LpN at hl
  cases h0 : Nat.beq n 2 with
  | true => rw [h0] at hl; cases hl; cases hg
  | false =>
  rw [h0] at hl
  cases h1 : Nat.beq n 6 with
  | true => rw [h1] at hl; cases hl; cases hg
  | false =>
  rw [h1] at hl
  cases hl
theorem rowsN_len : rowsN.length = 234 := by kernel_rfl
def rsN (i : X) : X := .o (.rS 0) nmsX i
def metX (i m s : X) : X := .o .add m (.t .i (.o .seq (rsN i) s) (.i 1) (.i 0))
def rng117 (x : X) : X := .o .and (.u .not (.o .lt x (.i 0))) (.u .not (.o .lt (.i 117) x))
theorem rng117_ok {e : En} {x : X} (h0 : 0 ≤ x.I e) (h1 : x.I e ≤ 117) : (rng117 x).B e = true := and_B (nlt_in (by show ¬ x.I e < 0; omega)) (nlt_in (by show ¬ (117 : Int) < x.I e; omega))
theorem metX_I (e : En) (i m s : X) (h0 : 0 ≤ i.I e) (h1 : i.I e < 117) (hm : m.I e = (cntN (s.S e) (i.I e).toNat : Nat)) : (metX i m s).I e = (cntN (s.S e) ((i.I e) + 1).toNat : Nat) := by
  show m.I e + (bif (X.o (.rS 0) nmsX i).S e == s.S e then (1 : Int) else 0) = _
  rw [rsN_S, show ((i.I e) + 1).toNat = (i.I e).toNat + 1 from by omega, cntN_succ _ (by omega), hm]
  cases nmN (i.I e).toNat == s.S e <;> simp
theorem cntN_le (s : List UInt8) (k : Nat) : cntN s k ≤ k := by
  unfold cntN
  exact Nat.le_trans (List.length_filter_le _ _) (by rw [List.length_take]; omega)
def lemN2 : List X := [impS (.o .and (.o .lt (.i 0) (.v 2)) (.o .lt (.v 2) (.i 117))) (.o .slt (rsN (.o .add (.v 2) (.i (-1)))) (rsN (.v 2))), impS (.o .and nm2 (.o .lt (.v 2) (.i 117))) (.o .and (nmPX (nmX (.v 0)) (.v 1) (.o .add (.v 2) (.i 1)) (metX (.v 2) (.v 3) (nmX (.v 0))) (metX (.v 2) (.v 4) (.v 1))) (.o .and (rng117 (metX (.v 2) (.v 3) (nmX (.v 0)))) (rng117 (metX (.v 2) (.v 4) (.v 1)))))]
theorem lemN2_ok : ∀ x ∈ lemN2, ∀ e : En, x.B e = true := all_cons' (fun e => impS_ok fun h => by
  obtain ⟨h1, h2⟩ := and_out h
  have h1 : 0 < (e.ρ 2).toI := lt_out h1
  have h2 : (e.ρ 2).toI < 117 := lt_out h2
  show Op.bytesLess ((X.o (.rS 0) nmsX (.o .add (.v 2) (.i (-1)))).S e) ((X.o (.rS 0) nmsX (.v 2)).S e) = true
  rw [rsN_S, rsN_S]
  show Op.bytesLess (nmN ((e.ρ 2).toI + (-1)).toNat) (nmN (e.ρ 2).toI.toNat) = true
  rw [show ((e.ρ 2).toI + (-1)).toNat = (e.ρ 2).toI.toNat - 1 from by omega]
  exact rise_at (by omega) (by omega)) (all_cons' (fun e => impS_ok fun h => by
  obtain ⟨h1, h2⟩ := and_out h
  have h2 : (e.ρ 2).toI < 117 := lt_out h2
  obtain ⟨q0, q1, q2, q3⟩ := (nmPX_iff e _ _ _ _ _).1 h1
  have q0 : 0 ≤ (e.ρ 2).toI := q0
  have m1 := metX_I e (.v 2) (.v 3) (nmX (.v 0)) q0 h2 q2
  have m2 := metX_I e (.v 2) (.v 4) (.v 1) q0 h2 q3
  have l1 := cntN_le ((nmX (.v 0)).S e) ((X.v 2).I e + 1).toNat
  have l2 := cntN_le ((X.v 1).S e) ((X.v 2).I e + 1).toNat
  have h3 : (X.v 2).I e < 117 := h2
  have h4 : 0 ≤ (X.v 2).I e := q0
  refine and_B ((nmPX_iff e _ _ _ _ _).2 ⟨?_, ?_, m1, m2⟩) (and_B (rng117_ok (by rw [m1]; omega) (by rw [m1]; omega)) (rng117_ok (by rw [m2]; omega) (by rw [m2]; omega)))
  · show 0 ≤ (e.ρ 2).toI + 1
    omega
  · show (e.ρ 2).toI + 1 ≤ 117
    omega) all_nil')
def knoX (i k : X) : X := .o .or k (.o .and (knX i) (.o .seq (nmX i) (.v 1)))
theorem knoX_B (e : En) (i k : X) (h0 : 0 ≤ i.I e) (h1 : i.I e < 256) (hk : k.B e = knB ((X.v 1).S e) (i.I e).toNat) : (knoX i k).B e = knB ((X.v 1).S e) (i.I e + 1).toNat := by
  show (k.B e || ((Fam.Φ 40 (i.den e)).snd.snd.snd.snd.toB && ((Fam.Φ 40 (i.den e)).fst.toS == (X.v 1).S e))) = _
  rw [show (i.I e + 1).toNat = (i.I e).toNat + 1 from by omega, knB_succ, hk, DOk1.h40]
  rfl
def endNm : X := .o .and (.o .and (.o .eq (.v 3) (.i 1)) (.o .beq (.o .eq (.v 4) (.i 1)) (.v 7))) (.u .not (.o .lt (.i 1) (.v 4)))
def lemN6 : List X := [impS (.o .and kn6 (.o .lt (.v 6) (.i 256))) (knPX (.v 1) (.o .add (.v 6) (.i 1)) (knoX (.v 6) (.v 7))), impS (.o .and (.o .and (.u .not (.o .lt (.i 255) (.v 0))) (.o .and kn6 (.u .not (.o .lt (.v 6) (.i 256))))) (.o .and nm2 (.u .not (.o .lt (.v 2) (.i 117))))) endNm]
theorem lemN6_ok : ∀ x ∈ lemN6, ∀ e : En, x.B e = true := all_cons' (fun e => impS_ok fun h => by
  obtain ⟨h1, h2⟩ := and_out h
  have h2 : (X.v 6).I e < 256 := lt_out h2
  obtain ⟨q0, q1, q2⟩ := (knPX_iff e _ _ _).1 h1
  refine (knPX_iff e _ _ _).2 ⟨?_, ?_, knoX_B e _ _ q0 h2 q2⟩
  · show 0 ≤ (X.v 6).I e + 1
    omega
  · show (X.v 6).I e + 1 ≤ 256
    omega) (all_cons' (fun e => impS_ok fun h => by
  obtain ⟨h1, h2⟩ := and_out h
  obtain ⟨h0, h1⟩ := and_out h1
  have h0 : ¬ (255 : Int) < (X.v 0).I e := nlt_out h0
  obtain ⟨hk, h6⟩ := and_out h1
  obtain ⟨hn, h2⟩ := and_out h2
  have h6 : ¬ (X.v 6).I e < 256 := nlt_out h6
  have h2 : ¬ (X.v 2).I e < 117 := nlt_out h2
  obtain ⟨q0, q1, q2⟩ := (knPX_iff e _ _ _).1 hk
  obtain ⟨p0, p1, p2, p3⟩ := (nmPX_iff e _ _ _ _ _).1 hn
  rw [show ((X.v 2).I e).toNat = 117 from by omega] at p2 p3
  rw [show ((X.v 6).I e).toNat = 256 from by omega] at q2
  have e3 : (nmX (.v 0)).S e = (opR ((X.v 0).I e).toNat).name := by
    show (Fam.Φ 40 (e.ρ 0)).fst.toS = _
    rw [DOk1.h40]; rfl
  rw [e3, cnt_name _ (by omega)] at p2
  have g3 : decide ((X.v 3).I e = 1) = true := decide_eq_true p2
  show ((decide ((X.v 3).I e = 1) && (decide ((X.v 4).I e = 1) == (X.v 7).B e)) && !decide (1 < (X.v 4).I e)) = true
  rw [g3, q2, p3]
  rcases cnt_cases ((X.v 1).S e) with ⟨c1, c2⟩ | ⟨c1, c2⟩
  · rw [c1, c2]; rfl
  · rw [c1, c2]; rfl) all_nil')
def lmN : Nat → List X := fun n => bif Nat.beq n 2 then lemN2 else bif Nat.beq n 6 then lemN6 else []
theorem lmN_ok : ∀ b, ∀ x ∈ lmN b, ∀ e : En, x.B e = true := fun n x hx e => by
  unfold lmN at hx
  cases h0 : Nat.beq n 2 with
  | true => rw [h0] at hx; exact lemN2_ok x hx e
  | false =>
  rw [h0] at hx
  cases h1 : Nat.beq n 6 with
  | true => rw [h1] at hx; exact lemN6_ok x hx e
  | false =>
  rw [h1] at hx
  cases hx
def WqN : FuncId → Nat → List (Hint Tryd.prog) := fun n k => bif Nat.beq n 11 then (bif Nat.beq k 0 then [.t 10 (some 0) (some 117), .t 7 (some 0) (some 117), .t 8 (some 0) (some 117)] else bif Nat.beq k 1 then [.t 11 (some 0) (some 256), .t 9 none none] else []) else []
def extN : List X := [.u .not (.o .lt (.u .rlen nmsX) (.i 234)), nmPX (nmX (.v 0)) (.v 1) (.i 0) (.i 0) (.i 0), knPX (.v 1) (.i 0) (.b false)]
theorem extN_ok (e : En) : ∀ x ∈ extN, x.B e = true := all_cons' (nlt_in (by show ¬ (((Fam.Φ 62 (.i 0)).toR.length : Nat) : Int) < 234; rw [DOk4.h62]; show ¬ ((rowsN.length : Nat) : Int) < 234; rw [rowsN_len]; omega)) (all_cons' ((nmPX_iff e _ _ _ _ _).2 ⟨Int.le_refl _, by show (0 : Int) ≤ 117; omega, rfl, rfl⟩) (all_cons' ((knPX_iff e _ _ _).2 ⟨Int.le_refl _, by show (0 : Int) ≤ 256; omega, rfl⟩) all_nil'))

def aks : List AL := [.z (.i .u8), .z .s]
def ext : List X := extN
theorem aks_ok : Tryd.f11.params.toList.mapM (alkind Tryd.prog) = some aks := by kernel_rfl
theorem as_ok : ∀ x ∈ ext, ∀ e : En, (∀ f ∈ facL aks 0, f.r.has (f.e.I e)) → x.B e = true := by
  intro x hx e hf
  exact extN_ok e x hx
def cs0 : X := .b true
def cs : List X := [cs0]
theorem cs_ok : ∀ e : En, (∀ f ∈ facL aks 0, f.r.has (f.e.I e)) → ∃ c ∈ cs, c.B e = true := by
  intro e hf
  exact ⟨_, List.mem_cons_self, rfl⟩
theorem tree0 : prvF 40 LpN lmN (fun g v _ => finTrue 40 g v) (assume (gL aks ext) cs0) [] (treeOf T WqN CO1 300 20 11 (assume (gL aks ext) cs0) (symL aks 0 0) (memL aks 0)) = true := by kernel_rfl
theorem trees : ∀ c ∈ cs, prvF 40 LpN lmN (fun g v _ => finTrue 40 g v) (assume (gL aks ext) c) [] (treeOf T WqN CO1 300 20 11 (assume (gL aks ext) c) (symL aks 0 0) (memL aks 0)) = true := by
  intro c hc
  simp only [cs, List.mem_cons, List.not_mem_nil, or_false] at hc
  rcases hc with rfl
  · exact tree0
theorem witness_row (os : Os) {H : Type} (enc : TypeId × Value → H) :
    (OpenSpec.ofChange Rows.opcodeNamesSpec).preRow enc Tryd.prog Tryd.f11 Rows.opcodeNamesRow.domain false Rows.opcodeNamesRow.laid ((laidWorld os).forCall (fun _ _ => 0) ⟨#[], #[.int .u8 0, .string ⟨#[]⟩], []⟩).memory #[.int .u8 0, .string ⟨#[]⟩] := by
  have hw : (DataW.whole enc Tryd.prog ((laidWorld os).forCall (fun _ _ => 0) ⟨#[], #[.int .u8 0, .string ⟨#[]⟩], []⟩).memory Tryd.f11.params.toList (OpenSpec.ofChange Rows.opcodeNamesSpec).vars false (#[.int .u8 0, .string ⟨#[]⟩] : Array Value).toList 8).isSome = true := by kernel_rfl
  obtain ⟨x, hx⟩ := Option.isSome_iff_exists.1 hw
  exact OpenSpec.preRow_of_cond 8 hx rfl (fun k hk => by cases hk) (by kernel_rfl) (laid_met os _)
set_option maxHeartbeats 2000000 in
theorem lifted (os : Os) (started : os.Started) (H : Type) (enc : TypeId × Value → H) (F : Stop.Interp) :
    ReturnsInHanded {} Tryd.checked os 11 .any ((OpenSpec.ofChange Rows.opcodeNamesSpec).preRow enc Tryd.prog Tryd.f11 Rows.opcodeNamesRow.domain false Rows.opcodeNamesRow.laid) (((OpenSpec.ofChange Rows.opcodeNamesSpec).at F).post enc Tryd.prog Tryd.f11 false true false false) := by
  refine returnsInHanded_of_row (C := Tryd.checked) (s := OpenSpec.ofChange Rows.opcodeNamesSpec) own started (by kernel_rfl) Tryd.func11
    (witness_row_atRef (enc := enc) (C := Tryd.checked) false (laidWorld os) #[.int .u8 0, .string ⟨#[]⟩] rfl (by kernel_rfl) (by kernel_rfl) (by kernel_rfl) (witness_row os enc)) ?_
  intro W base args ds gs before hval0 hW _ _ _ _ hsh _
  have hval : ∀ (j : Nat) t v, Tryd.f11.params.toList[j]? = some t → args[j]? = some v → Value.okWide Tryd.prog W .any base t v := fun j t v h1 h2 => hval0 j t v (by simpa using h1) h2
  have hW' := hW
  obtain ⟨p, q, hA0, hV, rfl, hfz, hnd⟩ := hW
  have hA : DataW.TrodAll enc Tryd.prog W 0 (fun _ => true) true Tryd.f11.params.toList args.toList ds p := hA0
  have hk := hA
  rw [Tryd.params11] at hA
  obtain ⟨v0, vs0, d0, ds0, p0, q0, hargs0, rfl, rfl, h0, r0⟩ := trodAll_cons hA
  obtain ⟨v1, vs1, d1, ds1, p1, q1, hargs1, rfl, rfl, h1, r1⟩ := trodAll_cons r0
  obtain ⟨rfl, rfl, rfl⟩ := trodAll_nil r1
  obtain ⟨rfl, rfl⟩ := trodVars_none hV
  simp only [List.append_nil] at hW' hk
  refine (law_callsF (T := T) CO1_ok rfl (LpN_ok) (lmN_ok) aks_ok as_ok cs_ok trees (fun _ => rfl) hk hval (good_of_shape hsh)).mono fun e W' ⟨he, bel⟩ => ?_
  subst he
  exact ⟨_, rfl, _, _, _, [], _, [], hW', trodAll_cons_mk (shut_bool Tryd.underlying4 true) trodAll_mk0, trodAll_keep laidOut hk (by kernel_rfl) bel (fun x hx => by simpa using hW'.lt x hx), rfl, bel.frame _, fun h => by cases h⟩
theorem over : Rows.OpcodeNamesSaid :=
  OpenClaim.holds_of_cond 11 Tryd.f11 rfl rfl rfl rfl rfl rfl rfl ⟨rfl, rfl, rfl, rfl, rfl⟩ rfl rfl rfl rfl rfl (by kernel_rfl) Tryd.func11 (by kernel_rfl)
    (of_decide_eq_true (by kernel_rfl)) (by unfold Func.isWrapper; first | (rw [if_pos (by decide +kernel)]; kernel_rfl) | (rw [if_neg (by decide +kernel)]; exact ⟨rfl, rfl⟩))
    (fun os started H enc _ F0 => by rw [OpenClaim.pre_eq_preRow]; exact lifted os started H enc F0)
theorem card_holds : Rows.OpcodeNamesCardSaid :=
  Claim7.holds_tied_plain_at .later [] [.data, .pinned] true (true, "66250c5cb7edaa95260dea6d9912e001b94eabe5d011c1a062c2fe32f5e3d6f5") false
    over (fun _ h => by cases h) (by kernel_rfl) (fun _ h => by cases h) opcodeNames_row_tie rfl ⟨rfl, rfl⟩ (by kernel_rfl) rfl
    (fun f fn hf hfn => by
      obtain rfl : f = 11 := Option.some.inj ((show Tryd.prog.funcNamed "gannet/gannetlaw23.OpcodeNames" = some 11 by kernel_rfl).symm.trans hf) |>.symm
      obtain rfl : fn = Tryd.f11 := (Option.some.inj (Tryd.func11.symm.trans hfn)).symm
      exact ⟨by kernel_rfl, fun j t ht => by
        rw [Tryd.params11] at ht
        rcases j with _ | j
        · obtain rfl : (5 : TypeId) = t := by simpa using ht
          exact (show Tryd.prog.wantsStandIn 5 = false by kernel_rfl)
        rcases j with _ | j
        · obtain rfl : (9 : TypeId) = t := by simpa using ht
          exact (show Tryd.prog.wantsStandIn 9 = false by kernel_rfl)
        · simp at ht⟩)
    (by kernel_rfl)
end Go.Proofs.YtjcpcnoakphecaaDoor.opcodeNames
