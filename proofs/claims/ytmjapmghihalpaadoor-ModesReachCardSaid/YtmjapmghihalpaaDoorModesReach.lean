/-
  The law ModesReach: whatever the input, the call returns true and its arguments read as before. Conditions: none.
-/
import Derived.Test.YtmjapmghihalpaaDoorModes
import Derived.ProofKit
import Derived.OpenShut
import Derived.JoinedCond
import Derived.Deep.DeepHandedRow
import Derived.Deep.DeepWitnessRowRef
import Derived.Stop.Joined
import Derived.KernelRfl
import Derived.Test.YtmjapmghihalpaaDoorLaid
import Derived.Test.YtmjapmghihalpaaDoorTie
import Derived.Test.YtmjapmghihalpaaDoorCards
import Derived.SevenTiedAt
namespace Go.Proofs.YtmjapmghihalpaaDoor.modesReach
open Go Go.AE Go.SX Go.ChangeShapes Go.WideShapes Go.ChangeAt Go.RowKit
set_option maxRecDepth 1000000
set_option linter.unusedVariables false
set_option linter.unusedSimpArgs false
def CV := conTab ((6, conCall cYes) :: CL)
theorem CV_ok : ∀ n c, CV n = some c → ConOk T n c := conTab_ok fun p hp => by
  rcases List.mem_cons.1 hp with rfl | hp
  · exact conLive24.ok
  · exact CL_all p hp
def nt : X → X := .u .not
def an (a b : X) : X := .o .and a b
def df : X := .o .add (.o .mul (.v 0) (.i (-1))) (.v 1)
def dfm : X := .o .add df (.i (-65536))
def dfp : X := .o .add df (.i 65536)
def dd : X := .o .emod df (.i 256)
def tt : X := .o .eq (.o .emod (.o .add (.v 0) (.u (.wrap .i8) dd)) (.i 65536)) (.v 1)
def L (a b : X) : X := .o .lt a b
def E (a b : X) : X := .o .eq a b
def h1 : X := L (.i 32767) df
def h2 : X := L dfm (.i (-128))
def k1 : X := L df (.i (-32768))
def k2 : X := L (.i 127) dfp
def q1 : X := L df (.i (-128))
def q2 : X := L (.i 127) df
def s1 : X := L (.i 127) dd
def dm : X := .o .add dd (.i (-256))
def cl (l : List X) : X := match l with
  | [a] => nt a
  | [a, b] => nt (an a b)
  | [a, b, c] => nt (an a (an b c))
  | [a, b, c, d] => nt (an a (an b (an c d)))
  | _ => .b true
def asx : List X := [cl [h1, h2, tt], cl [h1, nt h2, nt tt], cl [h1, nt h2, nt s1], cl [h1, nt h2, nt (E dm dfm)],
  cl [k1, k2, tt], cl [k1, nt k2, nt tt], cl [k1, nt k2, s1], cl [k1, nt k2, nt (E dd dfp)],
  cl [nt h1, nt k1, q1, tt], cl [nt h1, nt k1, q2, tt], cl [nt q1, nt q2, nt tt], cl [nt q1, nt q2, s1, nt (E dm df)], cl [nt q1, nt q2, nt s1, nt (E dd df)]]
theorem wrap8 (n : Int) (h0 : 0 ≤ n) (h1 : n < 256) : IntKind.i8.wrap n = if 127 < n then n - 256 else n := by
  unfold IntKind.wrap
  have e1 : IntKind.i8.bits = 8 := rfl
  have e2 : IntKind.i8.signed = true := rfl
  simp only [e1, e2]
  simp only [Nat.reducePow, Nat.reduceSub, Int.reducePow] at *
  split <;> split <;> simp_all <;> omega
theorem tI (n : Int) : (D.i n).toI = n := rfl
theorem tB (n : Bool) : (D.b n).toB = n := rfl

def aks : List AL := [.z (.i .u16), .z (.i .u16), .z (.i .u8), .z (.i .u8), .by]
def ext : List X := asx
theorem aks_ok : Tryd.f4.params.toList.mapM (alkind Tryd.prog) = some aks := by kernel_rfl
theorem as_ok : ∀ x ∈ ext, ∀ e : En, (∀ f ∈ facL aks 0, f.r.has (f.e.I e)) → x.B e = true := by
  intro x hx e hf
  have hx : x ∈ asx := hx
  have r0 := hf ⟨.v 0, ⟨some (kMin .u16), some (kMax .u16)⟩⟩ (by simp [facL, aks, AL.fact, AL.n, OK.fact])
  have r1 := hf ⟨.v 1, ⟨some (kMin .u16), some (kMax .u16)⟩⟩ (by simp [facL, aks, AL.fact, AL.n, OK.fact])
  have a1 := r0.1 _ rfl
  have a2 := r0.2 _ rfl
  have a3 := r1.1 _ rfl
  have a4 := r1.2 _ rfl
  have k1 : kMin .u16 = 0 := rfl
  have k2 : kMax .u16 = 65535 := rfl
  simp only [X.I, X.den, k1, k2] at a1 a2 a3 a4
  clear k1 k2
  simp only [asx, List.mem_cons, List.not_mem_nil, or_false] at hx
  generalize hp : (e.ρ 0).toI = p at *
  generalize hq : (e.ρ 1).toI = q at *
  rcases hx with rfl | rfl | rfl | rfl | rfl | rfl | rfl | rfl | rfl | rfl | rfl | rfl | rfl <;>
    simp only [cl, nt, an, L, E, h1, h2, k1, k2, q1, q2, s1, dm, tt, dd, df, dfm, dfp, X.B, X.den, U.den, O.den, tB, tI, hp, hq, wrap8 _ (Int.emod_nonneg _ (by decide : (256 : Int) ≠ 0)) (Int.emod_lt_of_pos _ (by decide : (0 : Int) < 256))] <;> simp only [Bool.not_eq_true', Bool.and_eq_false_iff, decide_eq_false_iff_not, Bool.not_eq_false', decide_eq_true_eq] <;> (try split) <;> omega
def cs0 : X := .o .eq (.v 3) (.i 11)
def cs1 : X := .o .eq (.v 3) (.i 12)
def cs2 : X := .o .and (.u .not (.o .eq (.v 3) (.i 11))) (.u .not (.o .eq (.v 3) (.i 12)))
def cs : List X := [cs0, cs1, cs2]
theorem cs_ok : ∀ e : En, (∀ f ∈ facL aks 0, f.r.has (f.e.I e)) → ∃ c ∈ cs, c.B e = true := by
  intro e hf
  by_cases h1 : (e.ρ 3).toI = 11
  · exact ⟨cs0, by simp [cs], decide_eq_true h1⟩
  · by_cases h2 : (e.ρ 3).toI = 12
    · exact ⟨cs1, by simp [cs], decide_eq_true h2⟩
    · refine ⟨cs2, by simp [cs], ?_⟩
      show (!decide ((e.ρ 3).toI = 11) && !decide ((e.ρ 3).toI = 12)) = true
      rw [decide_eq_false h1, decide_eq_false h2]; rfl
theorem tree0 : prvF 100 noJ noX (fun g v _ => finTrue 100 g v) (assume (gL aks ext) cs0) [] (treeOf T W0 CV 300 20 4 (assume (gL aks ext) cs0) (symL aks 0 0) (memL aks 0)) = true := by kernel_rfl
theorem tree1 : prvF 100 noJ noX (fun g v _ => finTrue 100 g v) (assume (gL aks ext) cs1) [] (treeOf T W0 CV 300 20 4 (assume (gL aks ext) cs1) (symL aks 0 0) (memL aks 0)) = true := by kernel_rfl
theorem tree2 : prvF 100 noJ noX (fun g v _ => finTrue 100 g v) (assume (gL aks ext) cs2) [] (treeOf T W0 CV 300 20 4 (assume (gL aks ext) cs2) (symL aks 0 0) (memL aks 0)) = true := by kernel_rfl
theorem trees : ∀ c ∈ cs, prvF 100 noJ noX (fun g v _ => finTrue 100 g v) (assume (gL aks ext) c) [] (treeOf T W0 CV 300 20 4 (assume (gL aks ext) c) (symL aks 0 0) (memL aks 0)) = true := by
  intro c hc
  simp only [cs, List.mem_cons, List.not_mem_nil, or_false] at hc
  rcases hc with rfl | rfl | rfl
  · exact tree0
  · exact tree1
  · exact tree2
theorem witness_row (os : Os) {H : Type} (enc : TypeId × Value → H) :
    (OpenSpec.ofChange Rows.modesReachSpec).preRow enc Tryd.prog Tryd.f4 Rows.modesReachRow.domain false Rows.modesReachRow.laid ((laidWorld os).forCall (fun _ _ => 0) ⟨#[], #[.int .u16 0, .int .u16 0, .int .u8 0, .int .u8 0, .slice none 0 0], []⟩).memory #[.int .u16 0, .int .u16 0, .int .u8 0, .int .u8 0, .slice none 0 0] := by
  have hw : (DataW.whole enc Tryd.prog ((laidWorld os).forCall (fun _ _ => 0) ⟨#[], #[.int .u16 0, .int .u16 0, .int .u8 0, .int .u8 0, .slice none 0 0], []⟩).memory Tryd.f4.params.toList (OpenSpec.ofChange Rows.modesReachSpec).vars false (#[.int .u16 0, .int .u16 0, .int .u8 0, .int .u8 0, .slice none 0 0] : Array Value).toList 8).isSome = true := by kernel_rfl
  obtain ⟨x, hx⟩ := Option.isSome_iff_exists.1 hw
  exact OpenSpec.preRow_of_cond 8 hx rfl (fun k hk => by cases hk) (by kernel_rfl) (laid_met os _)
set_option maxHeartbeats 2000000 in
theorem lifted (os : Os) (started : os.Started) (H : Type) (enc : TypeId × Value → H) (F : Stop.Interp) :
    ReturnsInHanded {} Tryd.checked os 4 .any ((OpenSpec.ofChange Rows.modesReachSpec).preRow enc Tryd.prog Tryd.f4 Rows.modesReachRow.domain false Rows.modesReachRow.laid) (((OpenSpec.ofChange Rows.modesReachSpec).at F).post enc Tryd.prog Tryd.f4 false true false false) := by
  refine returnsInHanded_of_row (C := Tryd.checked) (s := OpenSpec.ofChange Rows.modesReachSpec) own started (by kernel_rfl) Tryd.func4
    (witness_row_atRef (enc := enc) (C := Tryd.checked) false (laidWorld os) #[.int .u16 0, .int .u16 0, .int .u8 0, .int .u8 0, .slice none 0 0] rfl (by kernel_rfl) (by kernel_rfl) (by kernel_rfl) (witness_row os enc)) ?_
  intro W base args ds gs before hval0 hW _ _ _ _ hsh _
  have hval : ∀ (j : Nat) t v, Tryd.f4.params.toList[j]? = some t → args[j]? = some v → Value.okWide Tryd.prog W .any base t v := fun j t v h1 h2 => hval0 j t v (by simpa using h1) h2
  have hW' := hW
  obtain ⟨p, q, hA0, hV, rfl, hfz, hnd⟩ := hW
  have hA : DataW.TrodAll enc Tryd.prog W 0 (fun _ => true) true Tryd.f4.params.toList args.toList ds p := hA0
  have hk := hA
  rw [Tryd.params4] at hA
  obtain ⟨v0, vs0, d0, ds0, p0, q0, hargs0, rfl, rfl, h0, r0⟩ := trodAll_cons hA
  obtain ⟨v1, vs1, d1, ds1, p1, q1, hargs1, rfl, rfl, h1, r1⟩ := trodAll_cons r0
  obtain ⟨v2, vs2, d2, ds2, p2, q2, hargs2, rfl, rfl, h2, r2⟩ := trodAll_cons r1
  obtain ⟨v3, vs3, d3, ds3, p3, q3, hargs3, rfl, rfl, h3, r3⟩ := trodAll_cons r2
  obtain ⟨v4, vs4, d4, ds4, p4, q4, hargs4, rfl, rfl, h4, r4⟩ := trodAll_cons r3
  obtain ⟨rfl, rfl, rfl⟩ := trodAll_nil r4
  obtain ⟨rfl, rfl⟩ := trodVars_none hV
  simp only [List.append_nil] at hW' hk
  refine (law_callsF (T := T) CV_ok rfl (fun _ _ _ h => by cases h) (fun _ _ h => by cases h) aks_ok as_ok cs_ok trees (fun _ => rfl) hk hval (good_of_shape hsh)).mono fun e W' ⟨he, bel⟩ => ?_
  subst he
  exact ⟨_, rfl, _, _, _, [], _, [], hW', trodAll_cons_mk (shut_bool Tryd.underlying4 true) trodAll_mk0, trodAll_keep laidOut hk (by kernel_rfl) bel (fun x hx => by simpa using hW'.lt x hx), rfl, bel.frame _, fun h => by cases h⟩
theorem over : Rows.ModesReachSaid :=
  OpenClaim.holds_of_cond 4 Tryd.f4 rfl rfl rfl rfl rfl rfl rfl ⟨rfl, rfl, rfl, rfl, rfl⟩ rfl rfl rfl rfl rfl (by kernel_rfl) Tryd.func4 (by kernel_rfl)
    (of_decide_eq_true (by kernel_rfl)) (by unfold Func.isWrapper; first | (rw [if_pos (by decide +kernel)]; kernel_rfl) | (rw [if_neg (by decide +kernel)]; exact ⟨rfl, rfl⟩))
    (fun os started H enc _ F0 => by rw [OpenClaim.pre_eq_preRow]; exact lifted os started H enc F0)
theorem card_holds : Rows.ModesReachCardSaid :=
  Claim7.holds_tied_plain_at .later [] [.data, .pinned] true (true, "8a5c53c4a5217193198eb8e986475ba8bcada07e12e3a1b6156e89a540b5fd1a") false
    over (fun _ h => by cases h) (by kernel_rfl) (fun _ h => by cases h) modesReach_row_tie rfl ⟨rfl, rfl⟩ (by kernel_rfl) rfl
    (fun f fn hf hfn => by
      obtain rfl : f = 4 := Option.some.inj ((show Tryd.prog.funcNamed "gannet/gannetlaw24.ModesReach" = some 4 by kernel_rfl).symm.trans hf) |>.symm
      obtain rfl : fn = Tryd.f4 := (Option.some.inj (Tryd.func4.symm.trans hfn)).symm
      exact ⟨by kernel_rfl, fun j t ht => by
        rw [Tryd.params4] at ht
        rcases j with _ | j
        · obtain rfl : (23 : TypeId) = t := by simpa using ht
          exact (show Tryd.prog.wantsStandIn 23 = false by kernel_rfl)
        rcases j with _ | j
        · obtain rfl : (23 : TypeId) = t := by simpa using ht
          exact (show Tryd.prog.wantsStandIn 23 = false by kernel_rfl)
        rcases j with _ | j
        · obtain rfl : (5 : TypeId) = t := by simpa using ht
          exact (show Tryd.prog.wantsStandIn 5 = false by kernel_rfl)
        rcases j with _ | j
        · obtain rfl : (5 : TypeId) = t := by simpa using ht
          exact (show Tryd.prog.wantsStandIn 5 = false by kernel_rfl)
        rcases j with _ | j
        · obtain rfl : (22 : TypeId) = t := by simpa using ht
          exact (show Tryd.prog.wantsStandIn 22 = false by kernel_rfl)
        · simp at ht⟩)
    (by kernel_rfl)
end Go.Proofs.YtmjapmghihalpaaDoor.modesReach
