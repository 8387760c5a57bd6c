/-
  The page made without feeds, of the program and of the document: made, or why not; the program's copy. Conditions: none.
-/
import Derived.Test.YtnibdhcfkjmnaaaGreatHdH
import Derived.Test.YtnibdhcfkjmnaaaGreatHdI
set_option linter.unusedSectionVars false
set_option linter.unusedVariables false
set_option linter.unusedSimpArgs false
namespace Go.Proofs.YtnibdhcfkjmnaaaGreat
open Go Go.AE Go.SX Go.RowKit
set_option maxRecDepth 1000000
/-- No wrong edge: all lines are lines. -/
theorem badF_ok {L : List (List A)} : ∀ (k i : Nat) (a : Int), i + k = L.length → L.length ≤ badF L k i a → ∀ j, i ≤ j → j < L.length → lnI L j < 4
  | 0, i, _, h, _, j, h1, h2 => by omega
  | k + 1, i, a, h, hb, j, h1, h2 => by
    unfold badF at hb
    split at hb
    · rename_i hc
      have hl : lnI L i < 4 := by
        have := hc.2
        unfold badE at this
        simp only [Bool.or_eq_false_iff, decide_eq_false_iff_not] at this
        have := this.1
        omega
      rcases Nat.eq_or_lt_of_le h1 with rfl | h3
      · exact hl
      · exact badF_ok k (i + 1) _ (by omega) hb j h3 h2
    · omega
variable [HF]
def mE' : SMem := [some ⟨.rw eK (.v 0), 0, false, false⟩]
def aN : List SV := [.a (.ag [.z .sl0, .z .sl0, .z .sl0]), .a (.s (slOf 0 0))]
def elF : Fact := ⟨.u .rlen (.v 0), ⟨some 0, some 1000⟩⟩
def ehF : Fact := ⟨.u .rlen (.v 0), ⟨some 1001, some 9223372036854775807⟩⟩
def fsE' : List Fact := [⟨.u .rlen (.v 0), ⟨some 0, some 9223372036854775807⟩⟩]
def ap8 : X := .ap 8 (.v 0)
def rl0 : X := .u .rlen (.v 0)
def wrE : X := .o .lt ap8 rl0
def badE' : X := .o .or (.o .lt (.i 1000) rl0) wrE
def newX (p d e l : X) : X := packX [.i 0, .i 0, .i 0, .b false, .i 3072, .i 0, .b false, .i 0, .i 0, p, .i 0, d, .i 0, e, .i 0, l, .i 0, .b false, .i 0]
def newX0 (l : X) : X := newX (.s []) (.s []) (.s []) l
def newV : SV := .tu [.s (.z (.p 1 (.i 0) 0 0)), .ag [.z (.i .i64 (.i 0)), .z (.i .i64 (.i 0))]]
def badV : SV := .tu [.s (.z .p0), .ag [.z (.i .i64 (.t .i (.o .lt (.i 1000) rl0) (.i 2) (.t .i (.o .lt ap8 rl0) (.t .i (.o .lt (lnX (.v 0) ap8) (.i 4)) (.i 7) (.i 8)) (.i 0)))), .z (.i .i64 (.t .i (.o .lt (.i 1000) rl0) (.i 1000) (.t .i (.o .lt ap8 rl0) ap8 (.i 0))))]]
def lcNew1 (j : Nat) (xs : List X) : LC := ⟨1, aN, mE', [elF], xs, newV, mE' ++ [some (obS j (newX0 (.v 0)))]⟩
/-- Made: no edge is wrong. -/
def lcNew (j : Nat) : LC := lcNew1 j [.u .not wrE]
def lcBd (l : List Fact) (xs : List X) : LC := ⟨1, aN, mE', l ++ fsE', xs, badV, mE'⟩
/-- Not made. -/
def lcBad : LC := lcBd [] [badE']
/-! Contracts of what is used. -/
def lcClN : LC := ⟨0, [.z .sl0], [], [], [], .z .sl0, []⟩
theorem clN : lcClN.Ok Tryz.prog 58 := lc_ok rfl rfl (by kernel_rfl)
variable [HOk1] [HOk2] [HOk4]
def cons3 : List (FuncId × List LC) := [(58, [lcClB true, lcClB false, lcClN]), (117, [lcClE true, lcClE false]), (116, [lcCk]), (54, [lcCk])]
noncomputable def CN : FuncId → Option CallF := conLC 12 TI cons3
theorem CN_ok : ∀ n c, CN n = some c → ConOk TI n c := conLC_ok (all_cons' (all_cons' ⟨rfl, clB true⟩ (all_cons' ⟨rfl, clB false⟩ (all_cons' ⟨rfl, clN⟩ all_nil'))) (all_cons' (all_cons' ⟨rfl, clE true⟩ (all_cons' ⟨rfl, clE false⟩ all_nil')) (all_cons' (all_cons' ⟨rfl, ckA⟩ all_nil') (all_cons' (all_cons' ⟨rfl, ckB⟩ all_nil') all_nil'))))
theorem nw_ok {f : FuncId} {c : LC} {cls : List (Nat × Nat)} (hfn : TI.fn f = true) (hok : c.ok = true) (h : treeF 12 noJ noX TI W0 CN 300 20 tms f c [] cls = true) : c.Ok Tryz.prog f :=
  LC.Ok.of_treeF (L := noJ) (lem := noX) (fun _ _ _ h => by cases h) (fun _ _ h => by cases h) CN_ok tms_ok hfn hok h
def dnX (k : Int) : X := .u .not (upX (.v 0) (.i 0) (.i k))
def okA : List X := [.u .not wrE, .ap 7 (.v 0), dnX 0, dnX 1, dnX 2, dnX 3]
theorem newA1 : (lcNew1 1 okA).Ok Tryz.prog 9 := nw_ok (cls := [(1, 1)]) rfl rfl (by kernel_rfl)
theorem newB1 : (lcNew1 2 okA).Ok Tryz.prog 10 := nw_ok (cls := [(1, 2)]) rfl rfl (by kernel_rfl)
theorem ap8_ok {ds : List D} (h : (X.u .not wrE).B (envOf ds) = true) : (X.ap 7 (.v 0)).B (envOf ds) = true := by
  have h : (!decide ((Fam.Φ 8 ((envOf ds).ρ 0)).toI < ((((envOf ds).ρ 0).toR.length : Nat) : Int))) = true := h
  rw [HOk4.h8] at h
  show (Fam.Φ 7 ((envOf ds).ρ 0)).toB = true
  rw [HOk1.h7]
  generalize (envOf ds).ρ 0 = L at h ⊢
  rw [Bool.not_eq_true', decide_eq_false_iff_not] at h
  have h : ¬ ((badF L.toR L.toR.length 0 0 : Nat) : Int) < ((L.toR.length : Nat) : Int) := h
  show okL L.toR = true
  unfold okL
  refine List.all_eq_true.2 fun j hj => decide_eq_true ?_
  exact badF_ok L.toR.length 0 0 (by omega) (by omega) j (Nat.zero_le _) (List.mem_range.1 hj)
theorem dn_ok (k : Int) (e : En) : (dnX k).B e = true := by
  show (!(Fam.Φ 0 (.p (e.ρ 0) (.p (.i 0) (.i k)))).toB) = true
  rw [HOk1.h0]; rfl
theorem new_conv {j : Nat} {f : FuncId} (h : (lcNew1 j okA).Ok Tryz.prog f) : (lcNew j).Ok Tryz.prog f :=
  h.conv rfl rfl rfl fun ds hl hf ha => ⟨hf, all_cons' (ha _ List.mem_cons_self) (all_cons' (ap8_ok (ha _ List.mem_cons_self)) (all_cons' (dn_ok 0 _) (all_cons' (dn_ok 1 _) (all_cons' (dn_ok 2 _) (all_cons' (dn_ok 3 _) all_nil'))))), rfl, rfl⟩
theorem newA : (lcNew 1).Ok Tryz.prog 9 := new_conv newA1
theorem newB : (lcNew 2).Ok Tryz.prog 10 := new_conv newB1
theorem bad_cases {f : FuncId} (h1 : (lcBd [ehF] []).Ok Tryz.prog f) (h2 : (lcBd [elF] [wrE]).Ok Tryz.prog f) : lcBad.Ok Tryz.prog f := by
  refine ⟨fun ds hl hf ha => ?_⟩
  have hb : (decide (1000 < ((((envOf ds).ρ 0).toR.length : Nat) : Int)) || X.B (envOf ds) wrE) = true := ha _ List.mem_cons_self
  have g3 := (hf ⟨.u .rlen (.v 0), ⟨some 0, some 9223372036854775807⟩⟩ (by show _ ∈ fsE'; simp [fsE'])).2 _ rfl
  have g3 : ((((envOf ds).ρ 0).toR.length : Nat) : Int) ≤ 9223372036854775807 := g3
  by_cases c3 : 1000 < ((((envOf ds).ρ 0).toR.length : Nat) : Int)
  · exact h1.call ds hl (all_cons' (hasM (by show (1001 : Int) ≤ ((((envOf ds).ρ 0).toR.length : Nat) : Int); omega) g3) fun q hq => hf q hq) all_nil'
  · rw [decide_eq_false c3, Bool.false_or] at hb
    exact h2.call ds hl (all_cons' (hasM (Int.natCast_nonneg _) (by show ((((envOf ds).ρ 0).toR.length : Nat) : Int) ≤ 1000; omega)) fun q hq => hf q hq) (all_cons' hb all_nil')
theorem badA : lcBad.Ok Tryz.prog 9 := bad_cases (nw_ok (cls := []) rfl rfl (by kernel_rfl)) (nw_ok (cls := []) rfl rfl (by kernel_rfl))
theorem badB : lcBad.Ok Tryz.prog 10 := bad_cases (nw_ok (cls := []) rfl rfl (by kernel_rfl)) (nw_ok (cls := []) rfl rfl (by kernel_rfl))
/-! The program's copy. -/
variable [HOk3]
theorem cpA : (cpLC 1).Ok Tryz.prog 93 := cp_ok rfl rfl (by kernel_rfl)
theorem copyWA : (cpW 1).Ok Tryz.prog 93 := cp_whole HOk2.tm1 rfl vis1 cpA
end Go.Proofs.YtnibdhcfkjmnaaaGreat
