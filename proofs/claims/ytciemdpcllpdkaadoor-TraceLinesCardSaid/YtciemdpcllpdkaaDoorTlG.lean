/-
  The words of a line, by contracts. Conditions: none.
-/
import Derived.Test.YtciemdpcllpdkaaDoorTlF
set_option linter.unusedSectionVars false
set_option linter.unusedVariables false
set_option linter.unusedSimpArgs false
namespace Go.Proofs.YtciemdpcllpdkaaDoor
open Go Go.AE Go.SX Go.RowKit
set_option maxRecDepth 1000000
theorem wdW_S (e : En) : wdW.S e = curW (e.ρ 0).toS (e.ρ 1).toI (e.ρ 2).toI := by
  show ((e.ρ 0).toS.drop (e.ρ 2).toI.toNat).take ((e.ρ 1).toI + (e.ρ 2).toI * (-1)).toNat = _
  unfold curW
  congr 2; omega
def wdLt : X := .o .lt (.v 2) (.v 1)
def lemWd : List X := [impS (.o .and wdI wdC) (wdPX i1 (.v 2) (.v 3)), impS (.o .and (.o .and wdI wdIn) (.o .and (.u .not wdC) wdLt)) (wdPX i1 i1 wdN), impS (.o .and (.o .and wdI wdIn) (.o .and (.u .not wdC) (.u .not wdLt))) (wdPX i1 i1 (.v 3)), impS wdI (.u .not (.o .lt (.v 1) rl3)),
  impS (.o .and wdI (.o .lt len0 (.v 1))) ndW, impS (.o .and (.o .and wdI (.o .lt len0 (.v 1))) (.o .eq shp (.i 0))) (.o .and (.u .not shW) (req2 (.v 3) (wdX (.v 0)))), impS (.o .and (.o .and wdI (.o .lt len0 (.v 1))) (.o .eq shp (.i 1))) shW]
theorem wdC_B (e : En) : wdC.B e = (decide ((e.ρ 1).toI < (((e.ρ 0).toS.length : Nat) : Int)) && !decide (cAt (e.ρ 0).toS (e.ρ 1).toI = 32)) := by
  show (decide ((e.ρ 1).toI < (((e.ρ 0).toS.length : Nat) : Int)) && !decide ((((cAt (e.ρ 0).toS (e.ρ 1).toI).toNat : Nat) : Int) = 32)) = _
  congr 2
  apply decide_eq_decide.2
  constructor
  · intro h
    apply UInt8.toNat_inj.1
    show (cAt (e.ρ 0).toS (e.ρ 1).toI).toNat = 32
    omega
  · intro h; rw [h]; rfl
theorem wd_cutX {e : En} (h1 : WdP (e.ρ 0).toS (e.ρ 1).toI (e.ρ 2).toI (e.ρ 3).toR) (h2 : ¬ (((e.ρ 0).toS.length : Nat) : Int) < (e.ρ 1).toI) (h3 : wdC.B e = false) : WdP (e.ρ 0).toS ((e.ρ 1).toI + 1) ((e.ρ 1).toI + 1) (if (e.ρ 2).toI < (e.ρ 1).toI then (e.ρ 3).toR ++ [[A.s (wdW.S e)]] else (e.ρ 3).toR) := by
  rw [wdW_S]
  refine wd_cut h1 (by omega) fun hl => ?_
  rw [wdC_B, decide_eq_true hl, Bool.true_and, Bool.not_eq_false', decide_eq_true_iff] at h3
  exact h3
theorem wd_w30 {e : En} (h1 : WdP (e.ρ 0).toS (e.ρ 1).toI (e.ρ 2).toI (e.ρ 3).toR) (h2 : (((e.ρ 0).toS.length : Nat) : Int) < (e.ρ 1).toI) : (e.ρ 3).toR = rowsS (wdF [] (e.ρ 0).toS) ∧ w30.S e = (wdF [] (e.ρ 0).toS).headD [] := by
  have h3 := wd_fin h1 (by omega)
  refine ⟨h3, ?_⟩
  show (((e.ρ 3).toR.getD 0 []).getD 0 (.i 0)).toS = _
  rw [h3]
  cases wdF [] (e.ρ 0).toS with
  | nil => rfl
  | cons w l => rfl
theorem sh_iff (e : En) : shp.I e = 1 ↔ sharpB (e.ρ 0).toS = true := by
  show (if sharpB (e.ρ 0).toS = true then (1 : Int) else 0) = 1 ↔ _
  cases sharpB (e.ρ 0).toS <;> simp
theorem sh_iff0 (e : En) : shp.I e = 0 ↔ sharpB (e.ρ 0).toS = false := by
  show (if sharpB (e.ρ 0).toS = true then (1 : Int) else 0) = 0 ↔ _
  cases sharpB (e.ρ 0).toS <;> simp
theorem shW_B {e : En} (h1 : WdP (e.ρ 0).toS (e.ρ 1).toI (e.ρ 2).toI (e.ρ 3).toR) (h2 : (((e.ρ 0).toS.length : Nat) : Int) < (e.ρ 1).toI) : shW.B e = sharpB (e.ρ 0).toS := by
  obtain ⟨h3, h4⟩ := wd_w30 h1 h2
  show (decide ((0 : Int) < (((e.ρ 3).toR.length : Nat) : Int)) && decide (((((w30.S e).getD 0 0).toNat : Nat) : Int) = 35)) = _
  rw [h3, h4]
  unfold sharpB
  cases hw : wdF [] (e.ρ 0).toS with
  | nil => rfl
  | cons w l =>
    have e1 : decide ((0 : Int) < (((rowsS (w :: l)).length : Nat) : Int)) = true := decide_eq_true (by show (0 : Int) < (((l.map fun w => [A.s w]).length + 1 : Nat) : Int); omega)
    rw [e1, Bool.true_and]
    show decide ((((w.getD 0 0).toNat : Nat) : Int) = 35) = (w.headD 0 == 35)
    have e2 : w.getD 0 0 = w.headD 0 := by cases w <;> rfl
    rw [e2, Bool.eq_iff_iff, decide_eq_true_iff, beq_iff_eq]
    constructor
    · intro h
      apply UInt8.toNat_inj.1
      show (w.headD 0).toNat = 35
      omega
    · intro h; rw [h]; rfl
theorem req_in {a b : X} {e : En} (h : a.R e = b.R e) : (X.o .req a b).B e = true := decide_eq_true h
theorem words_no {l : List UInt8} (h : sharpB l = false) : wordsF l = wdF [] l := by
  unfold wordsF
  rw [if_neg]
  intro q
  unfold sharpB at h
  rw [q] at h; exact absurd h (by decide)
theorem words_sh {l : List UInt8} (h : sharpB l = true) : wordsF l = [] := by
  unfold wordsF
  rw [if_pos]
  unfold sharpB at h
  exact eq_of_beq h
theorem lemWd_ok : AllB lemWd := by
  refine allB1 (fun e => impS_ok fun h => ?_) (allB1 (fun e => impS_ok fun h => ?_) (allB1 (fun e => impS_ok fun h => ?_) (allB1 (fun e => impS_ok fun h => ?_) (allB1 (fun e => impS_ok fun h => ?_) (allB1 (fun e => impS_ok fun h => ?_) (allB1 (fun e => impS_ok fun h => ?_) allB0))))))
  · obtain ⟨h1, h2⟩ := and_out h
    rw [wdC_B, Bool.and_eq_true, Bool.not_eq_true', decide_eq_true_iff, decide_eq_false_iff_not] at h2
    exact (wdP_iff e _ _ _).2 (wd_skip ((wdP_iff e _ _ _).1 h1) h2.1 h2.2)
  · obtain ⟨h1, h2⟩ := and_out h
    obtain ⟨h3, h4⟩ := and_out h1
    obtain ⟨h5, h6⟩ := and_out h2
    have key := wd_cutX ((wdP_iff e _ _ _).1 h3) (nlt_out h4) (not_out h5)
    rw [if_pos (show (e.ρ 2).toI < (e.ρ 1).toI from lt_out h6)] at key
    exact (wdP_iff e _ _ _).2 key
  · obtain ⟨h1, h2⟩ := and_out h
    obtain ⟨h3, h4⟩ := and_out h1
    obtain ⟨h5, h6⟩ := and_out h2
    have key := wd_cutX ((wdP_iff e _ _ _).1 h3) (nlt_out h4) (not_out h5)
    rw [if_neg (show ¬ (e.ρ 2).toI < (e.ρ 1).toI from nlt_out h6)] at key
    exact (wdP_iff e _ _ _).2 key
  · have := wd_rows ((wdP_iff e _ _ _).1 h)
    have : (((e.ρ 3).toR.length : Nat) : Int) ≤ (e.ρ 1).toI := this
    exact nlt_in (by show ¬ (e.ρ 1).toI < (((e.ρ 3).toR.length : Nat) : Int); omega)
  · obtain ⟨h1, h2⟩ := and_out h
    obtain ⟨h3, h4⟩ := wd_w30 ((wdP_iff e _ _ _).1 h1) (lt_out h2)
    cases hw : wdF [] (e.ρ 0).toS with
    | nil =>
      refine or_B (.inl (nlt_in ?_))
      show ¬ (0 : Int) < (((e.ρ 3).toR.length : Nat) : Int)
      rw [h3, hw]; exact (by decide : ¬ (0 : Int) < ((0 : Nat) : Int))
    | cons w l =>
      refine or_B (.inr (decide_eq_true ?_))
      show (0 : Int) < (((w30.S e).length : Nat) : Int)
      rw [h4, hw]
      have := wdF_ne (e.ρ 0).toS [] w (by rw [hw]; exact List.mem_cons_self)
      have := List.length_pos_iff.2 this
      show (0 : Int) < ((w.length : Nat) : Int)
      omega
  · obtain ⟨h0, h5⟩ := and_out h
    obtain ⟨h1, h2⟩ := and_out h0
    have h5 := (sh_iff0 e).1 (eq_out h5)
    have hb := shW_B ((wdP_iff e _ _ _).1 h1) (lt_out h2)
    obtain ⟨h3, _⟩ := wd_w30 ((wdP_iff e _ _ _).1 h1) (lt_out h2)
    rw [h5] at hb
    refine and_B (not_in hb) (req2_in ?_ fun x y h => req_in h)
    show (e.ρ 3).toR = rowsS (wordsF (e.ρ 0).toS)
    rw [h3, words_no h5]
  · obtain ⟨h0, h5⟩ := and_out h
    obtain ⟨h1, h2⟩ := and_out h0
    have h5 := (sh_iff e).1 (eq_out h5)
    rw [shW_B ((wdP_iff e _ _ _).1 h1) (lt_out h2)]
    exact h5
def wd0 : X := wdPX (.i 0) (.i 0) (.o .rtake .nil (.i 0))
theorem wd0_ok (e : En) : wd0.B e = true := (wdP_iff e _ _ _).2 (wd_0 _)
def shF (n : Int) : Fact := ⟨shp, ⟨some n, some n⟩⟩
def rlW : X := .u .rlen (wdX (.v 0))
def lcW1 : LC := ⟨1, [.z (.s (.v 0))], [], [fewS (.v 0) 300, shF 0], [], slV rlW, [some ⟨.rw [.s] (wdX (.v 0)), 9, true, false⟩]⟩
def lcW2 : LC := ⟨1, [.z (.s (.v 0))], [], [fewS (.v 0) 300, shF 1], [], .z .sl0, []⟩
theorem w10 : (LC.mk lcW1.n lcW1.args lcW1.mem lcW1.fs ([wd0] ++ lcW1.as) lcW1.val lcW1.out).Ok Tryd.prog 34 := LC.Ok.of_treeF (L := loop1 1 wdI (mkSub (.o .add len0 (.i 1)) (.v 1))) (lem := lem1 1 lemWd) (T := T) (W := Wl) (n := 12) (cf := 300) (d := 20) (opn := []) (cls := []) loop1_ok (lem1_ok lemWd_ok) C0l_ok noT_ok rfl rfl (by kernel_rfl)
theorem w1_lc : lcW1.Ok Tryd.prog 34 := LC.Ok.drop w10 (allB1 wd0_ok allB0)
theorem w20 : (LC.mk lcW2.n lcW2.args lcW2.mem lcW2.fs ([wd0] ++ lcW2.as) lcW2.val lcW2.out).Ok Tryd.prog 34 := LC.Ok.of_treeF (L := loop1 1 wdI (mkSub (.o .add len0 (.i 1)) (.v 1))) (lem := lem1 1 lemWd) (T := T) (W := Wl) (n := 12) (cf := 300) (d := 20) (opn := []) (cls := []) loop1_ok (lem1_ok lemWd_ok) C0l_ok noT_ok rfl rfl (by kernel_rfl)
theorem w2_lc : lcW2.Ok Tryd.prog 34 := LC.Ok.drop w20 (allB1 wd0_ok allB0)
noncomputable def CRd := conTab (lcTabT [(6, [lcL lnV]), (9, [lcL lnV]), (30, [lcNu]), (35, [lcNu]), (31, [lcO phFX phSX]), (36, [lcO phFX phSX]), (32, [lcHx]), (37, [lcHx]), (34, [lcW1, lcW2])] ++ [(29, conCall conSplS), (33, conCall conIdS)])
theorem CRd_all : ∀ p ∈ lcTabT [(6, [lcL lnV]), (9, [lcL lnV]), (30, [lcNu]), (35, [lcNu]), (31, [lcO phFX phSX]), (36, [lcO phFX phSX]), (32, [lcHx]), (37, [lcHx]), (34, [lcW1, lcW2])], ConOk T p.1 p.2 := lcTabT_all (all_cons' (one_lcT rfl ln_P) (all_cons' (one_lcT rfl ln_D) (all_cons' (one_lcT rfl nu_lcP) (all_cons' (one_lcT rfl nu_lcD) (all_cons' (one_lcT rfl ofP) (all_cons' (one_lcT rfl ofD) (all_cons' (one_lcT rfl hx_lcP) (all_cons' (one_lcT rfl hx_lcD) (all_cons' (two_lcT rfl w1_lc rfl w2_lc) all_nil')))))))))
theorem CRd_ok : ∀ n c, CRd n = some c → ConOk T n c := conTab_ok fun p hp => (List.mem_append.1 hp).elim (CRd_all p) (all_cons' (P := fun p : FuncId × CallF => ConOk T p.1 p.2) conSplS_ok.ok (all_cons' (P := fun p : FuncId × CallF => ConOk T p.1 p.2) conIdS_ok.ok all_nil') p)
end Go.Proofs.YtciemdpcllpdkaaDoor
