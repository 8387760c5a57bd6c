/-
  What must be whatever is asked; the cases of the law about parts. Conditions: none.
-/
import Derived.Test.YtmjapmghihalpaaGreatHdZ
set_option linter.unusedSectionVars false
set_option linter.unusedVariables false
set_option linter.unusedSimpArgs false
namespace Go.Proofs.YtmjapmghihalpaaGreat
open Go Go.AE Go.SX Go.RowKit
set_option maxRecDepth 1000000
theorem yesI {n : FuncId} (hfn : TI.fn n = true) (h : evT (envOf []) (.z (.b (.b true))) (treeOf TI W0 C0 300 20 n (gI 0 []) [] []) = true) : Con Tryz.prog n cYes := by
  intro g args m ns v m' e hf hg hn
  unfold cYes at hf
  split at hf
  · cases hf
    exact ACall.of_fin (e := envOf []) CI_ok hfn (gI_ok fun p hp => by cases hp) rfl h (denM e m)
  · cases hf
theorem and_B {a b : X} {e : En} (ha : a.B e = true) (hb : b.B e = true) : (X.o .and a b).B e = true := by
  show (a.B e && b.B e) = true
  rw [ha, hb]; rfl
theorem not_B {a : X} {e : En} (ha : a.B e = false) : (X.u .not a).B e = true := by
  show (!a.B e) = true
  rw [ha]; rfl
def goodC : X := .o .and (.u .not (.o .lt (.i 1000) rl0)) (.o .and (.u .not wrE) (.o .and (.ap 4 (.v 1)) (.o .and (gdX (newX0 (.v 0)) (.i 0)) (.o .and (gpX PX PX (nowX PX) (.i 0)) (.o .and (.u .not (.o .lt (.i 60) (.u .rlen (.v 1)))) (.o .and (.u .not (.o .lt (nowX PX) (.i 0))) (.u .not (.o .lt (.i 549755813888) (nowX PX)))))))))
/-- What a new page is. -/
theorem new_inv_tab : tmInv 12 ⟨1, [elF], okA⟩ tm1 (newX0 (.v 0)) = true := by kernel_rfl
theorem new_good {e : En} (h1 : ¬ (1000 : Int) < (((e.ρ 0).toR.length : Nat) : Int)) (h2 : wrE.B e = false) : GoodSt ((newX0 (.v 0)).den e) 0 := by
  have ho : (X.u .not wrE).B e = true := not_B h2
  have hh : (X.ap 7 (.v 0)).B e = true := by
    have := ap8_ok (ds := [e.ρ 0]) (by
      show (!decide ((Fam.Φ 8 (e.ρ 0)).toI < (((e.ρ 0).toR.length : Nat) : Int))) = true
      exact ho)
    exact this
  have hg : (⟨1, [elF], okA⟩ : Gm).ok e := ⟨all_cons' (hasM (Int.natCast_nonneg _) (by show (((e.ρ 0).toR.length : Nat) : Int) ≤ 1000; omega)) all_nil', all_cons' ho (all_cons' hh (all_cons' (dn_ok 0 _) (all_cons' (dn_ok 1 _) (all_cons' (dn_ok 2 _) (all_cons' (dn_ok 3 _) all_nil')))))⟩
  refine ⟨tmInv_ok hg tm1_ok new_inv_tab, ⟨Int.le_refl _, by omega, ?_, ?_, ?_, ?_⟩⟩ <;> exact Int.le_refl (0 : Int)
theorem parts_cover (e : En) : badE'.B e = true ∨ (X.u .not (.ap 4 (.v 1))).B e = true ∨ goodC.B e = true := by
  cases h4 : (X.ap 4 (.v 1)).B e with
  | false => exact .inr (.inl (not_B h4))
  | true =>
  cases hb : badE'.B e with
  | true => exact .inl rfl
  | false =>
  right; right
  have hb : (decide ((1000 : Int) < (((e.ρ 0).toR.length : Nat) : Int)) || wrE.B e) = false := hb
  rw [Bool.or_eq_false_iff, decide_eq_false_iff_not] at hb
  obtain ⟨h1, h2⟩ := hb
  have hn := new_good h1 h2
  have h4' : nearL (e.ρ 1).toR = true := by
    have h4 : (Fam.Φ 4 (e.ρ 1)).toB = true := h4
    rw [HOk5.h4] at h4
    exact h4
  have hp : GoodSt (PX.den e) 60 := play_good hn h4' (by omega)
  have hnow : (nowX PX).I e = (prt (PX.den e) 18).toI := by
    show ((nowX PX).den e).toI = _
    unfold nowX
    rw [comp_den e _ 18 (by omega)]
  have h5 := now_ge hp.1
  have h6 := hp.2.now
  have hl := nearL_len h4'
  refine and_B (not_B (decide_eq_false h1)) (and_B (not_B h2) (and_B h4 (and_B ((gdX_iff e _ _).2 hn) (and_B ((gpX_iff e _ _ _ _).2 ?_) (and_B (not_B (decide_eq_false ?_)) (and_B (not_B (decide_eq_false ?_)) (not_B (decide_eq_false ?_))))))))
  · show SameP (PX.den e) (PX.den e) ((nowX PX).I e) 0
    rw [hnow]
    exact ⟨hp.1, Int.le_refl _, by omega, by omega, Int.le_refl _, by omega, parts_zero (inv_pt hp.1).1 rfl⟩
  · show ¬ (60 : Int) < (((e.ρ 1).toR.length : Nat) : Int); omega
  · show ¬ (nowX PX).I e < (0 : Int); omega
  · show ¬ (549755813888 : Int) < (nowX PX).I e; omega
end Go.Proofs.YtmjapmghihalpaaGreat
