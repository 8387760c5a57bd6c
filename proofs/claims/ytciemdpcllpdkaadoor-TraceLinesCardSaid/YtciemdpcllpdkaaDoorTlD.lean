/-
  Numbers read, by contracts. Conditions: none.
-/
import Derived.Test.YtciemdpcllpdkaaDoorTlC
set_option linter.unusedSectionVars false
set_option linter.unusedVariables false
set_option linter.unusedSimpArgs false
namespace Go.Proofs.YtciemdpcllpdkaaDoor
open Go Go.AE Go.SX Go.RowKit
set_option maxRecDepth 1000000
def len0 : X := lenX' (.v 0)
def nil0 : X := .o .seq (.v 0) (.s [])
def at1 : X := .o .nth (.v 0) (.v 1)
def lt1 : X := .o .lt (.v 1) len0
def i1 : X := .o .add (.v 1) (.i 1)
theorem nil_iff (e : En) : nil0.B e = true ↔ (e.ρ 0).toS = [] := ⟨fun h => eq_of_beq h, fun h => by show ((e.ρ 0).toS == []) = true; rw [h]; rfl⟩
theorem nil_not {e : En} (h : (X.u .not nil0).B e = true) : (e.ρ 0).toS ≠ [] := fun q => by
  have := not_out h
  rw [(nil_iff e).2 q] at this; cases this
def nuF : X := .u .fst (.ap 100 (.v 0))
def nuS : X := .u .snd (.ap 100 (.v 0))
def l18 : X := .o .lt (.i 18) len0
def ld0 : X := .o .and (.o .lt (.i 1) len0) (.o .eq (.o .nth (.v 0) (.i 0)) (.i 48))
def nd1 : X := .o .or (.o .lt at1 (.i 48)) (.o .lt (.i 57) at1)
def nuPX (i n : X) : X := .ap 117 (.o .pair (.v 0) (.o .pair i n))
theorem nuP_iff (e : En) (i n : X) : (nuPX i n).B e = true ↔ NuP (e.ρ 0).toS (i.I e) (n.I e) := @decide_eq_true_iff _ (_)
def nuI : X := nuPX (.v 1) (.v 2)
def ret2 (F S : X) (a b : Int) : X := .o .and (eq2 (.i a) F) (eq2 (.i b) S)
theorem ret2_in {e : En} {F S : X} {a b : Int} (h1 : F.I e = a) (h2 : S.I e = b) : (ret2 F S a b).B e = true := and_B (eq2_in h1.symm) (eq2_in h2.symm)
theorem ld_B (e : En) : ld0.B e = leadB (e.ρ 0).toS := by
  show (decide ((1 : Int) < (((e.ρ 0).toS.length : Nat) : Int)) && decide (((((e.ρ 0).toS.getD 0 0).toNat : Nat) : Int) = 48)) = _
  unfold leadB
  congr 1
  · rw [Bool.eq_iff_iff, decide_eq_true_iff, Nat.blt_eq]; omega
  · have e1 : (e.ρ 0).toS.getD 0 0 = (e.ρ 0).toS.headD 0 := by cases (e.ρ 0).toS <;> rfl
    rw [e1, Bool.eq_iff_iff, decide_eq_true_iff, beq_iff_eq]
    constructor
    · intro h
      apply UInt8.toNat_inj.1
      show ((e.ρ 0).toS.headD 0).toNat = 48
      omega
    · intro h; rw [h]; rfl
theorem nd_B (e : En) : nd1.B e = !(isDg (cAt (e.ρ 0).toS (e.ρ 1).toI)) := by
  show (decide ((((cAt (e.ρ 0).toS (e.ρ 1).toI).toNat : Nat) : Int) < 48) || decide ((57 : Int) < (((cAt (e.ρ 0).toS (e.ρ 1).toI).toNat : Nat) : Int))) = _
  cases hd : isDg (cAt (e.ρ 0).toS (e.ρ 1).toI) with
  | true =>
    have := isDg_iff.1 hd
    rw [decide_eq_false (by omega), decide_eq_false (by omega)]; rfl
  | false =>
    have : ¬ (48 ≤ (cAt (e.ρ 0).toS (e.ρ 1).toI).toNat ∧ (cAt (e.ρ 0).toS (e.ρ 1).toI).toNat ≤ 57) := fun q => by rw [isDg_iff.2 q] at hd; cases hd
    rw [Bool.not_false, Bool.or_eq_true, decide_eq_true_iff, decide_eq_true_iff]; omega
def nuN : X := .o .add (.o .add (.o .mul (.v 2) (.i 10)) at1) (.i (-48))
def axNu : List X := [nuPX (.i 0) (.i 0), impS nil0 (ret2 nuF nuS 0 4), impS l18 (ret2 nuF nuS 0 2), impS (.o .and (.u .not l18) (.o .and (.u .not nil0) ld0)) (ret2 nuF nuS 0 3)]
theorem axNu_ok : AllB axNu := by
  refine allB1 (fun e => (nuP_iff e _ _).2 ⟨Int.le_refl _, Int.natCast_nonneg _, rfl, rfl⟩) (allB1 (fun e => impS_ok fun h => ?_) (allB1 (fun e => impS_ok fun h => ?_) (allB1 (fun e => impS_ok fun h => ?_) allB0)))
  · have h := (nil_iff e).1 h
    exact ret2_in (by show numI (e.ρ 0).toS = 0; rw [h]; rfl) (by show numE (e.ρ 0).toS = 4; rw [h]; rfl)
  · have h : (18 : Int) < (((e.ρ 0).toS.length : Nat) : Int) := lt_out h
    exact ret2_in (num_long h).1 (num_long h).2
  · obtain ⟨h1, h2⟩ := and_out h
    obtain ⟨h2, h3⟩ := and_out h2
    have h1 : ¬ (18 : Int) < (((e.ρ 0).toS.length : Nat) : Int) := nlt_out h1
    rw [ld_B] at h3
    have := num_lead (nil_not h2) h1 h3
    exact ret2_in this.1 this.2
def lemNu : List X := [impS (.o .and (.o .and nuI lt1) (.o .and (.u .not l18) nd1)) (ret2 nuF nuS 0 3),
  impS (.o .and (.o .and nuI lt1) (.o .and (.u .not l18) (.u .not nd1))) (.o .and (nuPX i1 nuN) (.o .and (rgX (.o .mul (.v 2) (.i 10)) 0 9223372036854775807) (.o .and (rgX nuN 0 999999999999999999) (.u .not (.o .lt (.i 9223372036854775807) nuN))))),
  impS (.o .and (.o .and nuI (.u .not lt1)) (.o .and (.u .not l18) (.o .and (.u .not nil0) (.u .not ld0)))) (.o .and (eq2 (.v 2) nuF) (eq2 (.i 0) nuS))]
theorem lemNu_ok : AllB lemNu := by
  refine allB1 (fun e => impS_ok fun h => ?_) (allB1 (fun e => impS_ok fun h => ?_) (allB1 (fun e => impS_ok fun h => ?_) allB0))
  · obtain ⟨h1, h2⟩ := and_out h
    obtain ⟨h3, h4⟩ := and_out h1
    obtain ⟨h5, h6⟩ := and_out h2
    rw [nd_B] at h6
    have h3 := (nuP_iff e _ _).1 h3
    have := num_bad h3.1 (lt_out h4) (nlt_out h5) (by revert h6; show (!(isDg (cAt (e.ρ 0).toS (e.ρ 1).toI))) = true → isDg (cAt (e.ρ 0).toS (e.ρ 1).toI) = false; cases isDg (cAt (e.ρ 0).toS (e.ρ 1).toI) <;> simp)
    exact ret2_in this.1 this.2
  · obtain ⟨h1, h2⟩ := and_out h
    obtain ⟨h3, h4⟩ := and_out h1
    obtain ⟨h5, h6⟩ := and_out h2
    have h6 := not_out h6
    rw [nd_B] at h6
    have h3 := (nuP_iff e _ _).1 h3
    have hd : isDg (cAt (e.ρ 0).toS (e.ρ 1).toI) = true := by revert h6; cases isDg (cAt (e.ρ 0).toS (e.ρ 1).toI) <;> simp
    have key := nu_next h3 (lt_out h4) hd
    obtain ⟨r1, r2⟩ := nu_rg h3 (lt_out h4) (nlt_out h5)
    have hc := isDg_iff.1 hd
    have r1 : 0 ≤ (e.ρ 2).toI := r1
    have r2 : (e.ρ 2).toI < 100000000000000000 := r2
    have hN : nuN.I e = (e.ρ 2).toI * 10 + (((cAt (e.ρ 0).toS (e.ρ 1).toI).toNat : Nat) : Int) + (-48) := rfl
    refine and_B ((nuP_iff e _ _).2 ?_) (and_B (rgX_ok ?_ ?_) (and_B (rgX_ok ?_ ?_) (nlt_in ?_)))
    · exact key
    · show 0 ≤ (e.ρ 2).toI * 10; omega
    · show (e.ρ 2).toI * 10 ≤ 9223372036854775807; omega
    · rw [hN]; omega
    · rw [hN]; omega
    · show ¬ (9223372036854775807 : Int) < nuN.I e
      rw [hN]; omega
  · obtain ⟨h1, h2⟩ := and_out h
    obtain ⟨h3, h4⟩ := and_out h1
    obtain ⟨h5, h6⟩ := and_out h2
    obtain ⟨h7, h8⟩ := and_out h6
    have h8 := not_out h8
    rw [ld_B] at h8
    have := num_end ((nuP_iff e _ _).1 h3) (nil_not h7) (nlt_out h4) (nlt_out h5) h8
    exact and_B (eq2_in this.1.symm) (eq2_in this.2.symm)
def lcNu : LC := ⟨1, [.z (.s (.v 0))], [], [], [], .tu [.s (.z (.i .i64 nuF)), .s (.z (.i .i64 nuS))], []⟩
theorem nu1 : (LC.mk lcNu.n lcNu.args lcNu.mem lcNu.fs (axNu ++ lcNu.as) lcNu.val lcNu.out).Ok Tryd.prog 30 := LC.Ok.of_treeF (L := loop1 1 nuI (mkSub len0 (.v 1))) (lem := lem1 1 lemNu) (T := T) (W := Wl) (n := 12) (cf := 300) (d := 20) (opn := []) (cls := []) loop1_ok (lem1_ok lemNu_ok) C0l_ok noT_ok rfl rfl (by kernel_rfl)
theorem nu_lcP : lcNu.Ok Tryd.prog 30 := LC.Ok.drop nu1 axNu_ok
theorem nu2 : (LC.mk lcNu.n lcNu.args lcNu.mem lcNu.fs (axNu ++ lcNu.as) lcNu.val lcNu.out).Ok Tryd.prog 35 := LC.Ok.of_treeF (L := loop1 1 nuI (mkSub len0 (.v 1))) (lem := lem1 1 lemNu) (T := T) (W := Wl) (n := 12) (cf := 300) (d := 20) (opn := []) (cls := []) loop1_ok (lem1_ok lemNu_ok) C0l_ok noT_ok rfl rfl (by kernel_rfl)
theorem nu_lcD : lcNu.Ok Tryd.prog 35 := LC.Ok.drop nu2 axNu_ok
def hxF : X := .u .fst (.ap 101 (.v 0))
def hxS : X := .u .snd (.ap 101 (.v 0))
def l8 : X := .o .lt (.i 8) len0
def dA : X := .o .and (.u .not (.o .lt at1 (.i 48))) (.u .not (.o .lt (.i 57) at1))
def dB : X := .o .and (.u .not (.o .lt at1 (.i 65))) (.u .not (.o .lt (.i 70) at1))
def hxPX (i n : X) : X := .ap 118 (.o .pair (.v 0) (.o .pair i n))
theorem hxP_iff (e : En) (i n : X) : (hxPX i n).B e = true ↔ HxP (e.ρ 0).toS (i.I e) (n.I e) := @decide_eq_true_iff _ (_)
def hxI : X := hxPX (.v 1) (.v 2)
def vP : X := .t .i dA (.o .add at1 (.i (-48))) (.t .i dB (.o .add at1 (.i (-55))) (.i 0))
def badP : X := .u .not (.o .or dA dB)
def vD0 : List (Int × Int) → X
  | [] => .i (-1)
  | (c, v) :: l => .t .i (.o .eq (.i c) at1) (.i v) (vD0 l)
def vD : X := vD0 [(70, 15), (69, 14), (68, 13), (67, 12), (66, 11), (65, 10), (57, 9), (56, 8), (55, 7), (54, 6), (53, 5), (52, 4), (51, 3), (50, 2), (49, 1), (48, 0)]
def badD : X := .o .lt vD (.i 0)
theorem dA_B (e : En) : dA.B e = decide (48 ≤ (cAt (e.ρ 0).toS (e.ρ 1).toI).toNat ∧ (cAt (e.ρ 0).toS (e.ρ 1).toI).toNat ≤ 57) := by
  show (!decide ((((cAt (e.ρ 0).toS (e.ρ 1).toI).toNat : Nat) : Int) < 48) && !decide ((57 : Int) < (((cAt (e.ρ 0).toS (e.ρ 1).toI).toNat : Nat) : Int))) = _
  rw [Bool.eq_iff_iff, Bool.and_eq_true, Bool.not_eq_true', Bool.not_eq_true', decide_eq_false_iff_not, decide_eq_false_iff_not, decide_eq_true_iff]; omega
theorem dB_B (e : En) : dB.B e = decide (65 ≤ (cAt (e.ρ 0).toS (e.ρ 1).toI).toNat ∧ (cAt (e.ρ 0).toS (e.ρ 1).toI).toNat ≤ 70) := by
  show (!decide ((((cAt (e.ρ 0).toS (e.ρ 1).toI).toNat : Nat) : Int) < 65) && !decide ((70 : Int) < (((cAt (e.ρ 0).toS (e.ρ 1).toI).toNat : Nat) : Int))) = _
  rw [Bool.eq_iff_iff, Bool.and_eq_true, Bool.not_eq_true', Bool.not_eq_true', decide_eq_false_iff_not, decide_eq_false_iff_not, decide_eq_true_iff]; omega
theorem badP_B (e : En) : badP.B e = decide (hv (cAt (e.ρ 0).toS (e.ρ 1).toI) < 0) := by
  show (!(dA.B e || dB.B e)) = _
  rw [dA_B, dB_B]
  unfold hv
  by_cases h1 : 48 ≤ (cAt (e.ρ 0).toS (e.ρ 1).toI).toNat ∧ (cAt (e.ρ 0).toS (e.ρ 1).toI).toNat ≤ 57
  · rw [if_pos h1, decide_eq_true h1, decide_eq_false (p := _ < (0 : Int)) (by omega)]; rfl
  · rw [if_neg h1, decide_eq_false h1]
    by_cases h2 : 65 ≤ (cAt (e.ρ 0).toS (e.ρ 1).toI).toNat ∧ (cAt (e.ρ 0).toS (e.ρ 1).toI).toNat ≤ 70
    · rw [if_pos h2, decide_eq_true h2, decide_eq_false (p := _ < (0 : Int)) (by omega)]; rfl
    · rw [if_neg h2, decide_eq_false h2, decide_eq_true (p := (-1 : Int) < 0) (by omega)]; rfl
theorem vP_I (e : En) (h : badP.B e = false) : vP.I e = hv (cAt (e.ρ 0).toS (e.ρ 1).toI) := by
  rw [badP_B] at h
  have h := of_decide_eq_false h
  show (bif dA.B e then (((cAt (e.ρ 0).toS (e.ρ 1).toI).toNat : Nat) : Int) + (-48) else bif dB.B e then (((cAt (e.ρ 0).toS (e.ρ 1).toI).toNat : Nat) : Int) + (-55) else 0) = _
  rw [dA_B, dB_B]
  unfold hv at h ⊢
  by_cases h1 : 48 ≤ (cAt (e.ρ 0).toS (e.ρ 1).toI).toNat ∧ (cAt (e.ρ 0).toS (e.ρ 1).toI).toNat ≤ 57
  · rw [if_pos h1, decide_eq_true h1, cond_true]; omega
  · rw [if_neg h1] at h ⊢
    rw [decide_eq_false h1, cond_false]
    by_cases h2 : 65 ≤ (cAt (e.ρ 0).toS (e.ρ 1).toI).toNat ∧ (cAt (e.ρ 0).toS (e.ρ 1).toI).toNat ≤ 70
    · rw [if_pos h2, decide_eq_true h2, cond_true]; omega
    · rw [if_neg h2] at h; omega
theorem vD0_I (e : En) (c : Nat) (hc : at1.I e = (c : Nat)) : ∀ l : List (Int × Int), (vD0 l).I e = l.foldr (fun p r => if p.1 = (c : Int) then p.2 else r) (-1)
  | [] => rfl
  | (a, v) :: l => by
    show (bif decide (a = at1.I e) then v else (vD0 l).I e) = if a = (c : Int) then v else l.foldr (fun p r => if p.1 = (c : Int) then p.2 else r) (-1)
    rw [vD0_I e c hc l, hc, Bool.cond_decide]
theorem vD_I (e : En) : vD.I e = hv (cAt (e.ρ 0).toS (e.ρ 1).toI) := by
  have h := vD0_I e (cAt (e.ρ 0).toS (e.ρ 1).toI).toNat rfl
  unfold vD
  rw [h]
  generalize (cAt (e.ρ 0).toS (e.ρ 1).toI) = c
  unfold hv
  have hc := c.toNat_lt
  simp only [List.foldr]
  repeat' split
  all_goals omega
theorem badD_B (e : En) : badD.B e = decide (hv (cAt (e.ρ 0).toS (e.ρ 1).toI) < 0) := by
  show decide (vD.I e < 0) = _
  rw [vD_I]
def hxN (v : X) : X := .o .emod (.o .add (.o .mul (.v 2) (.i 16)) v) (.i 4294967296)
def nilL : X := .o .eq len0 (.i 0)
def axHx : List X := [hxPX (.i 0) (.i 0), impS nil0 (ret2 hxF hxS 0 4), impS nilL (ret2 hxF hxS 0 4), impS l8 (ret2 hxF hxS 0 2)]
theorem axHx_ok : AllB axHx := by
  refine allB1 (fun e => (hxP_iff e _ _).2 ⟨Int.le_refl _, Int.natCast_nonneg _, rfl, rfl⟩) (allB1 (fun e => impS_ok fun h => ?_) (allB1 (fun e => impS_ok fun h => ?_) (allB1 (fun e => impS_ok fun h => ?_) allB0)))
  · have h := (nil_iff e).1 h
    exact ret2_in (by show hexI (e.ρ 0).toS = 0; rw [h]; rfl) (by show hexE (e.ρ 0).toS = 4; rw [h]; rfl)
  · have h : (((e.ρ 0).toS.length : Nat) : Int) = 0 := eq_out h
    have h : (e.ρ 0).toS = [] := List.eq_nil_of_length_eq_zero (by omega)
    exact ret2_in (by show hexI (e.ρ 0).toS = 0; rw [h]; rfl) (by show hexE (e.ρ 0).toS = 4; rw [h]; rfl)
  · have h : (8 : Int) < (((e.ρ 0).toS.length : Nat) : Int) := lt_out h
    exact ret2_in (hex_long h).1 (hex_long h).2
def lemHx (bad v : X) : List X := [impS (.o .and (.o .and hxI lt1) (.o .and (.u .not l8) bad)) (ret2 hxF hxS 0 3),
  impS (.o .and (.o .and hxI lt1) (.o .and (.u .not l8) (.u .not bad))) (hxPX i1 (hxN v)),
  impS (.o .and (.o .and hxI (.u .not lt1)) (.o .and (.u .not l8) (.o .or (.u .not nil0) (.u .not nilL)))) (.o .and (eq2 (.v 2) hxF) (eq2 (.i 0) hxS))]
theorem lemHx_ok {bad v : X} (hb : ∀ e : En, bad.B e = decide (hv (cAt (e.ρ 0).toS (e.ρ 1).toI) < 0)) (hw : ∀ e : En, bad.B e = false → v.I e = hv (cAt (e.ρ 0).toS (e.ρ 1).toI)) : AllB (lemHx bad v) := by
  refine allB1 (fun e => impS_ok fun h => ?_) (allB1 (fun e => impS_ok fun h => ?_) (allB1 (fun e => impS_ok fun h => ?_) allB0))
  · obtain ⟨h1, h2⟩ := and_out h
    obtain ⟨h3, h4⟩ := and_out h1
    obtain ⟨h5, h6⟩ := and_out h2
    rw [hb] at h6
    have h3 := (hxP_iff e _ _).1 h3
    have := hex_bad h3.1 (lt_out h4) (nlt_out h5) (of_decide_eq_true h6)
    exact ret2_in this.1 this.2
  · obtain ⟨h1, h2⟩ := and_out h
    obtain ⟨h3, h4⟩ := and_out h1
    obtain ⟨h5, h6⟩ := and_out h2
    have h6 := not_out h6
    have hv' := hw e h6
    rw [hb] at h6
    have h6 := of_decide_eq_false h6
    have h3 := (hxP_iff e _ _).1 h3
    have key := hx_next h3 (lt_out h4) (nlt_out h5) (by show 0 ≤ hv (cAt (e.ρ 0).toS (e.ρ 1).toI); omega)
    refine (hxP_iff e _ _).2 ?_
    show HxP (e.ρ 0).toS ((e.ρ 1).toI + 1) (((e.ρ 2).toI * 16 + v.I e) % 4294967296)
    rw [hv']
    exact key
  · obtain ⟨h1, h2⟩ := and_out h
    obtain ⟨h3, h4⟩ := and_out h1
    obtain ⟨h5, h6⟩ := and_out h2
    have hn : (e.ρ 0).toS ≠ [] := fun q => by
      rcases or_out h6 with h | h
      · exact nil_not h q
      · have := of_decide_eq_false (not_out h)
        exact this (by show (((e.ρ 0).toS.length : Nat) : Int) = 0; rw [q]; rfl)
    have := hex_end ((hxP_iff e _ _).1 h3) hn (nlt_out h4) (nlt_out h5)
    exact and_B (eq2_in this.1.symm) (eq2_in this.2.symm)
def lcHx : LC := ⟨1, [.z (.s (.v 0))], [], [], [], .tu [.s (.z (.i .u32 hxF)), .s (.z (.i .i64 hxS))], []⟩
theorem hx1 : (LC.mk lcHx.n lcHx.args lcHx.mem lcHx.fs (axHx ++ lcHx.as) lcHx.val lcHx.out).Ok Tryd.prog 32 := LC.Ok.of_treeF (L := loop1 1 hxI (mkSub len0 (.v 1))) (lem := lem1 1 (lemHx badP vP)) (T := T) (W := Wl) (n := 12) (cf := 300) (d := 20) (opn := []) (cls := []) loop1_ok (lem1_ok (lemHx_ok badP_B vP_I)) C0l_ok noT_ok rfl rfl (by kernel_rfl)
theorem hx_lcP : lcHx.Ok Tryd.prog 32 := LC.Ok.drop hx1 axHx_ok
theorem hx2 : (LC.mk lcHx.n lcHx.args lcHx.mem lcHx.fs (axHx ++ lcHx.as) lcHx.val lcHx.out).Ok Tryd.prog 37 := LC.Ok.of_treeF (L := loop1 1 hxI (mkSub len0 (.v 1))) (lem := lem1 1 (lemHx badD vD)) (T := T) (W := Wl) (n := 12) (cf := 300) (d := 20) (opn := []) (cls := []) loop1_ok (lem1_ok (lemHx_ok badD_B (fun e _ => vD_I e))) C0l_ok noT_ok rfl rfl (by kernel_rfl)
theorem hx_lcD : lcHx.Ok Tryd.prog 37 := LC.Ok.drop hx2 axHx_ok
end Go.Proofs.YtciemdpcllpdkaaDoor
