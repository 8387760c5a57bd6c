/-
  Decimal digits by contracts. Conditions: none.
-/
import Derived.Test.YtciemdpcllpdkaaDoorTlH
set_option linter.unusedSectionVars false
set_option linter.unusedVariables false
set_option linter.unusedSimpArgs false
namespace Go.Proofs.YtciemdpcllpdkaaDoor
open Go Go.AE Go.SX Go.RowKit
set_option maxRecDepth 1000000
noncomputable def Wl : FuncId → Nat → List (Hint Tryd.prog) := fun n k =>
  bif Nat.beq n 26 then [.t 4 none none, .t 0 (some 0) (some 1125899906842624), .l 3 5 (some 20)]
  else bif Nat.beq n 58 then [.l 0 5 (some 20), .t 2 (some 0) (some 20), .t 3 (some (-1)) (some 20)]
  else bif Nat.beq n 38 then [.t 0 (some 0) (some 1125899906842624), .t 3 none (some 20)]
  else bif Nat.beq n 30 then [.t 24 (some 0) (some 18), .t 4 (some 0) (some 999999999999999999)]
  else bif Nat.beq n 35 then [.t 5 (some 0) (some 18), .t 4 (some 0) (some 999999999999999999)]
  else bif Nat.beq n 32 then [.t 17 (some 0) (some 8), .t 4 (some 0) (some 4294967295)]
  else bif Nat.beq n 37 && Nat.beq k 0 then [.t 5 (some 0) (some 8), .t 4 (some 0) (some 4294967295)]
  else bif Nat.beq n 34 then [.t 5 (some 0) (some 301), .t 4 (some 0) (some 302), .l 3 9 (some 301)] else []
abbrev C0l : FuncId → Option CallF := fun _ => none
theorem C0l_ok : ∀ n c, C0l n = some c → ConOk T n c := fun _ _ h => by cases h
def big : Int := 1125899906842624
def decX (x : X) : X := .ap 108 x
def revX (x : X) : X := .ap 113 x
def rvPX (s c i j : X) : X := .ap 115 (.o .pair s (.o .pair c (.o .pair i j)))
theorem rvP_iff (e : En) (s c i j : X) : (rvPX s c i j).B e = true ↔ RvP (s.S e) (c.S e) (i.I e) (j.I e) := @decide_eq_true_iff _ (_)
def rvI : X := rvPX (.v 0) (.v 1) (.v 2) (.v 3)
def rvLt : X := .o .lt (.v 2) (.v 3)
def rvN : X := .set (.set (.v 1) (.v 2) (.o .nth (.v 1) (.v 3))) (.v 3) (.o .nth (.v 1) (.v 2))
def lemRv : List X := [impS (.o .and rvI rvLt) (.o .and (rvPX (.v 0) rvN (.o .add (.v 2) (.i 1)) (.o .add (.v 3) (.i (-1)))) (.o .and (.o .lt (.v 3) (lenX' (.v 1))) (.o .lt (.v 2) (lenX' (.v 1))))), impS rvI (eq2 (lenX' (.v 1)) (lenX' (.v 0))), impS (.o .and rvI (.u .not rvLt)) (seq2 (.v 1) (revX (.v 0)))]
theorem ofNat_nth (l : List UInt8) (k : Nat) : UInt8.ofNat ((((l.getD k 0).toNat : Nat) : Int)).toNat = l.getD k 0 := by
  rw [Int.toNat_natCast]; exact UInt8.ofNat_toNat
theorem rvN_S (e : En) : rvN.S e = ((e.ρ 1).toS.set (e.ρ 2).toI.toNat ((e.ρ 1).toS.getD (e.ρ 3).toI.toNat 0)).set (e.ρ 3).toI.toNat ((e.ρ 1).toS.getD (e.ρ 2).toI.toNat 0) := by
  show ((e.ρ 1).toS.set (e.ρ 2).toI.toNat (UInt8.ofNat (((((e.ρ 1).toS.getD (e.ρ 3).toI.toNat 0).toNat : Nat) : Int)).toNat)).set (e.ρ 3).toI.toNat (UInt8.ofNat (((((e.ρ 1).toS.getD (e.ρ 2).toI.toNat 0).toNat : Nat) : Int)).toNat) = _
  rw [ofNat_nth, ofNat_nth]
theorem lemRv_ok : AllB lemRv := by
  refine allB1 (fun e => impS_ok fun h => ?_) (allB1 (fun e => impS_ok fun h => ?_) (allB1 (fun e => impS_ok fun h => ?_) allB0))
  · obtain ⟨h1, h2⟩ := and_out h
    have h1 := (rvP_iff e _ _ _ _).1 h1
    have h2 : (e.ρ 2).toI < (e.ρ 3).toI := lt_out h2
    have key := rv_next h1 h2
    obtain ⟨q0, q1, q2, q3, q4⟩ := h1
    have q0 : (e.ρ 1).toS.length = (e.ρ 0).toS.length := q0
    have q1 : 0 ≤ (e.ρ 2).toI := q1
    have q2 : (e.ρ 3).toI = ((e.ρ 0).toS.length : Nat) - 1 - (e.ρ 2).toI := q2
    refine and_B ((rvP_iff e _ _ _ _).2 ?_) (and_B (decide_eq_true ?_) (decide_eq_true ?_))
    · rw [rvN_S]; exact key
    · show (e.ρ 3).toI < (((e.ρ 1).toS.length : Nat) : Int); omega
    · show (e.ρ 2).toI < (((e.ρ 1).toS.length : Nat) : Int); omega
  · have h1 := (rvP_iff e _ _ _ _).1 h
    refine eq2_in ?_
    show (((e.ρ 1).toS.length : Nat) : Int) = (((e.ρ 0).toS.length : Nat) : Int)
    rw [show (e.ρ 1).toS.length = (e.ρ 0).toS.length from h1.1]
  · obtain ⟨h1, h2⟩ := and_out h
    exact seq2_in (rv_end ((rvP_iff e _ _ _ _).1 h1) (nlt_out h2))
def rv0 : X := rvPX (.v 0) (.v 0) (.i 0) (.o .add (lenX' (.v 0)) (.i (-1)))
theorem rv0_ok (e : En) : rv0.B e = true := (rvP_iff e _ _ _ _).2 (by
  show RvP (e.ρ 0).toS (e.ρ 0).toS 0 ((((e.ρ 0).toS.length : Nat) : Int) + (-1))
  exact rv_0 _)
def lcRv : LC := ⟨1, [slV (lenX' (.v 0))], [byS (.v 0)], [fewS (.v 0) 20], [], .tu [], [byS (revX (.v 0))]⟩
theorem rv1 : (LC.mk lcRv.n lcRv.args lcRv.mem lcRv.fs ([rv0] ++ lcRv.as) lcRv.val lcRv.out).Ok Tryd.prog 58 := LC.Ok.of_treeF (L := loop1 1 rvI (mkSub (.o .add (.v 3) (.i 1)) (.v 2))) (lem := lem1 1 lemRv) (T := T) (W := Wl) (n := 12) (cf := 300) (d := 20) (opn := []) (cls := []) loop1_ok (lem1_ok lemRv_ok) C0l_ok noT_ok rfl rfl (by kernel_rfl)
theorem rv_lc : lcRv.Ok Tryd.prog 58 := LC.Ok.drop rv1 (allB1 rv0_ok allB0)
noncomputable def CRv := conTab (lcTabT [(58, [lcRv])])
theorem CRv_ok : ∀ n c, CRv n = some c → ConOk T n c := conTab_ok (lcTabT_all (all_cons' (one_lcT rfl rv_lc) all_nil'))
def dcPX (f n o : X) : X := .ap 114 (.o .pair (.v 0) (.o .pair f (.o .pair n o)))
theorem dcP_iff (e : En) (f n o : X) : (dcPX f n o).B e = true ↔ DcP (e.ρ 0).toI (f.B e) (n.I e) (o.S e) := @decide_eq_true_iff _ (_)
def dcI : X := dcPX (.v 1) (.v 2) (.v 3)
def dcC : X := .o .or (.v 1) (.o .lt (.i 0) (.v 2))
def dcO : X := .o .cat (.v 3) (.u .unit (.o .add (.o .emod (.v 2) (.i 10)) (.i 48)))
def few18 (x : X) : X := .u .not (.o .lt (.i 18) (lenX' x))
def okN : X := .u .not (.o .lt (.i big) (.v 0))
def dcM : X := .o .add (.v 2) (.t .i (.v 1) (.i 1) (.i 0))
def lemDc : List X := [eq2 (lenX' (revX (.v 3))) (lenX' (.v 3)), impS (.o .and dcI dcC) (.o .lt (.o .ediv (.v 2) (.i 10)) dcM), impS (.o .and dcI dcC) (dcPX (.b false) (.o .ediv (.v 2) (.i 10)) dcO), impS (.o .and dcI okN) (few18 (.v 3)), impS (.o .and dcI (.u .not dcC)) (seq2 (.o .take (revX (.v 3)) (lenX' (.v 3))) (decX (.v 0)))]
theorem lemDc_ok : AllB lemDc := by
  refine allB1 (fun e => eq2_in (by show (((e.ρ 3).toS.reverse.length : Nat) : Int) = (((e.ρ 3).toS.length : Nat) : Int); rw [List.length_reverse])) (allB1 (fun e => impS_ok fun h => ?_) (allB1 (fun e => impS_ok fun h => ?_) (allB1 (fun e => impS_ok fun h => ?_) (allB1 (fun e => impS_ok fun h => ?_) allB0))))
  · obtain ⟨h1, h2⟩ := and_out h
    have q0 : 0 ≤ (e.ρ 2).toI := ((dcP_iff e _ _ _).1 h1).2.1
    refine decide_eq_true ?_
    show (e.ρ 2).toI / 10 < (e.ρ 2).toI + (bif (X.v 1).B e then 1 else 0)
    rcases or_out h2 with h | h
    · rw [h, cond_true]; omega
    · have h : 0 < (e.ρ 2).toI := lt_out h
      cases (X.v 1).B e
      · rw [cond_false]; omega
      · rw [cond_true]; omega
  · obtain ⟨h1, h2⟩ := and_out h
    have h1 := (dcP_iff e _ _ _).1 h1
    exact (dcP_iff e _ _ _).2 (dc_next h1 ((or_out h2).elim .inl fun h => .inr (lt_out h)))
  · obtain ⟨h1, h2⟩ := and_out h
    have := (dc_len ((dcP_iff e _ _ _).1 h1) (by have : ¬ big < (e.ρ 0).toI := nlt_out h2; show (e.ρ 0).toI ≤ big; omega)).1
    have : (e.ρ 3).toS.length ≤ 18 := this
    exact nlt_in (by show ¬ (18 : Int) < (((e.ρ 3).toS.length : Nat) : Int); omega)
  · obtain ⟨h1, h2⟩ := and_out h
    have h1 := (dcP_iff e _ _ _).1 h1
    have h2 := not_out h2
    have h2 : ((X.v 1).B e || decide ((0 : Int) < (e.ρ 2).toI)) = false := h2
    rw [Bool.or_eq_false_iff] at h2
    rw [h2.1] at h1
    have key := dc_end h1 (of_decide_eq_false h2.2)
    refine seq2_in ?_
    show ((e.ρ 3).toS.reverse).take ((((e.ρ 3).toS.length : Nat) : Int)).toNat = decF (e.ρ 0).toI.toNat
    rw [Int.toNat_natCast, List.take_of_length_le (by rw [List.length_reverse]; exact Nat.le_refl _)]
    exact key
def dc0 : X := impS (.u .not (.o .lt (.v 0) (.i 0))) (dcPX (.b true) (.v 0) (.s []))
theorem dc0_ok (e : En) : dc0.B e = true := impS_ok fun h => (dcP_iff e _ _ _).2 (by
  have h : ¬ (e.ρ 0).toI < 0 := nlt_out h
  exact ⟨by omega, by show 0 ≤ (e.ρ 0).toI; omega, Int.le_refl _, .inl ⟨rfl, rfl, rfl⟩⟩)
def lcDc : LC := ⟨1, [.z (.i .i64 (.v 0))], [], [⟨.v 0, ⟨some 0, some big⟩⟩], [], .z (.s (decX (.v 0))), []⟩
theorem dc1 : (LC.mk lcDc.n lcDc.args lcDc.mem lcDc.fs ([dc0] ++ lcDc.as) lcDc.val lcDc.out).Ok Tryd.prog 26 := LC.Ok.of_treeF (L := loop1 1 dcI dcM) (lem := lem1 1 lemDc) (T := T) (W := Wl) (n := 12) (cf := 300) (d := 20) (opn := []) (cls := []) loop1_ok (lem1_ok lemDc_ok) CRv_ok noT_ok rfl rfl (by kernel_rfl)
theorem dc_lc : lcDc.Ok Tryd.prog 26 := LC.Ok.drop dc1 (allB1 dc0_ok allB0)
def ddPX (n o : X) : X := .ap 116 (.o .pair (.v 0) (.o .pair n o))
theorem ddP_iff (e : En) (n o : X) : (ddPX n o).B e = true ↔ DdP (e.ρ 0).toI (n.I e) (o.S e) := @decide_eq_true_iff _ (_)
def ddI : X := ddPX (.v 1) (.v 2)
def ddC : X := .o .lt (.i 0) (.v 1)
def ddD : X := .o .take (.o .drop (.s [48, 49, 50, 51, 52, 53, 54, 55, 56, 57]) (.o .emod (.v 1) (.i 10))) (.i 1)
theorem ddD_S (e : En) (h : 0 ≤ (e.ρ 1).toI) : ddD.S e = [dg ((e.ρ 1).toI.toNat % 10)] := by
  show (([48, 49, 50, 51, 52, 53, 54, 55, 56, 57] : List UInt8).drop ((e.ρ 1).toI % 10).toNat).take 1 = _
  rw [dg_tab (by omega)]
  congr 2; omega
def lemDd : List X := [impS ddC (.o .lt (.o .ediv (.v 1) (.i 10)) (.v 1)), impS (.o .and (.o .and ddI ddC) okN) (.o .and (.u .not (.o .lt (.i 9223372036854775807) (.o .add (lenX' (.v 2)) (lenX' ddD)))) (rgX (lenX' (.o .cat ddD (.v 2))) 0 20)), impS (.o .and ddI ddC) (.o .and (ddPX (.o .ediv (.v 1) (.i 10)) (.o .cat ddD (.v 2))) (eq2 (lenX' ddD) (.i 1))), impS (.o .and ddI okN) (few18 (.v 2)), impS (.o .and ddI (.u .not ddC)) (seq2 (.v 2) (decX (.v 0)))]
theorem lemDd_ok : AllB lemDd := by
  refine allB1 (fun e => impS_ok fun h => decide_eq_true (by have h : (0 : Int) < (e.ρ 1).toI := lt_out h; show (e.ρ 1).toI / 10 < (e.ρ 1).toI; omega)) (allB1 (fun e => impS_ok fun h => ?_) (allB1 (fun e => impS_ok fun h => ?_) (allB1 (fun e => impS_ok fun h => ?_) (allB1 (fun e => impS_ok fun h => ?_) allB0))))
  · obtain ⟨h0, h2⟩ := and_out h
    obtain ⟨h0, h1⟩ := and_out h0
    have := (dd_len ((ddP_iff e _ _).1 h0) (by have : ¬ big < (e.ρ 0).toI := nlt_out h2; show (e.ρ 0).toI ≤ big; omega)).1
    have : (e.ρ 2).toS.length ≤ 18 := this
    have hl : (lenX' ddD).I e = 1 := by
      show (((ddD.S e).length : Nat) : Int) = 1
      rw [ddD_S e (by have : (0 : Int) < (e.ρ 1).toI := lt_out h1; omega)]; rfl
    have h3 : (lenX' (.v 2)).I e = (((e.ρ 2).toS.length : Nat) : Int) := rfl
    refine and_B (nlt_in ?_) (rgX_ok ?_ ?_)
    · show ¬ (9223372036854775807 : Int) < (lenX' (.v 2)).I e + (lenX' ddD).I e
      omega
    · show (0 : Int) ≤ (((ddD.S e ++ (e.ρ 2).toS).length : Nat) : Int)
      omega
    · have hl : (((ddD.S e).length : Nat) : Int) = 1 := hl
      show (((ddD.S e ++ (e.ρ 2).toS).length : Nat) : Int) ≤ 20
      rw [List.length_append]; omega
  · obtain ⟨h1, h2⟩ := and_out h
    have h1 := (ddP_iff e _ _).1 h1
    have h2 : (0 : Int) < (e.ρ 1).toI := lt_out h2
    have hS := ddD_S e (by omega)
    refine and_B ((ddP_iff e _ _).2 ?_) (eq2_in ?_)
    · show DdP (e.ρ 0).toI ((e.ρ 1).toI / 10) (ddD.S e ++ (e.ρ 2).toS)
      rw [hS]
      exact dd_next h1 h2
    · show (((ddD.S e).length : Nat) : Int) = 1
      rw [hS]; rfl
  · obtain ⟨h1, h2⟩ := and_out h
    have := (dd_len ((ddP_iff e _ _).1 h1) (by have : ¬ big < (e.ρ 0).toI := nlt_out h2; show (e.ρ 0).toI ≤ big; omega)).1
    have : (e.ρ 2).toS.length ≤ 18 := this
    exact nlt_in (by show ¬ (18 : Int) < (((e.ρ 2).toS.length : Nat) : Int); omega)
  · obtain ⟨h1, h2⟩ := and_out h
    obtain ⟨q0, q1, q2⟩ := (ddP_iff e _ _).1 h1
    have h2 : ¬ (0 : Int) < (e.ρ 1).toI := nlt_out h2
    have q0 : 0 ≤ (e.ρ 1).toI := q0
    rw [if_pos (by show (e.ρ 1).toI = 0; omega)] at q2
    exact seq2_in q2
def dd0 : X := impS (.o .and (.u .not (.o .lt (.v 0) (.i 0))) (.u .not (.o .eq (.v 0) (.i 0)))) (ddPX (.v 0) (.s []))
def ddz : X := seq2 (.s [48]) (decX (.i 0))
def ddy : X := impS (.o .eq (.v 0) (.i 0)) (seq2 (.s [48]) (decX (.v 0)))
theorem dec0 : decF 0 = [48] := by rw [decF_lo (by omega)]; rfl
theorem dd0_ok (e : En) : dd0.B e = true := impS_ok fun h => (ddP_iff e _ _).2 (by
  obtain ⟨h1, h2⟩ := and_out h
  have h1 : ¬ (e.ρ 0).toI < 0 := nlt_out h1
  have h2 : ¬ (e.ρ 0).toI = 0 := of_decide_eq_false (not_out h2)
  refine ⟨by show 0 ≤ (e.ρ 0).toI; omega, Int.le_refl _, ?_⟩
  show (if (e.ρ 0).toI = 0 then [] else decF (e.ρ 0).toI.toNat) ++ [] = _
  rw [if_neg h2, List.append_nil])
theorem ddz_ok (e : En) : ddz.B e = true := seq2_in (by show [48] = decF 0; rw [dec0])
theorem ddy_ok (e : En) : ddy.B e = true := impS_ok fun h => seq2_in (by
  have h : (e.ρ 0).toI = 0 := eq_out h
  show [48] = decF (e.ρ 0).toI.toNat
  rw [h]; exact dec0.symm)
theorem dd1 : (LC.mk lcDc.n lcDc.args lcDc.mem lcDc.fs ([dd0, ddz, ddy] ++ lcDc.as) lcDc.val lcDc.out).Ok Tryd.prog 38 := LC.Ok.of_treeF (L := loop1 1 ddI (.v 1)) (lem := lem1 1 lemDd) (T := T) (W := Wl) (n := 12) (cf := 300) (d := 20) (opn := []) (cls := []) loop1_ok (lem1_ok lemDd_ok) C0l_ok noT_ok rfl rfl (by kernel_rfl)
theorem dd_lc : lcDc.Ok Tryd.prog 38 := LC.Ok.drop dd1 (allB1 dd0_ok (allB1 ddz_ok (allB1 ddy_ok allB0)))
end Go.Proofs.YtciemdpcllpdkaaDoor
