/-
  Stamps rise by a cycle or two: what the law's loops keep. Conditions: none.
-/
import Derived.Test.YtafkhelomlmlpaaGreatBusZ
import Derived.Test.YtafkhelomlmlpaaGreatStA
import Derived.Test.YtafkhelomlmlpaaGreatHoldB
set_option linter.unusedSectionVars false
set_option linter.unusedVariables false
set_option linter.unusedSimpArgs false
namespace Go.Proofs.YtafkhelomlmlpaaGreat
open Go Go.AE Go.SX Go.RowKit
set_option maxRecDepth 1000000
section
variable [HF] [HOk1] [HOk2] [HOk3] [ROk] [BOk] [BOk2] [SOk]
def impS (a b : X) : X := .u .not (.o .and a (.u .not b))
theorem impS_ok {a b : X} {e : En} (h : a.B e = true → b.B e = true) : (impS a b).B e = true := by
  show (!(a.B e && !b.B e)) = true
  cases ha : a.B e with
  | false => rfl
  | true => rw [h ha]; rfl
def stP : X := stOX (.v 4) (.v 3) (.v 1)
def stAd : X := .u (.wrap .u32) (.o (.rI 1) (.v 0) (.v 2))
def stVl : X := .u (.wrap .u8) (.o (.rI 2) (.v 0) (.v 2))
def stKd : X := .u (.wrap .u8) (.o (.rI 3) (.v 0) (.v 2))
def n1X : X := .o .add (.v 3) (.i 1)
def stRd : X := .ap 42 (.o .pair (.v 4) (.o .pair stAd stKd))
def stWr : X := .ap 44 (.o .pair (.v 4) (.o .pair stAd (.o .pair stVl stKd)))
def stAs : X := .ap 45 (.o .pair (.v 4) (.o .eq (.o .emod (.o (.rI 3) (.v 0) (.v 2)) (.i 2)) (.i 1)))
def stTu : X := .ap 46 (.v 4)
def stWh : X := .o .emod (.o (.rI 0) (.v 0) (.v 2)) (.i 8)
def whIs (n : Int) : X := .o .eq stWh (.i n)
def c1S : X := .o .or (whIs 0) (.o .or (whIs 1) (whIs 2))
def c2S : X := .o .or (whIs 3) (whIs 4)
def nxS : X := .t .d c1S stRd (.t .d c2S stWr (.t .d (whIs 5) stAs stTu))
def nxN : X := .t .i c1S n1X (.o .add (.v 3) (.t .i c2S (.i 1) (.i 0)))
def inv1 : X := .o .and stP (.u .not (.o .lt (.v 2) (.v 3)))
def bp4 (i : Nat) : X := (compX 11 (.v 4)).getD i .nil
def endS : X := impS stP (.o .and (.o .eq (.u .rlen (bp4 9)) (.t .i (.o .lt (.v 1) (.v 3)) (.v 1) (.v 3))) (.o .eq (bp4 7) (.o .add (.v 1) (mulC (.u .rlen (bp4 9)) (-1)))))
def fewS : X := impS inv1 (.u .not (.o .lt (.v 2) (.u .rlen (bp4 9))))
def lemS1 : List X := [endS, fewS, impS inv1 (.o .and (stOX nxS nxN (.v 1)) (.u .not (.o .lt (.o .add (.v 2) (.i 1)) nxN)))]
theorem stP_iff (e : En) : stP.B e = true ↔ StOk (e.ρ 4) (e.ρ 3).toI (e.ρ 1).toI := stOX_iff e _ _ _
theorem nx_case {e : En} {b : Int} (h : StOk (e.ρ 4) (e.ρ 3).toI b) : StOk (nxS.den e) (nxN.I e) b ∧ nxN.I e ≤ (e.ρ 3).toI + 1 := by
  have e1 : nxS.den e = bif c1S.B e then stRd.den e else (bif c2S.B e then stWr.den e else (bif (whIs 5).B e then stAs.den e else stTu.den e)) := rfl
  have e2 : nxN.I e = bif c1S.B e then (e.ρ 3).toI + 1 else (e.ρ 3).toI + (bif c2S.B e then 1 else 0) := rfl
  rw [e1, e2]
  cases c1S.B e with
  | true =>
    refine ⟨?_, Int.le_refl _⟩
    show StOk (Fam.Φ 42 (.p (e.ρ 4) (.p (stAd.den e) (stKd.den e)))) ((e.ρ 3).toI + 1) b
    rw [BOk2.h42]
    exact st_rd h
  | false =>
    cases c2S.B e with
    | true =>
      refine ⟨?_, Int.le_refl _⟩
      show StOk (Fam.Φ 44 (.p (e.ρ 4) (.p (stAd.den e) (.p (stVl.den e) (stKd.den e))))) ((e.ρ 3).toI + 1) b
      rw [BOk2.h44]
      exact st_wr h
    | false =>
      have e3 : (e.ρ 3).toI + (bif false then 1 else 0 : Int) = (e.ρ 3).toI := Int.add_zero _
      show StOk (bif (whIs 5).B e then stAs.den e else stTu.den e) ((e.ρ 3).toI + (bif false then 1 else 0 : Int)) b ∧ (e.ρ 3).toI + (bif false then 1 else 0 : Int) ≤ (e.ρ 3).toI + 1
      rw [e3]
      refine ⟨?_, by omega⟩
      cases (whIs 5).B e with
      | true =>
        show StOk (Fam.Φ 45 (.p (e.ρ 4) ((X.o .eq (.o .emod (.o (.rI 3) (.v 0) (.v 2)) (.i 2)) (.i 1)).den e))) (e.ρ 3).toI b
        rw [BOk2.h45]
        exact st_ask h
      | false =>
        show StOk (Fam.Φ 46 (e.ρ 4)) (e.ρ 3).toI b
        rw [BOk2.h46]
        exact st_turn h
theorem bp4_den (e : En) (i : Nat) (hi : i < 11) : (bp4 i).den e = bpt (e.ρ 4) i := by
  unfold bp4 bpt
  rw [← show (compX 11 (.v 4)).map (X.den e) = comps 11 (e.ρ 4) from compX_den e 11 (.v 4)]
  rw [List.getD_eq_getElem?_getD, List.getD_eq_getElem?_getD, List.getElem?_map, List.getElem?_eq_getElem (by rw [compX_len]; exact hi)]
  rfl
theorem endS_ok (e : En) : endS.B e = true := by
  refine impS_ok fun h => ?_
  have h := (stP_iff e).1 h
  have h1 := h.len
  have h2 := h.left
  have e9 : (X.u .rlen (bp4 9)).I e = (((bpt (e.ρ 4) 9).toR.length : Nat) : Int) := by
    show ((((bp4 9).den e).toR.length : Nat) : Int) = _
    rw [bp4_den e 9 (by omega)]
  have e7 : (bp4 7).I e = (bpt (e.ρ 4) 7).toI := congrArg D.toI (bp4_den e 7 (by omega))
  refine and_B (decide_eq_true ?_) (decide_eq_true ?_)
  · show (X.u .rlen (bp4 9)).I e = (bif decide ((e.ρ 1).toI < (e.ρ 3).toI) then (e.ρ 1).toI else (e.ρ 3).toI)
    rw [e9, h1, bif_dec]
    split <;> split <;> omega
  · show (bp4 7).I e = (e.ρ 1).toI + (X.u .rlen (bp4 9)).I e * (-1)
    rw [e9, e7, h2]
    omega
theorem fewS_ok (e : En) : fewS.B e = true := by
  refine impS_ok fun h => ?_
  have h : (stP.B e && !decide ((e.ρ 2).toI < (e.ρ 3).toI)) = true := h
  rw [Bool.and_eq_true, Bool.not_eq_true', decide_eq_false_iff_not] at h
  obtain ⟨h1, h2⟩ := h
  have h1 := ((stP_iff e).1 h1).len
  show (!decide ((e.ρ 2).toI < ((((bp4 9).den e).toR.length : Nat) : Int))) = true
  rw [bp4_den e 9 (by omega), Bool.not_eq_true', decide_eq_false_iff_not, h1]
  split <;> omega
theorem lemS1_ok (e : En) : ∀ x ∈ lemS1, x.B e = true := by
  refine all_cons' (endS_ok e) (all_cons' (fewS_ok e) (all_cons' (impS_ok fun h => ?_) all_nil'))
  have h : (stP.B e && !decide ((e.ρ 2).toI < (e.ρ 3).toI)) = true := h
  rw [Bool.and_eq_true, Bool.not_eq_true', decide_eq_false_iff_not] at h
  obtain ⟨h1, h2⟩ := h
  obtain ⟨h3, h4⟩ := nx_case ((stP_iff e).1 h1)
  show ((stOX nxS nxN (.v 1)).B e && !decide ((e.ρ 2).toI + 1 < nxN.I e)) = true
  rw [Bool.and_eq_true, Bool.not_eq_true', decide_eq_false_iff_not]
  exact ⟨(stOX_iff e _ _ _).2 h3, by omega⟩
/-! The law's first bus. -/
def stS0 : X := packX [.i 0, .b false, .b false, .b false, .s [], zerosX, newX0 .nil, iI (.o .lt (.v 1) (.i 0)) (.i 0) (iI (.o .lt (.i maxB) (.v 1)) (.i maxB) (.v 1)), .b false, .nil, .i 0]
def initS : X := stOX stS0 (.i 0) (.v 1)
theorem stS0_pt (e : En) (i : Nat) : bpt (stS0.den e) i = ([X.i 0, .b false, .b false, .b false, .s [], zerosX, newX0 .nil, iI (.o .lt (.v 1) (.i 0)) (.i 0) (iI (.o .lt (.i maxB) (.v 1)) (.i maxB) (.v 1)), .b false, .nil, .i 0].map (X.den e)).getD i .u := by
  have h := packX_den e [X.i 0, .b false, .b false, .b false, .s [], zerosX, newX0 .nil, iI (.o .lt (.v 1) (.i 0)) (.i 0) (iI (.o .lt (.i maxB) (.v 1)) (.i maxB) (.v 1)), .b false, .nil, .i 0]
  unfold bpt
  exact congrArg (fun l : List D => l.getD i .u) h
theorem initS_ok (e : En) (h0 : 0 ≤ (e.ρ 1).toI) (h1 : (e.ρ 1).toI ≤ 255) : initS.B e = true := by
  refine (stOX_iff e _ _ _).2 ?_
  have e9 : (bpt (stS0.den e) 9).toR = [] := by rw [stS0_pt]; rfl
  have e7 : (bpt (stS0.den e) 7).toI = (e.ρ 1).toI := by
    rw [stS0_pt]
    show (bif decide ((e.ρ 1).toI < 0) then (0 : Int) else (bif decide ((1099511627776 : Int) < (e.ρ 1).toI) then 1099511627776 else (e.ρ 1).toI)) = _
    rw [decide_eq_false (by omega), decide_eq_false (by omega)]; rfl
  have e0 : (bpt (stS0.den e) 0).toI = 0 := by rw [stS0_pt]; rfl
  refine ⟨Int.le_refl _, h0, ?_, ?_, ?_⟩
  · rw [e9]
    show (0 : Int) = if (0 : Int) < (e.ρ 1).toI then 0 else (e.ρ 1).toI
    split <;> omega
  · rw [e9, e7]
    show (e.ρ 1).toI = (e.ρ 1).toI - 0
    omega
  · rw [e9, e0]
    exact ⟨fun i hi => (by simp at hi), fun i hi => (by simp at hi), fun i hi => (by simp at hi), fun hi => (by simp at hi), fun i hi => (by simp at hi), fun _ => rfl, fun i hi => (by simp at hi)⟩
/-! The loops. -/
def stRw : X := (compX 11 (.v 4)).getD 9 .nil
def stSt (i : X) : X := .u (.wrap .i64) (.o (.rI 0) stRw i)
def inv2 : X := .o .eq (.v 7) (.t .i (.o .eq (.v 6) (.i 0)) (.i 0) (stSt (.o .add (.v 6) (.i (-1)))))
def LpS : Nat → Option LJ := fun b => bif Nat.beq b 2 then some ⟨inv1, mkSub (.u .rlen (.v 0)) (.v 2), none⟩ else bif Nat.beq b 6 then some ⟨inv2, mkSub (.u .rlen stRw) (.v 6), none⟩ else none
theorem LpS_ok : ∀ n li g, LpS n = some li → li.fn = some g → IsLoop g := fun n li g hl hg => by
  unfold LpS at hl
  cases hb : Nat.beq n 2 with
  | true => rw [hb] at hl; cases hl; cases hg
  | false =>
    rw [hb] at hl
    cases hc : Nat.beq n 6 with
    | true => rw [hc] at hl; cases hl; cases hg
    | false => rw [hc] at hl; cases hl
def fewR : X := .u .not (.o .lt (.i 100) (.u .rlen stRw))
def pre2 : X := .o .and stP (.o .and fewR (.u .not (.o .lt (.v 6) (.i 0))))
def dS : X := .o .add (mulC (.v 7) (-1)) (stSt (.v 6))
def neS (n : Int) : X := .u .not (.o .eq dS (.i n))
def chkS : X := .o .or (.o .or (.o .or (.o .and (.o .and (.o .and (.o .and (.o .lt (.i 0) (.v 6)) (neS 3)) (neS 6)) (neS 12)) (neS 24)) (.o .and (.o .eq (.v 6) (.i 0)) (.u .not (.o .eq (stSt (.v 6)) (.i 0))))) (.u .not (.o .lt (.u (.wrap .u32) (.o (.rI 1) stRw (.v 6))) (.i 2097152)))) (.o .lt (mulC (.v 6) 24) (stSt (.v 6)))
def nx2 : X := inv2.sub 6 [.o .add (.v 6) (.i 1), stSt (.v 6)]
def lemS2 : List X := [impS (.o .and pre2 inv2) (.u .not (.o .and (.o .lt (.v 6) (.u .rlen stRw)) chkS)), impS (.u .not (.o .lt (.v 6) (.i 0))) nx2, impS pre2 (.u .not (.o .lt (stSt (.v 6)) (.i 0))), impS pre2 (.u .not (.o .lt (.i 2400) (stSt (.v 6))))]
theorem stSt_I (e : En) (i : X) : (stSt i).I e = IntKind.i64.wrap (stT (bpt (e.ρ 4) 9).toR (i.I e).toNat) := by
  show IntKind.i64.wrap (((((((bp4 9).den e).toR).getD (i.I e).toNat []).getD 0 (.i 0))).toI) = _
  rw [bp4_den e 9 (by omega)]; rfl
theorem stT_rg {l : List (List A)} {now : Int} (h : RowsOk l now) (hl : l.length ≤ 100) (k : Nat) : 0 ≤ stT l k ∧ stT l k ≤ 2400 := by
  rcases Nat.lt_or_ge k l.length with hk | hk
  · have := h.ge k hk; have := h.le k hk; omega
  · have h0 : stT l k = 0 := by
      unfold stT
      rw [List.getD_eq_getElem?_getD, List.getElem?_eq_none hk]; rfl
    omega
theorem stSt_at {e : En} {now : Int} (h : RowsOk (bpt (e.ρ 4) 9).toR now) (hl : (bpt (e.ρ 4) 9).toR.length ≤ 100) (i : X) : (stSt i).I e = stT (bpt (e.ρ 4) 9).toR (i.I e).toNat ∧ 0 ≤ (stSt i).I e ∧ (stSt i).I e ≤ 2400 := by
  have h1 := stT_rg h hl (i.I e).toNat
  have h2 : (stSt i).I e = stT (bpt (e.ρ 4) 9).toR (i.I e).toNat := by
    rw [stSt_I]
    exact wrap_in (by show (-9223372036854775808 : Int) ≤ _; omega) (by show _ ≤ (9223372036854775807 : Int); omega)
  exact ⟨h2, by omega, by omega⟩
theorem rlen9 (e : En) : (X.u .rlen stRw).I e = (((bpt (e.ρ 4) 9).toR.length : Nat) : Int) := by
  show ((((bp4 9).den e).toR.length : Nat) : Int) = _
  rw [bp4_den e 9 (by omega)]
theorem pre2_out {e : En} (h : pre2.B e = true) : StOk (e.ρ 4) (e.ρ 3).toI (e.ρ 1).toI ∧ (bpt (e.ρ 4) 9).toR.length ≤ 100 ∧ 0 ≤ (e.ρ 6).toI := by
  have h : (stP.B e && (!decide ((100 : Int) < (X.u .rlen stRw).I e) && !decide ((e.ρ 6).toI < 0))) = true := h
  rw [Bool.and_eq_true, Bool.and_eq_true, Bool.not_eq_true', Bool.not_eq_true', decide_eq_false_iff_not, decide_eq_false_iff_not, rlen9] at h
  exact ⟨(stP_iff e).1 h.1, by omega, by omega⟩
theorem mulC_den (e : En) (x : X) (c : Int) : (mulC x c).I e = x.I e * c := mulC_I e x c
theorem lemS2_ok (e : En) : ∀ x ∈ lemS2, x.B e = true := by
  refine all_cons' (impS_ok fun h => ?_) (all_cons' (impS_ok fun h => ?_) (all_cons' (impS_ok fun h => ?_) (all_cons' (impS_ok fun h => ?_) all_nil')))
  · have h : (pre2.B e && inv2.B e) = true := h
    rw [Bool.and_eq_true] at h
    obtain ⟨hp, hi⟩ := h
    obtain ⟨hs, hl, h0⟩ := pre2_out hp
    have hi : (e.ρ 7).toI = bif decide ((e.ρ 6).toI = 0) then 0 else (stSt (.o .add (.v 6) (.i (-1)))).I e := of_decide_eq_true hi
    obtain ⟨a1, a2, a3⟩ := stSt_at hs.rows hl (.v 6)
    obtain ⟨b1, b2, b3⟩ := stSt_at hs.rows hl (.o .add (.v 6) (.i (-1)))
    have e6 : (X.v 6).I e = (e.ρ 6).toI := rfl
    have e5 : (X.o .add (.v 6) (.i (-1))).I e = (e.ρ 6).toI + (-1) := rfl
    rw [e6] at a1
    rw [e5] at b1
    show (!(decide ((e.ρ 6).toI < (X.u .rlen stRw).I e) && chkS.B e)) = true
    rw [rlen9]
    by_cases hlt : (e.ρ 6).toI < (((bpt (e.ρ 4) 9).toR.length : Nat) : Int)
    · rw [decide_eq_true hlt, Bool.true_and]
      obtain ⟨k, hk⟩ : ∃ k : Nat, (e.ρ 6).toI = (k : Int) := ⟨(e.ρ 6).toI.toNat, by omega⟩
      have hk' : (e.ρ 6).toI.toNat = k := by omega
      have hkl : k < (bpt (e.ρ 4) 9).toR.length := by omega
      have had := hs.rows.ad k hkl
      have hle := hs.rows.le k hkl
      rw [hk'] at a1
      have hC : (X.u (.wrap .u32) (.o (.rI 1) stRw (.v 6))).I e = adT (bpt (e.ρ 4) 9).toR k := by
        show IntKind.u32.wrap (((((((bp4 9).den e).toR).getD (e.ρ 6).toI.toNat []).getD 1 (.i 0))).toI) = _
        rw [bp4_den e 9 (by omega), hk']
        exact wrap_in (by show (0 : Int) ≤ _; exact had.1) (by show _ ≤ (4294967295 : Int); have := had.2; unfold adT adR at this; omega)
      have hd : dS.I e = (e.ρ 7).toI * (-1) + (stSt (.v 6)).I e := by
        show (mulC (.v 7) (-1)).I e + _ = _
        rw [mulC_den]; rfl
      have hm : (mulC (.v 6) 24).I e = (e.ρ 6).toI * 24 := mulC_den e _ _
      show (!((((decide (0 < (e.ρ 6).toI) && !decide (dS.I e = 3) && !decide (dS.I e = 6) && !decide (dS.I e = 12) && !decide (dS.I e = 24)) || (decide ((e.ρ 6).toI = 0) && !decide ((stSt (.v 6)).I e = 0))) || !decide ((X.u (.wrap .u32) (.o (.rI 1) stRw (.v 6))).I e < 2097152)) || decide ((mulC (.v 6) 24).I e < (stSt (.v 6)).I e))) = true
      rw [hC, hm, hd, hi, decide_eq_true had.2, decide_eq_false (by omega : ¬ (e.ρ 6).toI * 24 < (stSt (.v 6)).I e)]
      rcases Nat.eq_zero_or_pos k with hz | hz
      · have hf := hs.rows.fst (by omega)
        rw [hz] at a1
        rw [decide_eq_false (by omega : ¬ (0 : Int) < (e.ρ 6).toI), decide_eq_true (by omega : (e.ρ 6).toI = 0), decide_eq_true (by omega : (stSt (.v 6)).I e = 0)]
        rfl
      · have hg := hs.rows.gap (k - 1) (by omega)
        have e8 : k - 1 + 1 = k := by omega
        rw [e8] at hg
        have e9 : ((e.ρ 6).toI + (-1)).toNat = k - 1 := by omega
        rw [e9] at b1
        rw [decide_eq_false (by omega : ¬ (e.ρ 6).toI = 0)]
        simp only [cond_false, Bool.false_and, Bool.or_false, Bool.not_true]
        rw [b1, a1]
        unfold isGap at hg
        rcases hg with hg | hg | hg | hg
        · rw [decide_eq_true (by omega : stT (bpt (e.ρ 4) 9).toR (k - 1) * -1 + stT (bpt (e.ρ 4) 9).toR k = 3)]; simp
        · rw [decide_eq_true (by omega : stT (bpt (e.ρ 4) 9).toR (k - 1) * -1 + stT (bpt (e.ρ 4) 9).toR k = 6)]; simp
        · rw [decide_eq_true (by omega : stT (bpt (e.ρ 4) 9).toR (k - 1) * -1 + stT (bpt (e.ρ 4) 9).toR k = 12)]; simp
        · rw [decide_eq_true (by omega : stT (bpt (e.ρ 4) 9).toR (k - 1) * -1 + stT (bpt (e.ρ 4) 9).toR k = 24)]; simp
    · rw [decide_eq_false hlt, Bool.false_and]; rfl
  · have h : (!decide ((e.ρ 6).toI < 0)) = true := h
    rw [Bool.not_eq_true', decide_eq_false_iff_not] at h
    have e1 : (stSt (.o .add (.o .add (.v 6) (.i 1)) (.i (-1)))).I e = (stSt (.v 6)).I e := by
      rw [stSt_I, stSt_I]
      have : (X.o .add (.o .add (.v 6) (.i 1)) (.i (-1))).I e = (X.v 6).I e := by
        show (e.ρ 6).toI + 1 + (-1) = (e.ρ 6).toI
        omega
      rw [this]
    refine decide_eq_true ?_
    show (stSt (.v 6)).I e = bif decide ((e.ρ 6).toI + 1 = 0) then 0 else (stSt (.o .add (.o .add (.v 6) (.i 1)) (.i (-1)))).I e
    rw [decide_eq_false (by omega), cond_false, e1]
  · obtain ⟨hs, hl, h0⟩ := pre2_out h
    obtain ⟨a1, a2, a3⟩ := stSt_at hs.rows hl (.v 6)
    show (!decide ((stSt (.v 6)).I e < 0)) = true
    rw [decide_eq_false (by omega)]; rfl
  · obtain ⟨hs, hl, h0⟩ := pre2_out h
    obtain ⟨a1, a2, a3⟩ := stSt_at hs.rows hl (.v 6)
    show (!decide ((2400 : Int) < (stSt (.v 6)).I e)) = true
    rw [decide_eq_false (by omega)]; rfl
def lemS : Nat → List X := fun b => bif Nat.beq b 2 then lemS1 else bif Nat.beq b 6 then lemS2 else []
theorem lemS_ok : ∀ b, ∀ x ∈ lemS b, ∀ e : En, x.B e = true := fun b x hx e => by
  unfold lemS at hx
  cases hb : Nat.beq b 2 with
  | true => rw [hb] at hx; exact lemS1_ok e x hx
  | false =>
    rw [hb] at hx
    cases hc : Nat.beq b 6 with
    | true => rw [hc] at hx; exact lemS2_ok e x hx
    | false => rw [hc] at hx; cases hx
end
end Go.Proofs.YtafkhelomlmlpaaGreat
