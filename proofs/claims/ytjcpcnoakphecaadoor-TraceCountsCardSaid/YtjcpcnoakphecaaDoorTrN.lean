/-
  Rising stamps, and where rows differ: the lemmas of the loops. Conditions: none.
-/
import Derived.Test.YtjcpcnoakphecaaDoorTrM
set_option linter.unusedSectionVars false
set_option linter.unusedVariables false
set_option linter.unusedSimpArgs false
namespace Go.Proofs.YtjcpcnoakphecaaDoor
open Go Go.AE Go.SX Go.RowKit
set_option maxRecDepth 1000000
noncomputable section
def pvX (i : X) : X := .o .add i (.i (-1))
def stp (l i : X) : X := fSt l (pvX i)
def dX (l i : X) : X := .o .add (fSt l i) (.o .mul (stp l i) (.i (-1)))
def neX (l i : X) (n : Int) : X := .u .not (.o .eq (dX l i) (.i n))
def and4 (l i : X) : X := .o .and (.o .and (.o .and (neX l i 3) (neX l i 6)) (neX l i 12)) (neX l i 24)
def st0 (l i : X) : X := .o .lt (fSt l i) (.i 0)
def riN (l i q : X) : X := .t .b (.o .eq i (.i 0)) (.u .not (st0 l i)) (.o .and (.u .not (.o .or (.u .not (.o .lt (stp l i) (fSt l i))) (.o .lt (stp l i) (.i 0)))) (.o .and (.u .not (and4 l i)) q))
def riC1 (l i : X) : X := .o .and (.o .and (.u .not (st0 l i)) (.o .lt (.i 0) i)) (.u .not (.o .lt (fSt l i) (stp l i)))
def riCc (l i : X) : X := .t .b (riC1 l i) (.o .eq (wyX (dX l i)) (.i 4)) (.o .or (st0 l i) (.o .lt (.i 0) i))
def farD (l i : X) : X := .o .lt (.i 9223372036854775807) (dX l i)
def tr : X := .b true
theorem stp_I (e : En) (l i : X) {n : Nat} (h : (i.I e).toNat = n + 1) (h0 : 0 ≤ i.I e) : (stp l i).I e = rSt (rowN (l.R e) n) := by
  show rSt (rowN (l.R e) (i.I e + (-1)).toNat) = _
  rw [show (i.I e + (-1)).toNat = n from by omega]
theorem d_I (e : En) (l i : X) : (dX l i).I e = (fSt l i).I e - (stp l i).I e := by
  show (fSt l i).I e + (stp l i).I e * (-1) = _
  omega
theorem ne_B (e : En) (l i : X) (n : Int) : (neX l i n).B e = !decide ((dX l i).I e = n) := rfl
theorem tb_BB (e : En) (c a b : X) : (X.t .b c a b).B e = bif c.B e then a.B e else b.B e := rfl
theorem not_BB (e : En) (a : X) : (X.u .not a).B e = !a.B e := rfl
theorem or_BB (e : En) (a b : X) : (X.o .or a b).B e = (a.B e || b.B e) := rfl
theorem lt_BB (e : En) (a b : X) : (X.o .lt a b).B e = decide (a.I e < b.I e) := rfl
theorem eq_BB (e : En) (a b : X) : (X.o .eq a b).B e = decide (a.I e = b.I e) := rfl
theorem and_BB (e : En) (a b : X) : (X.o .and a b).B e = (a.B e && b.B e) := rfl
theorem and4_B (e : En) (l i : X) : (and4 l i).B e = ((((!decide ((dX l i).I e = 3)) && (!decide ((dX l i).I e = 6))) && (!decide ((dX l i).I e = 12))) && (!decide ((dX l i).I e = 24))) := by
  unfold and4
  rw [and_BB, and_BB, and_BB, ne_B, ne_B, ne_B, ne_B]
theorem st0_B (e : En) (l i : X) : (st0 l i).B e = decide ((fSt l i).I e < 0) := rfl
theorem riN_B (e : En) (l i q : X) : (riN l i q).B e = bif decide (i.I e = 0) then !(st0 l i).B e else ((!((!decide ((stp l i).I e < (fSt l i).I e)) || decide ((stp l i).I e < 0))) && ((!(and4 l i).B e) && q.B e)) := by
  unfold riN
  rw [tb_BB, eq_BB, not_BB, and_BB, not_BB, or_BB, not_BB, lt_BB, lt_BB, and_BB, not_BB]
  rfl
theorem riC1_B (e : En) (l i : X) : (riC1 l i).B e = (((!(st0 l i).B e) && decide (0 < i.I e)) && !decide ((fSt l i).I e < (stp l i).I e)) := by
  unfold riC1
  rw [and_BB, and_BB, not_BB, not_BB, lt_BB, lt_BB]
  rfl
theorem riCc_B (e : En) (l i : X) : (riCc l i).B e = bif (riC1 l i).B e then decide (wayF ((dX l i).I e) = 4) else ((st0 l i).B e || decide (0 < i.I e)) := by
  unfold riCc
  rw [tb_BB, eq_BB, or_BB, lt_BB]
  rfl
theorem riS_0 (l : List (List A)) : riS l 0 = decide (0 ≤ rSt (rowN l 0)) := rfl
theorem riS_1 (l : List (List A)) (n : Nat) : riS l (n + 1) = decide (wayF (rSt (rowN l (n + 1)) - rSt (rowN l n)) < 4) := rfl
theorem st_at (e : En) (l i : X) {n : Nat} (h : (i.I e).toNat = n) : (fSt l i).I e = rSt (rowN (l.R e) n) := by
  rw [st_I, ← h]
theorem law_b (s p : Int) (hp : 0 ≤ p) : ((!((!decide (p < s)) || decide (p < 0))) && ((!((((!decide (s - p = 3)) && (!decide (s - p = 6))) && (!decide (s - p = 12))) && (!decide (s - p = 24)))) && true)) = decide (wayF (s - p) < 4) := by
  refine Bool.eq_iff_iff.2 ?_
  rw [decide_eq_true_eq, way_d]
  simp only [Bool.and_true, Bool.and_eq_true, Bool.not_eq_true', Bool.or_eq_false_iff, Bool.not_eq_false', Bool.and_eq_false_iff, decide_eq_false_iff_not, decide_eq_true_eq]
  omega
theorem riN_ok (e : En) (l i q : X) (h : RiP (l.R e) (i.I e) (q.B e)) (hl : i.I e < (((l.R e).length : Nat) : Int)) : (riN l i q).B e = (q.B e && riS (l.R e) (i.I e).toNat) := by
  obtain ⟨h0, h1, h2⟩ := h
  rw [riN_B]
  cases hn : (i.I e).toNat with
  | zero =>
    rw [hn] at h2
    have h2 : q.B e = true := h2
    rw [h2, decide_eq_true (show i.I e = 0 from by omega), riS_0, st0_B, st_at e l i hn]
    show (!decide (_ < 0)) = (true && _)
    rw [Bool.true_and, ← decide_not]
    exact decide_eq_decide.2 (by omega)
  | succ n =>
    rw [hn] at h2
    rw [decide_eq_false (show ¬ i.I e = 0 from by omega)]
    simp only [cond_false]
    cases hq : q.B e with
    | false => simp
    | true =>
      rw [hq] at h2
      have hp := ri_pos (l.R e) n h2.symm
      rw [and4_B, d_I, stp_I e l i hn h0, st_at e l i hn, riS_1, Bool.true_and]
      exact law_b _ _ hp
theorem prog_b (s p : Int) (hp : 0 ≤ p) : (bif ((!decide (s < 0)) && true) && !decide (s < p) then decide (wayF (s - p) = 4) else (decide (s < 0) || true)) = !decide (wayF (s - p) < 4) := by
  have hw := way_d (s - p)
  have hr := wayF_rg (s - p)
  by_cases h1 : s < 0
  · rw [decide_eq_true h1]
    rw [decide_eq_false (show ¬ wayF (s - p) < 4 from fun q => by have := hw.1 q; omega)]; rfl
  · by_cases h2 : s < p
    · rw [decide_eq_true h2, decide_eq_false h1]
      rw [decide_eq_false (show ¬ wayF (s - p) < 4 from fun q => by have := hw.1 q; omega)]; rfl
    · rw [decide_eq_false h1, decide_eq_false h2, ← decide_not]
      show decide (wayF (s - p) = 4) = _
      exact decide_eq_decide.2 (by omega)
theorem riCc_ok (e : En) (l i : X) (h : RiP (l.R e) (i.I e) true) (hl : i.I e < (((l.R e).length : Nat) : Int)) : (riCc l i).B e = !riS (l.R e) (i.I e).toNat := by
  obtain ⟨h0, h1, h2⟩ := h
  rw [riCc_B, riC1_B, st0_B]
  cases hn : (i.I e).toNat with
  | zero =>
    rw [decide_eq_false (show ¬ 0 < i.I e from by omega), riS_0, st_at e l i hn]
    rw [Bool.and_false, Bool.false_and]
    simp only [cond_false, Bool.or_false]
    rw [← decide_not]
    exact decide_eq_decide.2 (by omega)
  | succ n =>
    rw [hn] at h2
    have hp := ri_pos (l.R e) n h2.symm
    rw [decide_eq_true (show 0 < i.I e from by omega), d_I, stp_I e l i hn h0, st_at e l i hn, riS_1]
    exact prog_b _ _ hp
def lemRi (l i q : X) : List X := [
  impS (.o .and (riPX l i q) (ltL l i)) (riPX l (i1 i) (riN l i q)),
  impS (.o .and (riPX l i q) (.u .not (ltL l i))) (beq2 q (riX l))]
def lemRp (l i : X) : List X := [
  impS (riPX l i tr) (.o .or (.u .not (riC1 l i)) (.u .not (farD l i))),
  impS (.o .and (.o .and (riPX l i tr) (ltL l i)) (riCc l i)) (.u .not (riX l)),
  impS (.o .and (.o .and (riPX l i tr) (ltL l i)) (.u .not (riCc l i))) (riPX l (i1 i) tr),
  impS (.o .and (riPX l i tr) (.u .not (ltL l i))) (riX l)]
theorem lemRi_ok (l i q : X) : AllB (lemRi l i q) := allB1 (fun e => impS_ok fun h => by
  obtain ⟨h1, h2⟩ := and_out h
  have h1 := (riP_iff e _ _ _).1 h1
  have h3 := ri_next h1 (lt_out h2)
  rw [← riN_ok e l i q h1 (lt_out h2)] at h3
  exact (riP_iff e _ _ _).2 h3) (allB1 (fun e => impS_ok fun h => by
  obtain ⟨h1, h2⟩ := and_out h
  exact beq2i (ri_end ((riP_iff e _ _ _).1 h1) (nlt_out h2))) allB0)
theorem lemRp_ok (l i : X) : AllB (lemRp l i) := allB1 (fun e => impS_ok fun h => by
  obtain ⟨h0, h1, h2⟩ := (riP_iff e _ _ _).1 h
  have h2 : true = riF (l.R e) (i.I e).toNat := h2
  refine (wor_iff e _ _).2 ?_
  by_cases hi : 0 < i.I e
  · refine .inr (not_in (decide_eq_false ?_))
    obtain ⟨n, hn⟩ : ∃ n, (i.I e).toNat = n + 1 := ⟨(i.I e).toNat - 1, by omega⟩
    rw [hn] at h2
    have hp := ri_pos (l.R e) n h2.symm
    show ¬ (9223372036854775807 : Int) < (dX l i).I e
    rw [d_I, stp_I e l i hn h0, st_I]
    have : rSt (rwO e l i) ≤ 9223372036854775807 := (wrap_range .i64 _).2
    omega
  · refine .inl (not_in ?_)
    rw [riC1_B, decide_eq_false hi, Bool.and_false, Bool.false_and]) (allB1 (fun e => impS_ok fun h => by
  obtain ⟨h1, h2⟩ := and_out h
  obtain ⟨h1, h3⟩ := and_out h1
  have h1 := (riP_iff e _ _ _).1 h1
  rw [riCc_ok e l i h1 (lt_out h3), Bool.not_eq_true'] at h2
  exact not_in (ri_bad h1 (lt_out h3) h2)) (allB1 (fun e => impS_ok fun h => by
  obtain ⟨h1, h2⟩ := and_out h
  obtain ⟨h1, h3⟩ := and_out h1
  have h1 := (riP_iff e _ _ _).1 h1
  have h2 := not_out h2
  rw [riCc_ok e l i h1 (lt_out h3), Bool.not_eq_false'] at h2
  have h4 := ri_next h1 (lt_out h3)
  refine (riP_iff e _ _ _).2 ?_
  have h4 : RiP (l.R e) (i.I e + 1) (true && riS (l.R e) (i.I e).toNat) := h4
  rw [h2] at h4
  exact h4) (allB1 (fun e => impS_ok fun h => by
  obtain ⟨h1, h2⟩ := and_out h
  exact (ri_end ((riP_iff e _ _ _).1 h1) (nlt_out h2)).symm) allB0)))
def eqX' (a b i : X) : X := .o .and (.o .eq (fSt a i) (fSt b i)) (.o .and (.o .eq (fAd a i) (fAd b i)) (.o .and (.o .eq (fKd a i) (fKd b i)) (.o .and (.o .beq (fWr a i) (fWr b i)) (.o .eq (fDa a i) (fDa b i)))))
theorem eq_B' (e : En) (a b i : X) : (eqX' a b i).B e = eqR (rwO e a i) (rwO e b i) := by
  unfold eqR
  rw [← st_I, ← st_I, ← ad_I', ← ad_I', ← kd_I, ← kd_I, ← wr_B, ← wr_B, ← da_I, ← da_I]
  rfl
def m1 : X := .i (-1)
def minX (a b : X) : X := .t .i (.o .lt (rln b) (rln a)) (rln b) (rln a)
theorem min_I (e : En) (a b : X) : (minX a b).I e = if (((b.R e).length : Nat) : Int) < (((a.R e).length : Nat) : Int) then (((b.R e).length : Nat) : Int) else (((a.R e).length : Nat) : Int) := by
  show (bif decide ((((b.R e).length : Nat) : Int) < (((a.R e).length : Nat) : Int)) then _ else _) = _
  rw [Bool.cond_decide]; rfl
def otN (a b i o : X) : X := .t .i (.o .and (.o .lt o (.i 0)) (.o .or (.u .not (ltL b i)) (.u .not (eqX' a b i)))) i o
def finO (a b o : X) : X := .t .i (.o .and (.o .lt o (.i 0)) (.o .lt (rln a) (rln b))) (rln a) o
theorem ot_B (e : En) (a b i : X) (h0 : 0 ≤ i.I e) : ((!decide (i.I e < (((b.R e).length : Nat) : Int))) || !(eqX' a b i).B e) = otB (a.R e) (b.R e) (i.I e).toNat := by
  rw [eq_B']
  unfold otB
  congr 1
  rw [← decide_not]
  exact decide_eq_decide.2 (by omega)
def lemOt (a b i o : X) : List X := [
  impS (.o .and (otPX a b i o) (ltL a i)) (otPX a b (i1 i) (otN a b i o)),
  impS (.o .and (otPX a b i o) (.u .not (ltL a i))) (eq2' (finO a b o) (otX a b)),
  impS (.o .and (otPX a b i o) (few9 i)) (.o .and (.u .not (.o .lt o (.i (-1)))) (.u .not (.o .lt (.i 1000) o)))]
def lemOp (a b i : X) : List X := [
  impS (.o .lt i (minX a b)) (.o .and (ltL a i) (ltL b i)),
  impS (.o .and (otPX a b i m1) (.o .and (ltL a i) (.o .and (ltL b i) (.u .not (eqX' a b i))))) (eq2' i (otX a b)),
  impS (.o .and (otPX a b i m1) (.o .and (ltL a i) (.o .and (ltL b i) (eqX' a b i)))) (.o .and (otPX a b (i1 i) m1) (.u .not (.o .lt (rln b) (i1 i)))),
  impS (.o .and (.o .and (otPX a b i m1) (.u .not (.o .lt (rln b) i))) (.o .and (.u .not (.o .lt i (minX a b))) (.o .eq (rln a) (rln b)))) (eq2' m1 (otX a b)),
  impS (.o .and (.o .and (otPX a b i m1) (.u .not (.o .lt (rln b) i))) (.o .and (.u .not (.o .lt i (minX a b))) (.u .not (.o .eq (rln a) (rln b))))) (eq2' (minX a b) (otX a b))]
theorem lemOt_ok (a b i o : X) : AllB (lemOt a b i o) := allB1 (fun e => impS_ok fun h => by
  obtain ⟨h1, h2⟩ := and_out h
  have h1 := (otP_iff e _ _ _ _).1 h1
  have h3 := ot_next h1 (lt_out h2)
  refine (otP_iff e _ _ _ _).2 ?_
  have e1 : (otN a b i o).I e = if o.I e < 0 ∧ otB (a.R e) (b.R e) (i.I e).toNat = true then i.I e else o.I e := by
    show (bif decide (o.I e < 0) && ((!decide (i.I e < (((b.R e).length : Nat) : Int))) || !(eqX' a b i).B e) then i.I e else o.I e) = _
    rw [ot_B e a b i h1.1]
    by_cases hq : o.I e < 0
    · rw [decide_eq_true hq]
      cases otB (a.R e) (b.R e) (i.I e).toNat <;> simp [hq]
    · rw [decide_eq_false hq]
      simp [hq]
  rw [e1]; exact h3) (allB1 (fun e => impS_ok fun h => by
  obtain ⟨h1, h2⟩ := and_out h
  obtain ⟨h3, h4, h5⟩ := (otP_iff e _ _ _ _).1 h1
  have h2 : ¬ i.I e < (((a.R e).length : Nat) : Int) := nlt_out h2
  rw [show (i.I e).toNat = (a.R e).length from by omega] at h5
  refine eq2i ?_
  show (bif decide (o.I e < 0) && decide ((((a.R e).length : Nat) : Int) < (((b.R e).length : Nat) : Int)) then (((a.R e).length : Nat) : Int) else o.I e) = otG (a.R e) (b.R e)
  unfold otG
  rw [← h5]
  by_cases hq : o.I e < 0
  · by_cases hr : (a.R e).length < (b.R e).length
    · rw [decide_eq_true hq, decide_eq_true (show (((a.R e).length : Nat) : Int) < (((b.R e).length : Nat) : Int) from by omega), if_pos ⟨hq, hr⟩]; rfl
    · rw [decide_eq_true hq, decide_eq_false (show ¬ (((a.R e).length : Nat) : Int) < (((b.R e).length : Nat) : Int) from by omega), if_neg (fun k => hr k.2)]; rfl
  · rw [decide_eq_false hq, if_neg (fun k => hq k.1)]; rfl) (allB1 (fun e => impS_ok fun h => by
  obtain ⟨h1, h2⟩ := and_out h
  obtain ⟨h3, h4, h5⟩ := (otP_iff e _ _ _ _).1 h1
  have h2 : ¬ (1000 : Int) < i.I e := nlt_out h2
  have := ot_rg (a.R e) (b.R e) (i.I e).toNat
  refine and_B (nlt_in ?_) (nlt_in ?_)
  · show ¬ o.I e < -1
    rw [h5]; omega
  · show ¬ (1000 : Int) < o.I e
    rw [h5]; omega) allB0))
theorem lemOp_ok (a b i : X) : AllB (lemOp a b i) := allB1 (fun e => impS_ok fun h => by
  have h : i.I e < (minX a b).I e := lt_out h
  rw [min_I] at h
  refine and_B (decide_eq_true ?_) (decide_eq_true ?_)
  · show i.I e < (((a.R e).length : Nat) : Int)
    split at h <;> omega
  · show i.I e < (((b.R e).length : Nat) : Int)
    split at h <;> omega) (allB1 (fun e => impS_ok fun h => by
  obtain ⟨h1, h2⟩ := and_out h
  obtain ⟨ha, h2⟩ := and_out h2
  obtain ⟨hb, hq⟩ := and_out h2
  have h1 := (otP_iff e _ _ _ _).1 h1
  have ho := ot_B e a b i h1.1
  rw [not_out hq] at ho
  exact eq2i (ot_hit h1 (lt_out ha) (by rw [← ho]; simp)).symm) (allB1 (fun e => impS_ok fun h => by
  obtain ⟨h1, h2⟩ := and_out h
  obtain ⟨ha, h2⟩ := and_out h2
  obtain ⟨hb, hq⟩ := and_out h2
  have h1 := (otP_iff e _ _ _ _).1 h1
  have hb : i.I e < (((b.R e).length : Nat) : Int) := lt_out hb
  have ho := ot_B e a b i h1.1
  rw [hq, decide_eq_true hb] at ho
  have h3 := ot_next h1 (lt_out ha)
  rw [← ho, if_neg (by simp)] at h3
  exact and_B ((otP_iff e _ _ _ _).2 h3) (nlt_in (by show ¬ (((b.R e).length : Nat) : Int) < i.I e + 1; omega))) (allB1 (fun e => impS_ok fun h => by
  obtain ⟨h1, h2⟩ := and_out h
  obtain ⟨h1, hb⟩ := and_out h1
  obtain ⟨hm, hq⟩ := and_out h2
  have h1 := (otP_iff e _ _ _ _).1 h1
  have hm : ¬ i.I e < (minX a b).I e := nlt_out hm
  rw [min_I] at hm
  have hq : (((a.R e).length : Nat) : Int) = (((b.R e).length : Nat) : Int) := eq_out hq
  have h3 := ot_end h1 (by split at hm <;> omega)
  rw [if_neg (by omega)] at h3
  exact eq2i h3.symm) (allB1 (fun e => impS_ok fun h => by
  obtain ⟨h1, h2⟩ := and_out h
  obtain ⟨h1, hb⟩ := and_out h1
  obtain ⟨hm, hq⟩ := and_out h2
  have h1 := (otP_iff e _ _ _ _).1 h1
  have hb : ¬ (((b.R e).length : Nat) : Int) < i.I e := nlt_out hb
  have hm : ¬ i.I e < (minX a b).I e := nlt_out hm
  have hq : ¬ (((a.R e).length : Nat) : Int) = (((b.R e).length : Nat) : Int) := (wno_iff e _ _).1 hq
  refine eq2i ?_
  rw [min_I] at hm ⊢
  show _ = otG (a.R e) (b.R e)
  split at hm
  · rename_i hlt
    rw [if_pos hlt]
    have hi : i.I e = (((b.R e).length : Nat) : Int) := by omega
    have h3 := ot_hit h1 (show i.I e < (((a.R e).length : Nat) : Int) from by omega) (by unfold otB; rw [decide_eq_true (show (b.R e).length ≤ (i.I e).toNat from by omega)]; rfl)
    rw [h3, hi]
  · rename_i hlt
    rw [if_neg hlt]
    have h3 := ot_end h1 (show ¬ i.I e < (((a.R e).length : Nat) : Int) from hm)
    rw [h3, if_pos (by omega)]) allB0))))
end
end Go.Proofs.YtjcpcnoakphecaaDoor
