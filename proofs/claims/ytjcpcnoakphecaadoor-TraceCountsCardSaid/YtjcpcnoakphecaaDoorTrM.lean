/-
  Counting accesses: the lemmas of the loops. Conditions: none.
-/
import Derived.Test.YtjcpcnoakphecaaDoorTrL
set_option linter.unusedSectionVars false
set_option linter.unusedVariables false
set_option linter.unusedSimpArgs false
namespace Go.Proofs.YtjcpcnoakphecaaDoor
open Go Go.AE Go.SX Go.RowKit
set_option maxRecDepth 1000000
noncomputable section
abbrev AllB (l : List X) : Prop := ∀ x ∈ l, ∀ e : En, x.B e = true
theorem allB1 {x : X} {l : List X} (h : ∀ e : En, x.B e = true) (hl : AllB l) : AllB (x :: l) := all_cons' (P := fun x : X => ∀ e : En, x.B e = true) h hl
theorem allB0 : AllB [] := all_nil'
def eq2' (a b : X) : X := .o .and (.o .eq a b) (.o .eq b a)
theorem eq2i {a b : X} {e : En} (h : a.I e = b.I e) : (eq2' a b).B e = true := and_B (eq_in h) (eq_in h.symm)
def beq2 (a b : X) : X := .o .and (.o .beq a b) (.o .beq b a)
theorem beq2i {a b : X} {e : En} (h : a.B e = b.B e) : (beq2 a b).B e = true := by
  refine and_B ?_ ?_
  · show (a.B e == b.B e) = true
    rw [h]; exact beq_self_eq_true _
  · show (b.B e == a.B e) = true
    rw [h]; exact beq_self_eq_true _
def i1 (i : X) : X := .o .add i (.i 1)
def ltL (l i : X) : X := .o .lt i (rln l)
abbrev rwO (e : En) (l i : X) : List A := rowN (l.R e) (i.I e).toNat
theorem kd_I (e : En) (l i : X) : (fKd l i).I e = rKd (rwO e l i) := rfl
theorem st_I (e : En) (l i : X) : (fSt l i).I e = rSt (rwO e l i) := rfl
theorem ad_I' (e : En) (l i : X) : (fAd l i).I e = rAd (rwO e l i) := rfl
theorem wr_B (e : En) (l i : X) : (fWr l i).B e = rWr (rwO e l i) := rfl
theorem da_I (e : En) (l i : X) : (fDa l i).I e = rDa (rwO e l i) := rfl
def cellX (r k : X) : X := .u (.wrap .i64) (.o (.rI 0) r k)
theorem cell_I (e : En) (r k : X) : (cellX r k).I e = cntA (r.R e) (k.I e) := rfl
def upX (r k : X) : X := .rset r k (.o .pair (.o .add (cellX r k) (.i 1)) .nil)
def bigX (x : X) : X := .o .lt (.i 9223372036854775807) (.o .add x (.i 1))
theorem big_no {e : En} {x : X} (h : x.I e ≤ 100000) : (bigX x).B e = false := by
  refine decide_eq_false ?_
  show ¬ (9223372036854775807 : Int) < x.I e + 1
  omega
def zerosX : Nat → X
  | 0 => .nil
  | 1 => .u .row (.o .pair (.i 0) .nil)
  | n + 2 => .o .rcat (.u .row (.o .pair (.i 0) .nil)) (zerosX (n + 1))
theorem zeros_R (e : En) : ∀ n, (zerosX n).R e = List.replicate n [.i 0]
  | 0 => rfl
  | 1 => rfl
  | n + 2 => by
    show [[A.i 0]] ++ (zerosX (n + 1)).R e = _
    rw [zeros_R e (n + 1)]; rfl
def endsX (r t : X) : Nat → X
  | 0 => .b true
  | n + 1 => .o .and (endsX r t n) (eq2' (cellX r (.i (n : Nat))) (cellX t (.i (n : Nat))))
theorem ends_ok {e : En} {r t : X} (h : r.R e = t.R e) : ∀ n, (endsX r t n).B e = true
  | 0 => rfl
  | n + 1 => and_B (ends_ok h n) (eq2i (by rw [cell_I, cell_I, h]))
def few9 (i : X) : X := .u .not (.o .lt (.i 1000) i)
def kd8 (l i : X) : X := .o .lt (fKd l i) (.i 8)
def lemKi (l i r : X) : List X := [
  impS (.o .and (kiPX l i r) (ltL l i)) (kiPX l (i1 i) (.t .r (kd8 l i) (upX r (fKd l i)) r)),
  impS (.o .and (kiPX l i r) (few9 i)) (.o .or (.u .not (kd8 l i)) (.u .not (bigX (cellX r (fKd l i))))),
  impS (.o .and (kiPX l i r) (.u .not (ltL l i))) (endsX r (kkX l) 8)]
theorem cn_cell {sz : Nat} {f : List A → Int} {l : List (List A)} {i : Int} {arr : List (List A)} (h : CnP sz f l i arr) (hi : ¬ 1000 < i) (k : Int) : cntA arr k ≤ 100000 := by
  obtain ⟨h0, h1, rfl⟩ := h
  have := (cn_bnd sz f l i.toNat k (by omega)).2
  omega
theorem lemKi_ok (l i r : X) : AllB (lemKi l i r) := allB1 (fun e => impS_ok fun h => by
  obtain ⟨h1, h2⟩ := and_out h
  have h3 := cn_next ((kiP_iff e _ _ _).1 h1) (lt_out h2)
  exact (kiP_iff e _ _ _).2 h3) (allB1 (fun e => impS_ok fun h => by
  obtain ⟨h1, h2⟩ := and_out h
  have h3 := cn_cell ((kiP_iff e _ _ _).1 h1) (nlt_out h2) ((fKd l i).I e)
  have h4 : (bigX (cellX r (fKd l i))).B e = false := big_no (by rw [cell_I]; exact h3)
  exact (wor_iff e _ _).2 (.inr (not_in h4))) (allB1 (fun e => impS_ok fun h => by
  obtain ⟨h1, h2⟩ := and_out h
  exact ends_ok (cn_end ((kiP_iff e _ _ _).1 h1) (nlt_out h2)) 8) allB0))
def whL (l i : X) : X := whX (fAd l i)
def lemPl (l i r : X) : List X := [
  impS (.o .and (plPX l i r) (ltL l i)) (plPX l (i1 i) (upX r (whL l i))),
  impS (.o .and (plPX l i r) (few9 i)) (.u .not (bigX (cellX r (whL l i)))),
  impS (.o .and (plPX l i r) (.u .not (ltL l i))) (endsX r (plX l) 9)]
theorem lemPl_ok (l i r : X) : AllB (lemPl l i r) := allB1 (fun e => impS_ok fun h => by
  obtain ⟨h1, h2⟩ := and_out h
  have h3 := cn_next ((plP_iff e _ _ _).1 h1) (lt_out h2)
  have h4 := whF_rg (rAd (rowN (l.R e) (i.I e).toNat))
  rw [decide_eq_true (show whR (rowN (l.R e) (i.I e).toNat) < ((9 : Nat) : Int) from by unfold whR; omega)] at h3
  exact (plP_iff e _ _ _).2 h3) (allB1 (fun e => impS_ok fun h => by
  obtain ⟨h1, h2⟩ := and_out h
  have h3 := cn_cell ((plP_iff e _ _ _).1 h1) (nlt_out h2) ((whL l i).I e)
  exact not_in (big_no (by rw [cell_I]; exact h3))) (allB1 (fun e => impS_ok fun h => by
  obtain ⟨h1, h2⟩ := and_out h
  exact ends_ok (cn_end ((plP_iff e _ _ _).1 h1) (nlt_out h2)) 9) allB0))
def rowC (l i : X) : X := .u .row (.o .pair (fSt l i) (.o .pair (fAd l i) (.o .pair (fKd l i) (.o .pair (fWr l i) (.o .pair (fDa l i) .nil)))))
def isW (l w i : X) : X := .o .eq (whL l i) w
def reqL (a b : X) : X := eq2' (rln a) (rln b)
def fldX (a b j : X) : X := .o .and (eq2' (fSt a j) (fSt b j)) (.o .and (eq2' (fAd a j) (fAd b j)) (.o .and (eq2' (fKd a j) (fKd b j)) (.o .and (beq2 (fWr a j) (fWr b j)) (eq2' (fDa a j) (fDa b j)))))
theorem fld_ok {e : En} {a b j : X} (h : a.R e = b.R e) : (fldX a b j).B e = true := by
  have h1 : rwO e a j = rwO e b j := by unfold rwO; rw [h]
  exact and_B (eq2i (by rw [st_I, st_I, h1])) (and_B (eq2i (by rw [ad_I', ad_I', h1])) (and_B (eq2i (by rw [kd_I, kd_I, h1])) (and_B (beq2i (by rw [wr_B, wr_B, h1])) (eq2i (by rw [da_I, da_I, h1])))))
theorem reqL_ok {e : En} {a b : X} (h : a.R e = b.R e) : (reqL a b).B e = true := eq2i (by show (((a.R e).length : Nat) : Int) = (((b.R e).length : Nat) : Int); rw [h])
def reqB (a b : X) : X := .o .and (.o .and (.o .req a b) (.o .req b a)) (reqL a b)
theorem reqB_ok {e : En} {a b : X} (h : a.R e = b.R e) : (reqB a b).B e = true := and_B (and_B (decide_eq_true h) (decide_eq_true h.symm)) (reqL_ok h)
def lemOf (l w i o : X) : List X := [
  impS (.o .and (ofPX l w i o) (.o .and (ltL l i) (isW l w i))) (ofPX l w (i1 i) (.o .rcat o (rowC l i))),
  impS (.o .and (ofPX l w i o) (.o .and (ltL l i) (.u .not (isW l w i)))) (ofPX l w (i1 i) o),
  impS (ofPX l w i o) (.u .not (.o .lt i (rln o))),
  impS (.o .and (ofPX l w i o) (.u .not (ltL l i))) (reqB o (ofX l w))]
theorem lemOf_ok (l w i o : X) : AllB (lemOf l w i o) := allB1 (fun e => impS_ok fun h => by
  obtain ⟨h1, h2⟩ := and_out h
  obtain ⟨h2, h3⟩ := and_out h2
  have h4 := of_next ((ofP_iff e _ _ _ _).1 h1) (lt_out h2)
  have h3 : whR (rowN (l.R e) (i.I e).toNat) = w.I e := eq_out h3
  rw [if_pos h3] at h4
  exact (ofP_iff e _ _ _ _).2 h4) (allB1 (fun e => impS_ok fun h => by
  obtain ⟨h1, h2⟩ := and_out h
  obtain ⟨h2, h3⟩ := and_out h2
  have h4 := of_next ((ofP_iff e _ _ _ _).1 h1) (lt_out h2)
  have h3 : ¬ whR (rowN (l.R e) (i.I e).toNat) = w.I e := fun q => by
    have := not_out h3
    rw [show (isW l w i).B e = true from eq_in q] at this; cases this
  rw [if_neg h3] at h4
  exact (ofP_iff e _ _ _ _).2 h4) (allB1 (fun e => impS_ok fun h => by
  obtain ⟨h0, h1, h2⟩ := (ofP_iff e _ _ _ _).1 h
  refine nlt_in ?_
  show ¬ i.I e < (((o.R e).length : Nat) : Int)
  have := of_len (l.R e) (w.I e) (i.I e).toNat
  rw [h2]; omega) (allB1 (fun e => impS_ok fun h => by
  obtain ⟨h1, h2⟩ := and_out h
  exact reqB_ok (of_end ((ofP_iff e _ _ _ _).1 h1) (nlt_out h2))) allB0)))
def hitX (l a i : X) : X := .o .and (fWr l i) (.o .eq (.o .emod (.o (.rI 1) l i) (.i 2097152)) (.o .emod a (.i 2097152)))
theorem wrap32_21 (x : Int) : IntKind.u32.wrap x % 2097152 = x % 2097152 := by
  simp [IntKind.wrap, IntKind.bits, IntKind.signed] <;> omega
theorem hit_B (e : En) (l a i : X) : (hitX l a i).B e = hitB (rwO e l i) (a.I e) := by
  show (rWr (rwO e l i) && decide (((rwO e l i).getD 1 (.i 0)).toI % 2097152 = a.I e % 2097152)) = _
  unfold hitB
  rw [show rAd (rwO e l i) % 2097152 = ((rwO e l i).getD 1 (.i 0)).toI % 2097152 from wrap32_21 _]
def lemLa (l a i v q : X) : List X := [
  impS (.o .and (laPX l a i v q) (ltL l i)) (laPX l a (i1 i) (.t .i (hitX l a i) (fDa l i) v) (.o .or (hitX l a i) q)),
  impS (.o .and (laPX l a i v q) (.u .not (ltL l i))) (.o .and (eq2' v (.u .fst (laX l a))) (beq2 q (.u .snd (laX l a))))]
theorem lemLa_ok (l a i v q : X) : AllB (lemLa l a i v q) := allB1 (fun e => impS_ok fun h => by
  obtain ⟨h1, h2⟩ := and_out h
  have h3 := la_next ((laP_iff e _ _ _ _ _).1 h1) (lt_out h2)
  refine (laP_iff e _ _ _ _ _).2 ?_
  have e1 : (X.t .i (hitX l a i) (fDa l i) v).I e = if hitB (rwO e l i) (a.I e) = true then rDa (rwO e l i) else v.I e := by
    show (bif (hitX l a i).B e then (fDa l i).I e else v.I e) = _
    rw [hit_B, cond_eq_ite, da_I]
  have e2 : (X.o .or (hitX l a i) q).B e = (hitB (rwO e l i) (a.I e) || q.B e) := by
    show ((hitX l a i).B e || q.B e) = _
    rw [hit_B]
  rw [e1, e2]; exact h3) (allB1 (fun e => impS_ok fun h => by
  obtain ⟨h1, h2⟩ := and_out h
  obtain ⟨k1, k2⟩ := la_end ((laP_iff e _ _ _ _ _).1 h1) (nlt_out h2)
  exact and_B (eq2i k1) (beq2i k2)) allB0)
def jX (l k : X) : X := .o .sub (.o .sub (rln l) (.i 1)) k
def lemBa (l a k : X) : List X := [
  impS (.o .and (baPX l a k) (.o .and (ltL l k) (hitX l a (jX l k)))) (.o .and (eq2' (fDa l (jX l k)) (.u .fst (laX l a))) (.u .snd (laX l a))),
  impS (.o .and (baPX l a k) (.o .and (ltL l k) (.u .not (hitX l a (jX l k))))) (baPX l a (i1 k)),
  impS (.o .and (baPX l a k) (.u .not (ltL l k))) (.o .and (eq2' (.i 0) (.u .fst (laX l a))) (.u .not (.u .snd (laX l a))))]
theorem j_nat {e : En} {l a k : X} (h : (baPX l a k).B e = true) (hl : k.I e < (((l.R e).length : Nat) : Int)) : rwO e l (jX l k) = rowN (l.R e) ((l.R e).length - 1 - (k.I e).toNat) := by
  obtain ⟨h0, h1, h2⟩ := (baP_iff e _ _ _).1 h
  show rowN (l.R e) ((((l.R e).length : Nat) : Int) - 1 - k.I e).toNat = _
  rw [show ((((l.R e).length : Nat) : Int) - 1 - k.I e).toNat = (l.R e).length - 1 - (k.I e).toNat from by omega]
theorem lemBa_ok (l a k : X) : AllB (lemBa l a k) := allB1 (fun e => impS_ok fun h => by
  obtain ⟨h1, h2⟩ := and_out h
  obtain ⟨h2, h3⟩ := and_out h2
  have hj := j_nat h1 (lt_out h2)
  rw [hit_B, hj] at h3
  have h4 := ba_hit ((baP_iff e _ _ _).1 h1) (lt_out h2) h3
  refine and_B (eq2i ?_) ?_
  · rw [da_I, hj]
    show _ = (laF (l.R e) (a.I e) (l.R e).length).1
    rw [h4]
  · show (laF (l.R e) (a.I e) (l.R e).length).2 = true
    rw [h4]) (allB1 (fun e => impS_ok fun h => by
  obtain ⟨h1, h2⟩ := and_out h
  obtain ⟨h2, h3⟩ := and_out h2
  have hj := j_nat h1 (lt_out h2)
  have h3 := not_out h3
  rw [hit_B, hj] at h3
  exact (baP_iff e _ _ _).2 (ba_next ((baP_iff e _ _ _).1 h1) (lt_out h2) h3)) (allB1 (fun e => impS_ok fun h => by
  obtain ⟨h1, h2⟩ := and_out h
  have h4 := ba_end ((baP_iff e _ _ _).1 h1) (nlt_out h2)
  refine and_B (eq2i ?_) (not_in ?_)
  · show (0 : Int) = (laF (l.R e) (a.I e) (l.R e).length).1
    rw [h4]
  · show (laF (l.R e) (a.I e) (l.R e).length).2 = false
    rw [h4]) allB0))
end
end Go.Proofs.YtjcpcnoakphecaaDoor
