/-
  Listings: the lemmas of the loops. Conditions: none.
-/
import Derived.Test.YtjcpcnoakphecaaDoorTxE
set_option linter.unusedSectionVars false
set_option linter.unusedVariables false
set_option linter.unusedSimpArgs false
namespace Go.Proofs.YtjcpcnoakphecaaDoor
open Go Go.AE Go.SX Go.RowKit
set_option maxRecDepth 1000000
noncomputable section
def impS (a b : X) : X := .u .not (.o .and a (.u .not b))
theorem impS_ok {a b : X} {e : En} (h : a.B e = true → b.B e = true) : (impS a b).B e = true := by
  show (!(a.B e && !b.B e)) = true
  cases ha : a.B e with
  | false => rfl
  | true => rw [h ha]; rfl
theorem and_B {a b : X} {e : En} (h1 : a.B e = true) (h2 : b.B e = true) : (X.o .and a b).B e = true := by
  show (a.B e && b.B e) = true
  rw [h1, h2]; rfl
theorem and_out {a b : X} {e : En} (h : (X.o .and a b).B e = true) : a.B e = true ∧ b.B e = true := by
  have h : (a.B e && b.B e) = true := h
  rwa [Bool.and_eq_true] at h
theorem nlt_out {a b : X} {e : En} (h : (X.u .not (.o .lt a b)).B e = true) : ¬ a.I e < b.I e := by
  have h : (!decide (a.I e < b.I e)) = true := h
  rwa [Bool.not_eq_true', decide_eq_false_iff_not] at h
theorem nlt_in {a b : X} {e : En} (h : ¬ a.I e < b.I e) : (X.u .not (.o .lt a b)).B e = true := by
  show (!decide (a.I e < b.I e)) = true
  rw [decide_eq_false h]; rfl
theorem eq_in {a b : X} {e : En} (h : a.I e = b.I e) : (X.o .eq a b).B e = true := decide_eq_true h
abbrev AllB (l : List X) : Prop := ∀ x ∈ l, ∀ e : En, x.B e = true
theorem allB1 {x : X} {l : List X} (h : ∀ e : En, x.B e = true) (hl : AllB l) : AllB (x :: l) := all_cons' (P := fun x : X => ∀ e : En, x.B e = true) h hl
theorem allB0 : AllB [] := all_nil'
def lsX (off a out : X) : X := .ap 104 (.o .pair (.v 0) (.o .pair (.v 1) (.o .pair off (.o .pair a out))))
def lkX (k i : X) : X := .ap 105 (.o .pair (.v 0) (.o .pair k (.o .pair i (.v 6))))
theorem ls_iff (e : En) (off a out : X) : (lsX off a out).B e = true ↔ LsP (e.ρ 0).toS (e.ρ 1).toI (off.I e) (a.I e) (out.R e) := @decide_eq_true_iff _ (_)
theorem lk_iff (e : En) (k i : X) : (lkX k i).B e = true ↔ LkP (e.ρ 0).toS (k.I e) (i.I e) (e.ρ 6).toR := @decide_eq_true_iff _ (_)
def leM : X := .o .add (.o .mul (.v 2) (.i (-1))) lenB
def eq3 : X := .o .eq (.v 3) leM
def eq4 : X := .o .eq (.v 4) leM
def ls0 : X := lsX (.v 2) (.v 5) (.v 6)
def inv1 : X := .o .and ls0 (.o .and eq3 eq4)
def tA : X := txX (.v 0) (.v 2) (.v 5)
def nA : X := .u .snd tA
def lnX (a t : X) : X := cX (cX (H4 a) (.s [58, 32])) (.u .fst t)
def few : X := .u .not (.o .lt (.i 300) lenB)
def lt3 : X := .o .lt (.i 0) (.v 3)
def nxE (x : X) : X := .o .eq (.o .add x (.o .mul nA (.i (-1)))) (.o .add (.o .mul (.o .add (.v 2) nA) (.i (-1))) lenB)
def len100 (t : X) : X := .u .not (.o .lt (.i 100) (.u .len (.u .fst t)))
def endV : X := .u .not (.o .lt (.v 2) lenB)
def lemA : List X := [
  impS (.o .and eq3 eq4) (.u .not (.o .lt (.v 4) (.v 3))),
  impS eq3 (nxE (.v 3)), impS eq4 (nxE (.v 4)),
  impS (.o .and ls0 (.o .and eq3 (.o .and lt3 few))) (.o .and (lsX (.o .add (.v 2) nA) (.o .emod (.o .add (.v 5) nA) (.i 65536)) (.o .rcat (.v 6) (.u .row (.o .pair (lnX (.v 5) tA) .nil)))) (.o .and (.u .not (.o .lt (.v 3) nA)) (.u .not (.o .lt (.i 300) (.o .add (.u .rlen (.v 6)) (.i 1)))))),
  len100 tA,
  impS (.o .and eq3 (.u .not lt3)) endV]
theorem tx_len (e : En) (a b c : X) : (len100 (txX a b c)).B e = true := nlt_in (by
  have := txt_len ((a.S e).drop (b.I e).toNat) (c.I e)
  show ¬ (100 : Int) < (((txtF ((a.S e).drop (b.I e).toNat) (c.I e)).length : Nat) : Int)
  omega)
theorem eqM {e : En} {x : X} (h : (X.o .eq x leM).B e = true) : x.I e = (e.ρ 2).toI * (-1) + (((e.ρ 0).toS.length : Nat) : Int) := of_decide_eq_true h
theorem nx_ok {e : En} {x : X} (h : x.I e = (e.ρ 2).toI * (-1) + (((e.ρ 0).toS.length : Nat) : Int)) : (nxE x).B e = true := eq_in (by
  show x.I e + nA.I e * (-1) = ((e.ρ 2).toI + nA.I e) * (-1) + (((e.ρ 0).toS.length : Nat) : Int)
  omega)
theorem lemA_ok : AllB lemA := allB1 (fun e => impS_ok fun h => by
  obtain ⟨h1, h2⟩ := and_out h
  have h1 := eqM h1
  have h2 := eqM h2
  exact nlt_in (by omega)) (allB1 (fun e => impS_ok fun h => nx_ok (eqM h)) (allB1 (fun e => impS_ok fun h => nx_ok (eqM h)) (allB1 (fun e => impS_ok fun h => by
  obtain ⟨h1, h⟩ := and_out h
  obtain ⟨h2, h⟩ := and_out h
  obtain ⟨h3, h4⟩ := and_out h
  have h1 := (ls_iff e _ _ _).1 h1
  have h2 : (e.ρ 3).toI = (e.ρ 2).toI * (-1) + (((e.ρ 0).toS.length : Nat) : Int) := eqM h2
  have h3 : (0 : Int) < (e.ρ 3).toI := lt_outM h3
  have h4 : ¬ (300 : Int) < (((e.ρ 0).toS.length : Nat) : Int) := nlt_out h4
  have hl : (e.ρ 2).toI < (((e.ρ 0).toS.length : Nat) : Int) := by omega
  obtain ⟨k1, k2⟩ := ls_next (r := [.s ((lnX (.v 5) tA).S e)]) h1 hl rfl
  have k3 := k1.2.2.2.1
  have k4 := k1.2.2.1
  rw [List.length_append] at k3
  refine and_B ((ls_iff e _ _ _).2 k1) (and_B (nlt_in ?_) (nlt_in ?_))
  · show ¬ (e.ρ 3).toI < stN (e.ρ 0).toS (e.ρ 2).toI
    have k2 : stN (e.ρ 0).toS (e.ρ 2).toI ≤ (((e.ρ 0).toS.length : Nat) : Int) - (e.ρ 2).toI := k2
    omega
  · show ¬ (300 : Int) < (((e.ρ 6).toR.length : Nat) : Int) + 1
    have k3 : ((((e.ρ 6).toR.length + 1 : Nat)) : Int) ≤ (e.ρ 2).toI + stN (e.ρ 0).toS (e.ρ 2).toI := k3
    have k4 : (e.ρ 2).toI + stN (e.ρ 0).toS (e.ρ 2).toI ≤ (((e.ρ 0).toS.length : Nat) : Int) := k4
    omega) (allB1 (fun e => tx_len e _ _ _) (allB1 (fun e => impS_ok fun h => by
  obtain ⟨h2, h3⟩ := and_out h
  have h2 : (e.ρ 3).toI = (e.ρ 2).toI * (-1) + (((e.ρ 0).toS.length : Nat) : Int) := eqM h2
  have h3 : ¬ (0 : Int) < (e.ρ 3).toI := nlt_out h3
  exact nlt_in (by show ¬ (e.ρ 2).toI < (((e.ρ 0).toS.length : Nat) : Int); omega)) allB0)))))
def a9 : X := .o .emod (.o .add (.v 1) (.v 9)) (.i 65536)
def tB : X := txX (.v 0) (.v 9) a9
def nB : X := .u .snd tB
def lt9 : X := .o .lt (.v 9) lenB
def endX : X := .o .and ls0 endV
def lk0 : X := lkX (.v 8) (.v 9)
def six : X := .o (.rS 0) (.v 6) (.v 8)
def eqI2 (a b : X) : X := .o .and (.o .eq a b) (.o .eq b a)
def msX : X := .u .not (.o .lt (.o .add (.o .mul (.o .add (.v 9) nB) (.i (-1))) lenB) (.i 0))
def lemB : List X := [
  impS (.o .and endX (.o .and lk0 (.o .and lt9 few))) (.o .and (.o .and (.o .lt (.v 8) (.u .rlen (.v 6))) (.o .seq six (lnX a9 tB))) (.o .and (lkX (.o .add (.v 8) (.i 1)) (.o .add (.v 9) nB)) (.o .and (.u .not (.o .lt (.i 300) (.o .add (.v 9) nB))) (.o .and (.u .not (.o .lt (.i 300) (.o .add (.v 8) (.i 1)))) msX)))),
  impS (.o .and endX (.o .and lk0 (.u .not lt9))) (eqI2 (.v 8) (.u .rlen (.v 6))),
  len100 tB]
theorem lemB_ok : AllB lemB := allB1 (fun e => impS_ok fun h => by
  obtain ⟨he, h⟩ := and_out h
  obtain ⟨hk, h⟩ := and_out h
  obtain ⟨hi, hw⟩ := and_out h
  obtain ⟨h1, he⟩ := and_out he
  have h1 := (ls_iff e _ _ _).1 h1
  have hw : ¬ (300 : Int) < (((e.ρ 0).toS.length : Nat) : Int) := nlt_out hw
  have hk := (lk_iff e _ _).1 hk
  have hn : ¬ (e.ρ 2).toI < (((e.ρ 0).toS.length : Nat) : Int) := nlt_out he
  obtain ⟨q1, q2, q3, q4, q5⟩ := lk_at h1 hn hk (lt_outM hi)
  have q1 : (e.ρ 8).toI < (((e.ρ 6).toR.length : Nat) : Int) := q1
  have hlen := h1.2.2.2.1
  have hlen : (((e.ρ 6).toR.length : Nat) : Int) ≤ (e.ρ 2).toI := hlen
  have hle : (e.ρ 2).toI ≤ (((e.ρ 0).toS.length : Nat) : Int) := h1.2.2.1
  refine and_B (and_B (decide_eq_true q1) ?_) (and_B ((lk_iff e _ _).2 q3) (and_B (nlt_in ?_) (and_B (nlt_in ?_) (nlt_in ?_))))
  · show (six.S e == (lnX a9 tB).S e) = true
    have e1 : six.S e = lnF (e.ρ 0).toS (e.ρ 1).toI (e.ρ 9).toI := q2
    rw [e1]
    exact beq_self_eq_true _
  · show ¬ (300 : Int) < (e.ρ 9).toI + stN (e.ρ 0).toS (e.ρ 9).toI
    have q4 : (e.ρ 9).toI + stN (e.ρ 0).toS (e.ρ 9).toI ≤ (((e.ρ 0).toS.length : Nat) : Int) := q4
    omega
  · show ¬ (300 : Int) < (e.ρ 8).toI + 1
    omega
  · show ¬ ((e.ρ 9).toI + stN (e.ρ 0).toS (e.ρ 9).toI) * (-1) + (((e.ρ 0).toS.length : Nat) : Int) < 0
    have q4 : (e.ρ 9).toI + stN (e.ρ 0).toS (e.ρ 9).toI ≤ (((e.ρ 0).toS.length : Nat) : Int) := q4
    omega) (allB1 (fun e => impS_ok fun h => by
  obtain ⟨he, h⟩ := and_out h
  obtain ⟨hk, hi⟩ := and_out h
  obtain ⟨h1, he⟩ := and_out he
  have h1 := (ls_iff e _ _ _).1 h1
  have h2 := lk_end h1 ((lk_iff e _ _).1 hk) (nlt_out hi)
  exact and_B (eq_in h2) (eq_in h2.symm)) (allB1 (fun e => tx_len e _ _ _) allB0))
def inv2 : X := .o .and lk0 endV
theorem ext1 (e : En) (h0 : 0 ≤ (e.ρ 1).toI) (h1 : (e.ρ 1).toI ≤ 65535) : (lsX (.i 0) (.v 1) (.o .rtake .nil (.i 0))).B e = true := (ls_iff e _ _ _).2 ⟨rfl, Int.le_refl _, Int.natCast_nonneg _, Int.le_refl _, by show (e.ρ 1).toI = ((e.ρ 1).toI + 0) % 65536; omega, fun k hk => (by cases hk)⟩
theorem ext2 (e : En) : (lkX (.i 0) (.i 0)).B e = true := (lk_iff e _ _).2 ⟨Int.le_refl _, Int.natCast_nonneg _, rfl⟩
end
end Go.Proofs.YtjcpcnoakphecaaDoor
