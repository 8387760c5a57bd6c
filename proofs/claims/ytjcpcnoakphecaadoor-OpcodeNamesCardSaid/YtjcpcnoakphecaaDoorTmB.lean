/-
  Contracts of timing.kinds and timing.Text. Conditions: none.
-/
import Derived.Test.YtjcpcnoakphecaaDoorDf
set_option linter.unusedSectionVars false
set_option linter.unusedVariables false
set_option linter.unusedSimpArgs false
namespace Go.Proofs.YtjcpcnoakphecaaDoor
open Go Go.AE Go.SX Go.RowKit
set_option maxRecDepth 1000000
/-! Plain: letters to kinds, kinds to letters. -/
def lettersL : List UInt8 := [70, 79, 68, 76, 83, 80, 85, 86]
def kd1 (c : UInt8) : UInt8 := UInt8.ofNat (ixI (ixB c lettersL) % 256).toNat
def kdF (s : List UInt8) : List UInt8 := s.map kd1
def tx1 (c : UInt8) : UInt8 := bif Nat.blt c.toNat 8 then lettersL.getD c.toNat 0 else 63
def txF (l : List UInt8) : List UInt8 := l.map tx1
def partsF (l : List UInt8) : List (List A) := l.map fun c => [.s [tx1 c]]
def KdP (s : List UInt8) (i : Int) (out : List UInt8) : Prop := 0 ≤ i ∧ i ≤ (s.length : Nat) ∧ out = kdF (s.take i.toNat)
def TxP (l : List UInt8) (i : Int) (rows : List (List A)) : Prop := 0 ≤ i ∧ i ≤ (l.length : Nat) ∧ rows = partsF (l.take i.toNat)
open Classical in
class DOk2 [DF] : Prop where
  h42 : ∀ d, Fam.Φ 42 d = .s (txF d.toS)
  h45 : ∀ d, Fam.Φ 45 d = .s (kdF d.toS)
  h55 : ∀ d, Fam.Φ 55 d = .b (decide (KdP d.fst.toS d.snd.fst.toI d.snd.snd.toS))
  h56 : ∀ d, Fam.Φ 56 d = .b (decide (TxP d.fst.toS d.snd.fst.toI d.snd.snd.toR))
/-! Implications as conditions. -/
section
variable [Fam]
def impS (a b : X) : X := .u .not (.o .and a (.u .not b))
theorem impS_ok {a b : X} {e : En} (h : a.B e = true → b.B e = true) : (impS a b).B e = true := by
  show (!(a.B e && !b.B e)) = true
  cases ha : a.B e with
  | false => rfl
  | true => rw [h ha]; rfl
theorem and_B {a b : X} {e : En} (h1 : a.B e = true) (h2 : b.B e = true) : (X.o .and a b).B e = true := by
  show (a.B e && b.B e) = true
  rw [h1, h2]; rfl
theorem and_out {a b : X} {e : En} (h : (X.o .and a b).B e = true) : a.B e = true ∧ b.B e = true := by
  have h : (a.B e && b.B e) = true := h
  rwa [Bool.and_eq_true] at h
theorem lt_out {a b : X} {e : En} (h : (X.o .lt a b).B e = true) : a.I e < b.I e := of_decide_eq_true h
theorem nlt_out {a b : X} {e : En} (h : (X.u .not (.o .lt a b)).B e = true) : ¬ a.I e < b.I e := by
  have h : (!decide (a.I e < b.I e)) = true := h
  rwa [Bool.not_eq_true', decide_eq_false_iff_not] at h
theorem nlt_in {a b : X} {e : En} (h : ¬ a.I e < b.I e) : (X.u .not (.o .lt a b)).B e = true := by
  show (!decide (a.I e < b.I e)) = true
  rw [decide_eq_false h]; rfl
theorem eq_in {a b : X} {e : En} (h : a.I e = b.I e) : (X.o .eq a b).B e = true := decide_eq_true h
end
def noT : Tms := fun _ => none
theorem noT_ok [Fam] : TmsOk Tryd.prog noT := fun _ _ h => by cases h
variable [DF] [DOk1] [DOk2]
def lenX' (x : X) : X := .u .len x
def addI (x : X) (n : Int) : X := .o .add x (.i n)
/-! timing.kinds. -/
/-! timing.Text. -/
end Go.Proofs.YtjcpcnoakphecaaDoor
