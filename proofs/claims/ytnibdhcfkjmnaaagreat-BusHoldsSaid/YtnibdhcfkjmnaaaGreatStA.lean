/-
  Stamps rise by a cycle or two: what holds of a bus all the way. Conditions: none.
-/
import Derived.Test.YtnibdhcfkjmnaaaGreatBusG
import Derived.Test.YtnibdhcfkjmnaaaGreatNew
set_option linter.unusedSectionVars false
set_option linter.unusedVariables false
set_option linter.unusedSimpArgs false
namespace Go.Proofs.YtnibdhcfkjmnaaaGreat
open Go Go.AE Go.SX Go.RowKit
set_option maxRecDepth 1000000
/-! Plain: rows of stamps. -/
def bpt (s : D) (i : Nat) : D := (comps 11 s).getD i .u
def isGap (d : Int) : Prop := d = 3 ∨ d = 6 ∨ d = 12 ∨ d = 24
def stR (r : List A) : Int := (r.getD 0 (.i 0)).toI
def adR (r : List A) : Int := (r.getD 1 (.i 0)).toI
def stT (l : List (List A)) (i : Nat) : Int := stR (l.getD i [])
def adT (l : List (List A)) (i : Nat) : Int := adR (l.getD i [])
structure RowsOk (l : List (List A)) (now : Int) : Prop where
  ad : ∀ i, i < l.length → 0 ≤ adT l i ∧ adT l i < 2097152
  le : ∀ i, i < l.length → stT l i ≤ 24 * (i : Nat)
  ge : ∀ i, i < l.length → 0 ≤ stT l i
  fst : 0 < l.length → stT l 0 = 0
  gap : ∀ i, i + 1 < l.length → isGap (stT l (i + 1) - stT l i)
  nil : l.length = 0 → now = 0
  last : ∀ i, i + 1 = l.length → isGap (now - stT l i)
/-! The same of a bus. -/
structure StOk (s : D) (n b : Int) : Prop where
  n0 : 0 ≤ n
  b0 : 0 ≤ b
  len : (((bpt s 9).toR.length : Nat) : Int) = if n < b then n else b
  left : (bpt s 7).toI = b - (((bpt s 9).toR.length : Nat) : Int)
  rows : RowsOk (bpt s 9).toR (bpt s 0).toI
theorem pt_pack [HF] {l : List D} (h : l.length = 11) (i : Nat) : bpt (packD l) i = l.getD i .u := by unfold bpt; rw [pack11 h]
open Classical in
class SOk [HF] : Prop where
  h48 : ∀ d, Fam.Φ 48 d = .b (decide (StOk d.fst d.snd.fst.toI d.snd.snd.toI))
variable [HF] [HOk1] [HOk2] [HOk3] [ROk] [BOk] [BOk2] [SOk]
/-! One access. -/
theorem rd_at {k : Nat} {s : D} {l : List D} (hk : l.length = k) (i : Nat) (hi : i < 11) : (envOf (comps 11 s ++ l)).ρ i = bpt s i := by
  show (comps 11 s ++ l).getD i .u = _
  unfold bpt
  rw [List.getD_eq_getElem?_getD, List.getD_eq_getElem?_getD, List.getElem?_append_left (by rw [comps_len]; exact hi)]
theorem arg_at {s : D} {l : List D} (i : Nat) : (envOf (comps 11 s ++ l)).ρ (11 + i) = l.getD i .u := by
  show (comps 11 s ++ l).getD (11 + i) .u = _
  rw [List.getD_eq_getElem?_getD, List.getD_eq_getElem?_getD, List.getElem?_append_right (by rw [comps_len]; omega), comps_len]
  congr 2; omega
/-- What an access that is made changes of what stamps tell. -/
structure Goes (e : En) (s t : D) : Prop where
  gap : ∃ d, isGap d ∧ (bpt t 0).toI = (bpt s 0).toI + d
  left : (bpt t 7).toI = (bpt s 7).toI - 1
  row : ∃ r, stR r = (bpt s 0).toI ∧ adR r = (adN.I e) ∧ (bpt t 9).toR = (bpt s 9).toR ++ [r]
theorem toA_I (d : D) : d.toA.toI = d.toI := by cases d <;> rfl
end Go.Proofs.YtnibdhcfkjmnaaaGreat
