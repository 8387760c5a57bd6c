/-
  What must be whatever is asked of programs. Conditions: none.
-/
import Derived.Test.YtjcpcnoakphecaaDoorTmD
import Derived.Lib.IndexMore
import Derived.WalkSmall
set_option linter.unusedSectionVars false
set_option linter.unusedVariables false
set_option linter.unusedSimpArgs false
namespace Go.Proofs.YtjcpcnoakphecaaDoor
open Go Go.AE Go.SX Go.RowKit
set_option maxRecDepth 1000000
/-! strings.Cut at closed arguments. -/
def cutK (s sep : List UInt8) : List UInt8 × List UInt8 × Bool := match ixS sep s with
  | some n => (s.take n, s.drop (n + sep.length), true)
  | none => (s, [], false)
theorem cutK_eq (s sep : List UInt8) : Lib.cut s sep = cutK s sep := by
  unfold Lib.cut cutK
  rw [ixS_eq]
  cases ixS sep s with
  | none => rfl
  | some n =>
    show (if (0 : Int) ≤ (n : Int) then _ else _) = _
    rw [if_pos (Int.natCast_nonneg n)]; rfl
def conCut : ConF := fun g args m => match args with
  | [.a (.s (.z (.s (.s l)))), .a (.s (.z (.s (.s p))))] => bif Nat.blt l.length 4294967281 then some ([], .tu [.s (.z (.s (.s (cutK l p).1))), .s (.z (.s (.s (cutK l p).2.1))), .s (.z (.b (.b (cutK l p).2.2)))], m) else none
  | _ => none
theorem conCt [Fam] : Con Tryd.prog 159 conCut := by
  intro g args m ns v m' e hf hg hn
  unfold conCut at hf
  split at hf
  · rename_i l p
    cases hq : Nat.blt l.length 4294967281 with
    | false => rw [hq] at hf; cases hf
    | true =>
      rw [hq] at hf
      cases hf
      have hl : l.length < 4294967281 := by simpa [Nat.blt_eq] using hq
      show ACall Tryd.prog 159 [.string ⟨⟨l⟩⟩, .string ⟨⟨p⟩⟩] (denM e m) fun w m2 => w = .tuple ⟨[.string ⟨⟨(cutK l p).1⟩⟩, .string ⟨⟨(cutK l p).2.1⟩⟩, .bool (cutK l p).2.2]⟩ ∧ m2 = denM e m
      refine ACall.of_shelf rfl (fun g => .tup (.cons (.s (.str _)) (.cons (.s (.str _)) (.cons (.s (.bool _)) .nil)))) fun W hgd => ?_
      obtain ⟨_, n, hn⟩ := hgd
      rw [← cutK_eq]
      refine (Tryd.strings_Cut ⟨⟨l⟩⟩ ⟨⟨p⟩⟩ n W (by rw [Lib.size_eq]; exact hl) hn).mono ?_
      rintro e' W' ⟨rfl, k, rfl⟩
      exact ⟨rfl, below_drewN (Below.refl _ _) k⟩
  · cases hf
noncomputable def CLm : List (FuncId × CallF) := (159, conCall conCut) :: CLd
theorem CLm_all : ∀ p ∈ CLm, ConOk T p.1 p.2 := all_cons' conCt.ok CLd_all
noncomputable def CM0 := conTab CLm
theorem CM0_ok : ∀ n c, CM0 n = some c → ConOk T n c := conTab_ok CLm_all
theorem live30 : Con Tryd.prog 53 cYes := yes_con rfl CM0_ok (by kernel_rfl)
noncomputable def CM1 := conTab ((53, conCall cYes) :: CLm)
theorem CM1_ok : ∀ n c, CM1 n = some c → ConOk T n c := conTab_ok (all_cons' live30.ok CLm_all)
end Go.Proofs.YtjcpcnoakphecaaDoor
