/-
  The program's own facts and the library's contracts, for the symbolic executor. Conditions: none.
-/
import Derived.Test.YtciemdpcllpdkaaDoorLog10
import Derived.Test.YtciemdpcllpdkaaDoorRows
import Derived.Test.YtciemdpcllpdkaaDoorShelf
import Derived.ProofKit
set_option linter.unusedVariables false
set_option linter.unusedSimpArgs false
namespace Go.Proofs.YtciemdpcllpdkaaDoor
open Go Go.AE Go.SX Go.RowKit
set_option maxRecDepth 1000000
theorem own : ownKnob Tryd.prog.godebug = none := by kernel_rfl
theorem laidOut : laidOutB Tryd.prog = true := by kernel_rfl
theorem noNum : Tryd.prog.funcs.toList.all (fun d => !(d.name == "runtime.NumGoroutine")) = true := by kernel_rfl
theorem mixd : Tryd.prog.follows .mixedOrders = true := by kernel_rfl
noncomputable def T : Tab Tryd.prog := tabOf Tryd.prog noNum mixd
theorem hasM {a b n : Int} (h1 : a ≤ n) (h2 : n ≤ b) : (Rg.mk (some a) (some b)).has n := ⟨fun x hx => (by cases hx; exact h1), fun x hx => (by cases hx; exact h2)⟩
theorem hasT (n : Int) : Rg.top.has n := ⟨fun x hx => (by cases hx), fun x hx => (by cases hx)⟩
def noOb : Ob := ⟨fun _ _ _ _ => False, fun h => h.elim, fun h => h.elim⟩
variable [Fam]
abbrev W0 : FuncId → Nat → List (Hint Tryd.prog) := fun _ _ => []
abbrev C0 : FuncId → Option CallF := fun _ => none
def noX : Nat → List X := fun _ => []
def noJ : Nat → Option LJ := fun _ => none
theorem conIX : Con Tryd.prog 33 (conP oIndex) := conP_ok fun vs v m h => by
  unfold oIndex at h
  split at h
  · rename_i s t
    cases hc : Nat.blt s.data.toList.length 4294967281 with
    | false => rw [hc] at h; cases h
    | true =>
      rw [hc] at h
      simp only [cond_true, Option.some.injEq] at h
      subst h
      refine ACall.of_same rfl (fun g => .s (.int _ _)) fun W hg => ?_
      obtain ⟨_, n, hn⟩ := hg
      rw [← ixS_eq]
      refine Tryd.strings_Index s t n W ?_ hn
      have := Nat.le_of_ble_eq_true hc
      rw [Lib.size_eq]; omega
  · cases h
theorem conJN : Con Tryd.prog 57 conJoin := conJoin_ok Tryd.strings_Join_none Tryd.strings_Join
def cYes : ConF := fun _ args m => match args with
  | [] => some ([], .z (.b (.b true)), m)
  | _ => none
end Go.Proofs.YtciemdpcllpdkaaDoor
