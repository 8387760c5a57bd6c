/-
  The program's own facts and the library's contracts, for the symbolic executor. Conditions: none.
-/
import Derived.Test.YtnibdhcfkjmnaaaGreatLog10
import Derived.Test.YtnibdhcfkjmnaaaGreatRows
import Derived.ProofKit
set_option linter.unusedVariables false
set_option linter.unusedSimpArgs false
namespace Go.Proofs.YtnibdhcfkjmnaaaGreat
open Go Go.AE Go.SX Go.RowKit
set_option maxRecDepth 1000000
theorem own : ownKnob Tryz.prog.godebug = none := by kernel_rfl
theorem laidOut : laidOutB Tryz.prog = true := by kernel_rfl
theorem noNum : Tryz.prog.funcs.toList.all (fun d => !(d.name == "runtime.NumGoroutine")) = true := by kernel_rfl
theorem mixd : Tryz.prog.follows .mixedOrders = true := by kernel_rfl
noncomputable def T : Tab Tryz.prog := tabOf Tryz.prog noNum mixd
theorem hasM {a b n : Int} (h1 : a ≤ n) (h2 : n ≤ b) : (Rg.mk (some a) (some b)).has n := ⟨fun x hx => (by cases hx; exact h1), fun x hx => (by cases hx; exact h2)⟩
theorem hasT (n : Int) : Rg.top.has n := ⟨fun x hx => (by cases hx), fun x hx => (by cases hx)⟩
def noOb : Ob := ⟨fun _ _ _ _ => False, fun h => h.elim, fun h => h.elim⟩
variable [Fam]
abbrev W0 : FuncId → Nat → List (Hint Tryz.prog) := fun _ _ => []
abbrev C0 : FuncId → Option CallF := fun _ => none
theorem C0_ok : ∀ n c, C0 n = some c → ConOk T n c := fun _ _ h => by cases h
def noL : Nat → Option LI := fun _ => none
def noX : Nat → List X := fun _ => []
def noJ : Nat → Option LJ := fun _ => none
/-! Functions that need nothing and say yes. -/
def cYes : ConF := fun _ args m => match args with
  | [] => some ([], .z (.b (.b true)), m)
  | _ => none
theorem yes_con {n : FuncId} (hfn : T.fn n = true) {C : FuncId → Option CallF} (hC : ∀ n c, C n = some c → ConOk T n c) (h : evT (envOf []) (.z (.b (.b true))) (treeOf T W0 C 300 20 n (gI 0 []) [] []) = true) : Con Tryz.prog n cYes := by
  intro g args m ns v m' e hf hg hn
  unfold cYes at hf
  split at hf
  · cases hf
    exact ACall.of_fin (e := envOf []) hC hfn (gI_ok fun p hp => by cases hp) rfl h (denM e m)
  · cases hf
theorem g1_ok {i : Int} (h0 : 0 ≤ i) (h1 : i ≤ 255) : (gI 1 [255]).ok (envOf [.i i]) := gI_ok fun p hp => by
  obtain rfl := List.mem_singleton.1 hp
  exact ⟨h0, h1⟩
end Go.Proofs.YtnibdhcfkjmnaaaGreat
