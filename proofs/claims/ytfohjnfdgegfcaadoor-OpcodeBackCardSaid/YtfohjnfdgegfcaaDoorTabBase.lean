/-
  The tables of the answers to bytes: their shapes. Conditions: none.
-/
import Derived.Test.YtfohjnfdgegfcaaDoorLogF
import Derived.Test.YtfohjnfdgegfcaaDoorRows
namespace Go.Proofs.YtfohjnfdgegfcaaDoor
open Go Go.AE
set_option maxRecDepth 100000

theorem noNum : Tryd.prog.funcs.toList.all (fun d => !(d.name == "runtime.NumGoroutine")) = true := by kernel_rfl
theorem mixd : Tryd.prog.follows .mixedOrders = true := by kernel_rfl
noncomputable def T : Tab Tryd.prog := tabOf Tryd.prog noNum mixd
noncomputable def codeOf (fn : Func) : Code := match fn.body with
  | some c => c
  | none => .skip
def St (l : List UInt8) : Value := .string ⟨⟨l⟩⟩
def By (n : Nat) : Value := .int .u8 (.ofNat n)
def In (n : Nat) : Value := .int .i64 (.ofNat n)
def o34 (b : Nat) (s : List UInt8) (m z c : Nat) : Ent := ⟨[By b], .agg ⟨[St s, By m, In z, In c]⟩, []⟩
def o20 (b : Nat) (s : List UInt8) (m z c : Nat) (k : Bool) : Ent := ⟨[By b], .agg ⟨[St s, By m, In z, In c, .bool k]⟩, []⟩
/-- An operation's four cells, out of one number. -/
def op4 (n : Nat) : List Value := [By (n / 16777216), By (n / 65536 % 256), By (n / 256 % 256), .bool (Nat.beq (n % 256) 1)]
def ops4 : List Nat → List Value
  | [] => []
  | n :: l => op4 n ++ ops4 l
def o16 (b : Nat) (l : List Nat) : Ent := ⟨[By b], .slice (some ⟨0, 0, none⟩) l.length l.length, [⟨ops4 l, 29, true, false⟩]⟩
def o69 (s : List UInt8) (n : Nat) (ok : Bool) : Ent := ⟨[St s], .tuple ⟨[.agg ⟨op4 n⟩, .bool ok]⟩, []⟩
end Go.Proofs.YtfohjnfdgegfcaaDoor
