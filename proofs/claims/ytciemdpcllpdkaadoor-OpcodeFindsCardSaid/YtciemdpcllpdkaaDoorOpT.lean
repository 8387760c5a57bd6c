/-
  The operations as a table. Conditions: none.
-/
import Derived.Test.YtciemdpcllpdkaaDoorBase
set_option linter.unusedSectionVars false
set_option linter.unusedVariables false
set_option linter.unusedSimpArgs false
namespace Go.Proofs.YtciemdpcllpdkaaDoor
open Go Go.AE Go.SX Go.RowKit
set_option maxRecDepth 1000000
/-- Of each byte: name, mode, size, cycles; whether it is known. -/
def opsO : List (List UInt8 × Nat × Nat × Nat × Bool) := [
  ([66, 82, 75], 1, 2, 8, true),
  ([79, 82, 65], 9, 2, 7, true),
  ([83, 88, 89], 0, 1, 3, true),
  ([83, 84, 48], 1, 2, 4, true),
  ([84, 83, 66], 2, 2, 6, true),
  ([79, 82, 65], 2, 2, 4, true),
  ([65, 83, 76], 2, 2, 6, true),
  ([82, 77, 66, 48], 2, 2, 7, true),
  ([80, 72, 80], 0, 1, 3, true),
  ([79, 82, 65], 1, 2, 2, true),
  ([65, 83, 76], 0, 1, 2, true),
  ([78, 79, 80], 0, 1, 2, false),
  ([84, 83, 66], 5, 3, 7, true),
  ([79, 82, 65], 5, 3, 5, true),
  ([65, 83, 76], 5, 3, 7, true),
  ([66, 66, 82, 48], 12, 3, 6, true),
  ([66, 80, 76], 11, 2, 2, true),
  ([79, 82, 65], 10, 2, 7, true),
  ([79, 82, 65], 8, 2, 7, true),
  ([83, 84, 49], 1, 2, 4, true),
  ([84, 82, 66], 2, 2, 6, true),
  ([79, 82, 65], 3, 2, 4, true),
  ([65, 83, 76], 3, 2, 6, true),
  ([82, 77, 66, 49], 2, 2, 7, true),
  ([67, 76, 67], 0, 1, 2, true),
  ([79, 82, 65], 7, 3, 5, true),
  ([73, 78, 67], 0, 1, 2, true),
  ([78, 79, 80], 0, 1, 2, false),
  ([84, 82, 66], 5, 3, 7, true),
  ([79, 82, 65], 6, 3, 5, true),
  ([65, 83, 76], 6, 3, 7, true),
  ([66, 66, 82, 49], 12, 3, 6, true),
  ([74, 83, 82], 5, 3, 7, true),
  ([65, 78, 68], 9, 2, 7, true),
  ([83, 65, 88], 0, 1, 3, true),
  ([83, 84, 50], 1, 2, 4, true),
  ([66, 73, 84], 2, 2, 4, true),
  ([65, 78, 68], 2, 2, 4, true),
  ([82, 79, 76], 2, 2, 6, true),
  ([82, 77, 66, 50], 2, 2, 7, true),
  ([80, 76, 80], 0, 1, 4, true),
  ([65, 78, 68], 1, 2, 2, true),
  ([82, 79, 76], 0, 1, 2, true),
  ([78, 79, 80], 0, 1, 2, false),
  ([66, 73, 84], 5, 3, 5, true),
  ([65, 78, 68], 5, 3, 5, true),
  ([82, 79, 76], 5, 3, 7, true),
  ([66, 66, 82, 50], 12, 3, 6, true),
  ([66, 77, 73], 11, 2, 2, true),
  ([65, 78, 68], 10, 2, 7, true),
  ([65, 78, 68], 8, 2, 7, true),
  ([78, 79, 80], 0, 1, 2, false),
  ([66, 73, 84], 3, 2, 4, true),
  ([65, 78, 68], 3, 2, 4, true),
  ([82, 79, 76], 3, 2, 6, true),
  ([82, 77, 66, 51], 2, 2, 7, true),
  ([83, 69, 67], 0, 1, 2, true),
  ([65, 78, 68], 7, 3, 5, true),
  ([68, 69, 67], 0, 1, 2, true),
  ([78, 79, 80], 0, 1, 2, false),
  ([66, 73, 84], 6, 3, 5, true),
  ([65, 78, 68], 6, 3, 5, true),
  ([82, 79, 76], 6, 3, 7, true),
  ([66, 66, 82, 51], 12, 3, 6, true),
  ([82, 84, 73], 0, 1, 7, true),
  ([69, 79, 82], 9, 2, 7, true),
  ([83, 65, 89], 0, 1, 3, true),
  ([84, 77, 65], 1, 2, 4, true),
  ([66, 83, 82], 11, 2, 8, true),
  ([69, 79, 82], 2, 2, 4, true),
  ([76, 83, 82], 2, 2, 6, true),
  ([82, 77, 66, 52], 2, 2, 7, true),
  ([80, 72, 65], 0, 1, 3, true),
  ([69, 79, 82], 1, 2, 2, true),
  ([76, 83, 82], 0, 1, 2, true),
  ([78, 79, 80], 0, 1, 2, false),
  ([74, 77, 80], 5, 3, 4, true),
  ([69, 79, 82], 5, 3, 5, true),
  ([76, 83, 82], 5, 3, 7, true),
  ([66, 66, 82, 52], 12, 3, 6, true),
  ([66, 86, 67], 11, 2, 2, true),
  ([69, 79, 82], 10, 2, 7, true),
  ([69, 79, 82], 8, 2, 7, true),
  ([84, 65, 77], 1, 2, 5, true),
  ([67, 83, 76], 0, 1, 3, true),
  ([69, 79, 82], 3, 2, 4, true),
  ([76, 83, 82], 3, 2, 6, true),
  ([82, 77, 66, 53], 2, 2, 7, true),
  ([67, 76, 73], 0, 1, 2, true),
  ([69, 79, 82], 7, 3, 5, true),
  ([80, 72, 89], 0, 1, 3, true),
  ([78, 79, 80], 0, 1, 2, false),
  ([78, 79, 80], 0, 1, 2, false),
  ([69, 79, 82], 6, 3, 5, true),
  ([76, 83, 82], 6, 3, 7, true),
  ([66, 66, 82, 53], 12, 3, 6, true),
  ([82, 84, 83], 0, 1, 7, true),
  ([65, 68, 67], 9, 2, 7, true),
  ([67, 76, 65], 0, 1, 2, true),
  ([78, 79, 80], 0, 1, 2, false),
  ([83, 84, 90], 2, 2, 4, true),
  ([65, 68, 67], 2, 2, 4, true),
  ([82, 79, 82], 2, 2, 6, true),
  ([82, 77, 66, 54], 2, 2, 7, true),
  ([80, 76, 65], 0, 1, 4, true),
  ([65, 68, 67], 1, 2, 2, true),
  ([82, 79, 82], 0, 1, 2, true),
  ([78, 79, 80], 0, 1, 2, false),
  ([74, 77, 80], 17, 3, 7, true),
  ([65, 68, 67], 5, 3, 5, true),
  ([82, 79, 82], 5, 3, 7, true),
  ([66, 66, 82, 54], 12, 3, 6, true),
  ([66, 86, 83], 11, 2, 2, true),
  ([65, 68, 67], 10, 2, 7, true),
  ([65, 68, 67], 8, 2, 7, true),
  ([84, 73, 73], 19, 7, 17, true),
  ([83, 84, 90], 3, 2, 4, true),
  ([65, 68, 67], 3, 2, 4, true),
  ([82, 79, 82], 3, 2, 6, true),
  ([82, 77, 66, 55], 2, 2, 7, true),
  ([83, 69, 73], 0, 1, 2, true),
  ([65, 68, 67], 7, 3, 5, true),
  ([80, 76, 89], 0, 1, 4, true),
  ([78, 79, 80], 0, 1, 2, false),
  ([74, 77, 80], 18, 3, 7, true),
  ([65, 68, 67], 6, 3, 5, true),
  ([82, 79, 82], 6, 3, 7, true),
  ([66, 66, 82, 55], 12, 3, 6, true),
  ([66, 82, 65], 11, 2, 4, true),
  ([83, 84, 65], 9, 2, 7, true),
  ([67, 76, 88], 0, 1, 2, true),
  ([84, 83, 84], 13, 3, 7, true),
  ([83, 84, 89], 2, 2, 4, true),
  ([83, 84, 65], 2, 2, 4, true),
  ([83, 84, 88], 2, 2, 4, true),
  ([83, 77, 66, 48], 2, 2, 7, true),
  ([68, 69, 89], 0, 1, 2, true),
  ([66, 73, 84], 1, 2, 2, true),
  ([84, 88, 65], 0, 1, 2, true),
  ([78, 79, 80], 0, 1, 2, false),
  ([83, 84, 89], 5, 3, 5, true),
  ([83, 84, 65], 5, 3, 5, true),
  ([83, 84, 88], 5, 3, 5, true),
  ([66, 66, 83, 48], 12, 3, 6, true),
  ([66, 67, 67], 11, 2, 2, true),
  ([83, 84, 65], 10, 2, 7, true),
  ([83, 84, 65], 8, 2, 7, true),
  ([84, 83, 84], 15, 4, 8, true),
  ([83, 84, 89], 3, 2, 4, true),
  ([83, 84, 65], 3, 2, 4, true),
  ([83, 84, 88], 4, 2, 4, true),
  ([83, 77, 66, 49], 2, 2, 7, true),
  ([84, 89, 65], 0, 1, 2, true),
  ([83, 84, 65], 7, 3, 5, true),
  ([84, 88, 83], 0, 1, 2, true),
  ([78, 79, 80], 0, 1, 2, false),
  ([83, 84, 90], 5, 3, 5, true),
  ([83, 84, 65], 6, 3, 5, true),
  ([83, 84, 90], 6, 3, 5, true),
  ([66, 66, 83, 49], 12, 3, 6, true),
  ([76, 68, 89], 1, 2, 2, true),
  ([76, 68, 65], 9, 2, 7, true),
  ([76, 68, 88], 1, 2, 2, true),
  ([84, 83, 84], 14, 3, 7, true),
  ([76, 68, 89], 2, 2, 4, true),
  ([76, 68, 65], 2, 2, 4, true),
  ([76, 68, 88], 2, 2, 4, true),
  ([83, 77, 66, 50], 2, 2, 7, true),
  ([84, 65, 89], 0, 1, 2, true),
  ([76, 68, 65], 1, 2, 2, true),
  ([84, 65, 88], 0, 1, 2, true),
  ([78, 79, 80], 0, 1, 2, false),
  ([76, 68, 89], 5, 3, 5, true),
  ([76, 68, 65], 5, 3, 5, true),
  ([76, 68, 88], 5, 3, 5, true),
  ([66, 66, 83, 50], 12, 3, 6, true),
  ([66, 67, 83], 11, 2, 2, true),
  ([76, 68, 65], 10, 2, 7, true),
  ([76, 68, 65], 8, 2, 7, true),
  ([84, 83, 84], 16, 4, 8, true),
  ([76, 68, 89], 3, 2, 4, true),
  ([76, 68, 65], 3, 2, 4, true),
  ([76, 68, 88], 4, 2, 4, true),
  ([83, 77, 66, 51], 2, 2, 7, true),
  ([67, 76, 86], 0, 1, 2, true),
  ([76, 68, 65], 7, 3, 5, true),
  ([84, 83, 88], 0, 1, 2, true),
  ([78, 79, 80], 0, 1, 2, false),
  ([76, 68, 89], 6, 3, 5, true),
  ([76, 68, 65], 6, 3, 5, true),
  ([76, 68, 88], 7, 3, 5, true),
  ([66, 66, 83, 51], 12, 3, 6, true),
  ([67, 80, 89], 1, 2, 2, true),
  ([67, 77, 80], 9, 2, 7, true),
  ([67, 76, 89], 0, 1, 2, true),
  ([84, 68, 68], 19, 7, 17, true),
  ([67, 80, 89], 2, 2, 4, true),
  ([67, 77, 80], 2, 2, 4, true),
  ([68, 69, 67], 2, 2, 6, true),
  ([83, 77, 66, 52], 2, 2, 7, true),
  ([73, 78, 89], 0, 1, 2, true),
  ([67, 77, 80], 1, 2, 2, true),
  ([68, 69, 88], 0, 1, 2, true),
  ([78, 79, 80], 0, 1, 2, false),
  ([67, 80, 89], 5, 3, 5, true),
  ([67, 77, 80], 5, 3, 5, true),
  ([68, 69, 67], 5, 3, 7, true),
  ([66, 66, 83, 52], 12, 3, 6, true),
  ([66, 78, 69], 11, 2, 2, true),
  ([67, 77, 80], 10, 2, 7, true),
  ([67, 77, 80], 8, 2, 7, true),
  ([84, 73, 78], 19, 7, 17, true),
  ([67, 83, 72], 0, 1, 3, true),
  ([67, 77, 80], 3, 2, 4, true),
  ([68, 69, 67], 3, 2, 6, true),
  ([83, 77, 66, 53], 2, 2, 7, true),
  ([67, 76, 68], 0, 1, 2, true),
  ([67, 77, 80], 7, 3, 5, true),
  ([80, 72, 88], 0, 1, 3, true),
  ([78, 79, 80], 0, 1, 2, false),
  ([78, 79, 80], 0, 1, 2, false),
  ([67, 77, 80], 6, 3, 5, true),
  ([68, 69, 67], 6, 3, 7, true),
  ([66, 66, 83, 53], 12, 3, 6, true),
  ([67, 80, 88], 1, 2, 2, true),
  ([83, 66, 67], 9, 2, 7, true),
  ([78, 79, 80], 0, 1, 2, false),
  ([84, 73, 65], 19, 7, 17, true),
  ([67, 80, 88], 2, 2, 4, true),
  ([83, 66, 67], 2, 2, 4, true),
  ([73, 78, 67], 2, 2, 6, true),
  ([83, 77, 66, 54], 2, 2, 7, true),
  ([73, 78, 88], 0, 1, 2, true),
  ([83, 66, 67], 1, 2, 2, true),
  ([78, 79, 80], 0, 1, 2, true),
  ([78, 79, 80], 0, 1, 2, false),
  ([67, 80, 88], 5, 3, 5, true),
  ([83, 66, 67], 5, 3, 5, true),
  ([73, 78, 67], 5, 3, 7, true),
  ([66, 66, 83, 54], 12, 3, 6, true),
  ([66, 69, 81], 11, 2, 2, true),
  ([83, 66, 67], 10, 2, 7, true),
  ([83, 66, 67], 8, 2, 7, true),
  ([84, 65, 73], 19, 7, 17, true),
  ([83, 69, 84], 0, 1, 2, true),
  ([83, 66, 67], 3, 2, 4, true),
  ([73, 78, 67], 3, 2, 6, true),
  ([83, 77, 66, 55], 2, 2, 7, true),
  ([83, 69, 68], 0, 1, 2, true),
  ([83, 66, 67], 7, 3, 5, true),
  ([80, 76, 88], 0, 1, 4, true),
  ([78, 79, 80], 0, 1, 2, false),
  ([78, 79, 80], 0, 1, 2, false),
  ([83, 66, 67], 6, 3, 5, true),
  ([73, 78, 67], 6, 3, 7, true),
  ([66, 66, 83, 55], 12, 3, 6, true)]
structure OpR where
  name : List UInt8
  mode : Nat
  size : Nat
  cycles : Nat
  known : Bool
def nthO : List (List UInt8 × Nat × Nat × Nat × Bool) → Nat → OpR
  | [], _ => ⟨[], 0, 1, 2, false⟩
  | p :: _, 0 => ⟨p.1, p.2.1, p.2.2.1, p.2.2.2.1, p.2.2.2.2⟩
  | _ :: l, k + 1 => nthO l k
/-- What a byte means. -/
def opR (b : Nat) : OpR := nthO opsO b
def OpR.good (r : OpR) : Bool := Nat.ble r.mode 19 && (Nat.ble 1 r.size && (Nat.ble r.size 7 && (Nat.ble 2 r.cycles && (Nat.ble r.cycles 17 && Nat.ble r.name.length 4))))
theorem ops_good : (List.range 256).all (fun b => (opR b).good) = true := by kernel_rfl
theorem nthO_out : ∀ (l : List (List UInt8 × Nat × Nat × Nat × Bool)) (k : Nat), l.length ≤ k → nthO l k = ⟨[], 0, 1, 2, false⟩
  | [], _, _ => rfl
  | _ :: l, 0, h => by simp at h
  | _ :: l, k + 1, h => nthO_out l k (by simpa using h)
theorem opsO_len : opsO.length = 256 := by kernel_rfl
theorem op_good (b : Nat) : (opR b).good = true := by
  rcases Nat.lt_or_ge b 256 with h | h
  · exact List.all_eq_true.1 ops_good b (List.mem_range.2 h)
  · unfold opR
    rw [nthO_out opsO b (by rw [opsO_len]; exact h)]; rfl
theorem op_rg (b : Nat) : (opR b).mode ≤ 19 ∧ 1 ≤ (opR b).size ∧ (opR b).size ≤ 7 ∧ 2 ≤ (opR b).cycles ∧ (opR b).cycles ≤ 17 ∧ (opR b).name.length ≤ 4 := by
  have h := op_good b
  unfold OpR.good at h
  simp only [Bool.and_eq_true] at h
  exact ⟨Nat.le_of_ble_eq_true h.1, Nat.le_of_ble_eq_true h.2.1, Nat.le_of_ble_eq_true h.2.2.1, Nat.le_of_ble_eq_true h.2.2.2.1, Nat.le_of_ble_eq_true h.2.2.2.2.1, Nat.le_of_ble_eq_true h.2.2.2.2.2⟩
variable [Fam]
def iN (k : IntKind) (n : Nat) : SS := .z (.i k (.i (n : Nat)))
/-- What opcode.Of answers, and gannetref23.Of. -/
def spA (b : Nat) : SV := .a (.ag [.z (.s (.s (opR b).name)), iN .u8 (opR b).mode, iN .i64 (opR b).size, iN .i64 (opR b).cycles])
def spB (b : Nat) : SV := .a (.ag [.z (.s (.s (opR b).name)), iN .u8 (opR b).mode, iN .i64 (opR b).size, iN .i64 (opR b).cycles, .z (.b (.b (opR b).known))])
def spK (b : Nat) : SV := .z (.b (.b (opR b).known))
def CStr : List (FuncId × CallF) := [(156, conCall (conP oIndexByte)), (33, conCall (conP oIndex)), (97, conCall (conP oTrimRight))]
theorem CStr_all : ∀ p ∈ CStr, ConOk T p.1 p.2 := by
  intro p hp
  simp only [CStr, List.mem_cons, List.not_mem_nil, or_false] at hp
  rcases hp with rfl | rfl | rfl
  · exact conIB.ok
  · exact conIX.ok
  · exact conTR.ok
def CS0 := conTab CStr
theorem CS0_ok : ∀ n c, CS0 n = some c → ConOk T n c := conTab_ok CStr_all
/-- A function of a byte, reckoned at one. -/
noncomputable def runB (f : FuncId) (sp : Nat → SV) (b : Nat) : Bool := evT (envOf []) (sp b) (treeOf T W0 CS0 300 20 f (gI 0 []) [.z (.i .u8 (.i (b : Nat)))] [])
noncomputable def runs (f : FuncId) (sp : Nat → SV) (k n : Nat) : Bool := (List.range' k n).all (runB f sp)
theorem run_at {f : FuncId} {sp : Nat → SV} {k n b : Nat} (hfn : T.fn f = true) (h : runs f sp k n = true) (h1 : k ≤ b) (h2 : b < k + n) (m : Mem) : ACall Tryd.prog f [.int .u8 (b : Nat)] m fun w m2 => w = (sp b).den (envOf []) ∧ m2 = m := by
  have h := List.all_eq_true.1 h b (by rw [List.mem_range'_1]; exact ⟨h1, h2⟩)
  exact ACall.of_fin (T := T) (W := W0) (C := CS0) (cf := 300) (d := 20) (n := f) (g := gI 0 []) (args := [.z (.i .u8 (.i (b : Nat)))]) (e := envOf []) (sp := sp b) CS0_ok hfn (gI_ok fun p hp => by cases hp) rfl h m
end Go.Proofs.YtciemdpcllpdkaaDoor
