/-
  Contracts of the devices' smaller methods, and of the document's, each pair with one and the same answer. Conditions: none.
-/
import Derived.Test.YtafkhelomlmlpaaGreatIrq
set_option linter.unusedSectionVars false
set_option linter.unusedVariables false
set_option linter.unusedSimpArgs false
namespace Go.Proofs.YtafkhelomlmlpaaGreat
open Go Go.AE Go.SX Go.RowKit
set_option maxRecDepth 1000000
noncomputable def TI : Tab Tryz.prog := { T with
  it := fun n => bif Nat.beq n 193 then some kindsL else none
  it_ok := fun f vs h => by
      cases hq : Nat.beq f 193 with
      | true => (rw [hq] at h; cases h; rw [Nat.eq_of_beq_eq_true hq]; exact kinds_ok)
      | false => (rw [hq] at h; cases h) }
variable [Fam]
theorem CI_ok : ∀ n c, C0 n = some c → ConOk TI n c := fun _ _ h => by cases h
def noT : Tms := fun _ => none
theorem noT_ok : TmsOk Tryz.prog noT := fun _ _ h => by cases h
/-- A contract by its tree, no objects and no loops but such as end by themselves. -/
theorem lc_ok {f : FuncId} {c : LC} (hfn : TI.fn f = true) (hok : c.ok = true) (h : treeF 12 noJ noX TI W0 C0 300 20 noT f c [] [] = true) : c.Ok Tryz.prog f :=
  LC.Ok.of_treeF (L := noJ) (lem := noX) (fun _ _ _ h => by cases h) (fun _ _ h => by cases h) CI_ok noT_ok hfn hok h
def p0 : SV := .z (.p 0 (.i 0) 0 0)
def u8 (n : Nat) : SS := .z (.i .u8 (.v n))
def bb (n : Nat) : SS := .z (.b (.v n))
def byF (l : List Nat) (hi : Int) : List Fact := l.map fun n => ⟨.v n, ⟨some 0, some hi⟩⟩
/-! Who asks. -/
def mI (t : Nat) : SMem := [some ⟨.cs [u8 0, bb 1], t, true, true⟩]
def sumS : X := mkAdd (mkAdd (.t .i (.v 1) (.i 4) (.i 0)) (.t .i (.v 2) (.i 2) (.i 0))) (.t .i (.v 3) (.i 1) (.i 0))
def lcStatus (t : Nat) : LC := ⟨4, [p0, .z (.b (.v 2)), .z (.b (.v 3))], mI t, byF [0] 7, [], .z (.i .u8 sumS), mI t⟩
theorem status1 : (lcStatus 176).Ok Tryz.prog 205 := lc_ok rfl rfl (by kernel_rfl)
theorem status2 : (lcStatus 120).Ok Tryz.prog 180 := lc_ok rfl rfl (by kernel_rfl)
def chX : X := .t .i (.v 2) (.i 1) (.t .i (.v 3) (.i 2) (.t .i (.o .and (.v 1) (.o .and (.u .not (.v 6)) (.o .eq (.o .ediv (.v 0) (.i 4)) (.i 0)))) (.i 3) (.t .i (.o .and (.v 4) (.o .and (.u .not (.v 6)) (.o .eq (.o .emod (.o .ediv (.v 0) (.i 2)) (.i 2)) (.i 0)))) (.i 4) (.t .i (.o .and (.v 5) (.o .and (.u .not (.v 6)) (.o .eq (.o .emod (.v 0) (.i 2)) (.i 0)))) (.i 5) (.i 0)))))
def lcChoose (t : Nat) : LC := ⟨7, [p0, .a (.ag [bb 2, bb 3, bb 4, bb 5]), .z (.b (.v 6))], mI t, byF [0] 7, [], .z (.i .u8 chX), mI t⟩
theorem choose1 : (lcChoose 176).Ok Tryz.prog 140 := lc_ok rfl rfl (by kernel_rfl)
theorem choose2 : (lcChoose 120).Ok Tryz.prog 89 := lc_ok rfl rfl (by kernel_rfl)
/-! The buffer, read under a mask: the lower bits are new. -/
def mL : SMem := [some ⟨.cs [u8 0], 174, true, true⟩]
def rdX (m : Int) : X := .o .add (.o .mul (.o .ediv (.v 0) (.i m)) (.i m)) (.o .emod (.v 1) (.i m))
def lcLatch (k : Int) (x : X) : LC := ⟨2, [p0, .z (.i .u8 (.i k)), .z (.i .u8 (.v 1))], mL, byF [0, 1] 255, [], .z (.i .u8 x), [some ⟨.cs [.z (.i .u8 x)], 174, true, true⟩]⟩
def lcRef8 (k : Int) (x : X) : LC := ⟨2, [.z (.i .u8 (.v 0)), .z (.i .u8 (.i k)), .z (.i .u8 (.v 1))], [], byF [0, 1] 255, [], .z (.i .u8 x), []⟩
theorem latch7 : (lcLatch 7 (rdX 8)).Ok Tryz.prog 165 := lc_ok rfl rfl (by kernel_rfl)
theorem latch127 : (lcLatch 127 (rdX 128)).Ok Tryz.prog 165 := lc_ok rfl rfl (by kernel_rfl)
theorem latch255 : (lcLatch 255 (.v 1)).Ok Tryz.prog 165 := lc_ok rfl rfl (by kernel_rfl)
theorem ref8_7 : (lcRef8 7 (rdX 8)).Ok Tryz.prog 177 := lc_ok rfl rfl (by kernel_rfl)
theorem ref8_127 : (lcRef8 127 (rdX 128)).Ok Tryz.prog 177 := lc_ok rfl rfl (by kernel_rfl)
end Go.Proofs.YtafkhelomlmlpaaGreat
