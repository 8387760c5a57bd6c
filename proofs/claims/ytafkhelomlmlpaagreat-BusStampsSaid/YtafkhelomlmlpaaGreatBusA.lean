/-
  The bus as an object, of the program and of the document. Conditions: none.
-/
import Derived.Test.YtafkhelomlmlpaaGreatRamO
import Derived.Test.YtafkhelomlmlpaaGreatHdR
import Derived.Test.YtafkhelomlmlpaaGreatHdJ
set_option linter.unusedSectionVars false
set_option linter.unusedVariables false
set_option linter.unusedSimpArgs false
namespace Go.Proofs.YtafkhelomlmlpaaGreat
open Go Go.AE Go.SX Go.RowKit
set_option maxRecDepth 1000000
variable [HF]
/-! State: 0 now, 1 fast, 2 asked, 3 the speed asked for, 4 image, 5 work memory, 6 page, 7 left, 8 over, 9 accesses, 10 cycles. -/
def aK : List CK := [.i .i64, .i .u32, .i .u8, .b, .i .u8]
def slR (j n : Nat) : SS := .z (.sl j (.i 0) 0 0 (.u .rlen (.v n)) (.u .rlen (.v n)))
def pg6 (i : Nat) : X := (compX 19 (.v 6)).getD i .nil
def maxB : Int := 1099511627776
def fsBus : List Fact := [⟨.v 0, ⟨some 0, some (24 * maxB)⟩⟩, ⟨.v 7, ⟨some 0, some maxB⟩⟩, ⟨.v 10, ⟨some 0, some (2 * maxB)⟩⟩, ⟨.u .len (.v 5), ⟨some 8192, some 8192⟩⟩, ⟨.u .rlen (.v 9), ⟨some 0, some maxB⟩⟩,
  ⟨mkAdd (.v 0) (mulC (.v 7) 24), ⟨none, some (24 * maxB)⟩⟩, ⟨mkAdd (.v 10) (mulC (.v 7) 2), ⟨none, some (2 * maxB)⟩⟩, ⟨mkAdd (.u .rlen (.v 9)) (.v 7), ⟨none, some maxB⟩⟩,
  ⟨pg6 18, ⟨some 0, some (24 * maxB)⟩⟩, ⟨mkSub (.v 0) (pg6 18), ⟨some 0, none⟩⟩, ⟨mkAdd (pg6 10) (.v 7), ⟨none, some maxB⟩⟩, ⟨mkAdd (pg6 12) (.v 7), ⟨none, some maxB⟩⟩, ⟨mkAdd (pg6 14) (.v 7), ⟨none, some maxB⟩⟩]
def tm4 : Tm := ⟨11, [
  some ⟨.cs [pt 1, slB 4 4, pt 2, pt 3, i64 7, bb 8, slR 5 9], 108, true, true⟩,
  some ⟨.cs [i64 0, i64 10, bb 1, bb 2, .z (.b (.o .and (.v 2) (.v 3)))], 192, true, true⟩,
  some ⟨.ob 3 (.v 5), 0, false, false⟩,
  some ⟨.ob 1 (.v 6), 0, false, false⟩,
  some ⟨.by (.v 4), 5, true, false⟩,
  some ⟨.rw aK (.v 9), 45, true, false⟩], fsBus, []⟩
def tm5 : Tm := ⟨11, [
  some ⟨.cs [slB 3 4, slB 4 5, pt 2, pt 1, i64 7, bb 8, slR 5 9], 64, true, true⟩,
  some ⟨.cs [i64 0, bb 1, i64 10, bb 2, bb 3], 75, true, true⟩,
  some ⟨.ob 2 (.v 6), 0, false, false⟩,
  some ⟨.by (.v 4), 0, false, false⟩,
  some ⟨.by (.v 5), 5, true, false⟩,
  some ⟨.rw aK (.v 9), 45, true, false⟩], fsBus, []⟩
/-- The document's bus with an image of its own. -/
def tm6 : Tm := ⟨11, [
  some ⟨.cs [slB 3 4, slB 4 5, pt 2, pt 1, i64 7, bb 8, slR 5 9], 64, true, true⟩,
  some ⟨.cs [i64 0, bb 1, i64 10, bb 2, bb 3], 75, true, true⟩,
  some ⟨.ob 2 (.v 6), 0, false, false⟩,
  some ⟨.by (.v 4), 5, true, false⟩,
  some ⟨.by (.v 5), 5, true, false⟩,
  some ⟨.rw aK (.v 9), 45, true, false⟩], fsBus, []⟩
class BOk : Prop where
  tm4 : IsOb Tryz.prog 4 tm4
  tm5 : IsOb Tryz.prog 5 tm5
  tm6 : IsOb Tryz.prog 6 tm6
def tmB : Tms := fun n => bif Nat.beq n 4 then some tm4 else bif Nat.beq n 5 then some tm5 else bif Nat.beq n 6 then some tm6 else tms n
theorem tmB_ok [HOk2] [BOk] : TmsOk Tryz.prog tmB := fun k t h => by
  unfold tmB at h
  cases h1 : Nat.beq k 4 with
  | true => rw [h1] at h; cases h; rw [Nat.eq_of_beq_eq_true h1]; exact BOk.tm4
  | false =>
    rw [h1] at h
    cases h2 : Nat.beq k 5 with
    | true => rw [h2] at h; cases h; rw [Nat.eq_of_beq_eq_true h2]; exact BOk.tm5
    | false =>
      rw [h2] at h
      cases h3 : Nat.beq k 6 with
      | true => rw [h3] at h; cases h; rw [Nat.eq_of_beq_eq_true h3]; exact BOk.tm6
      | false => rw [h3] at h; exact tms_ok k t h
theorem vis4 : VisOk 11 4 := fun d => rfl
end Go.Proofs.YtafkhelomlmlpaaGreat
