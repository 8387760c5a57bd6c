/-
  The page of devices as an object, of the program and of the document; contracts of its methods. Conditions: none.
-/
import Derived.Test.YtafkhelomlmlpaaGreatHdD
set_option linter.unusedSectionVars false
set_option linter.unusedVariables false
set_option linter.unusedSimpArgs false
namespace Go.Proofs.YtafkhelomlmlpaaGreat
open Go Go.AE Go.SX Go.RowKit
set_option maxRecDepth 1000000
variable [HF]
/-! State: 0 buffer, 1 reload, 2 counter, 3 on, 4 left, 5 disabled, 6 due, 7 select, 8 pad, 9 port's bytes, 10 taken, 11 vdc's, 12, 13 vce's, 14, 15 edges, 16 seen, 17 rose, 18 now. -/
def pt (j : Nat) : SS := .z (.p j (.i 0) 0 0)
def slB (j n : Nat) : SS := .z (.sl j (.i 0) 0 0 (.u .len (.v n)) (.u .len (.v n)))
def upO (k : Int) : SS := .z (.b (upX (.v 15) (.v 16) (.i k)))
def big : Int := 2305843009213693952
def fsPage : List Fact := [⟨.v 0, ⟨some 0, some 255⟩⟩, ⟨.v 1, ⟨some 0, some 127⟩⟩, ⟨.v 2, ⟨some 0, some 127⟩⟩, ⟨.v 4, ⟨some 1, some 3072⟩⟩, ⟨.v 5, ⟨some 0, some 7⟩⟩, ⟨.v 7, ⟨some 0, some 3⟩⟩, ⟨.v 8, ⟨some 0, some 5⟩⟩,
  ⟨.v 10, ⟨some 0, some big⟩⟩, ⟨.v 12, ⟨some 0, some big⟩⟩, ⟨.v 14, ⟨some 0, some big⟩⟩, ⟨.u .rlen (.v 15), ⟨some 0, some 1000⟩⟩, ⟨.v 16, ⟨some 0, some 1000⟩⟩, ⟨.v 18, ⟨some 0, some big⟩⟩, ⟨.u .len (.v 9), ⟨some 0, some 10000⟩⟩, ⟨.u .len (.v 11), ⟨some 0, some 10000⟩⟩, ⟨.u .len (.v 13), ⟨some 0, some 10000⟩⟩]
def asPage : List X := [.ap 7 (.v 15), .u .not (.o .lt (.u .rlen (.v 15)) (.v 16))]
def tm1 : Tm := ⟨19, [
  some ⟨.cs [pt 1, pt 2, pt 3, pt 4, pt 5, pt 6, pt 7, i64 18], 101, true, true⟩,
  some ⟨.cs [u8 1, u8 2, bb 3, i64 4], 172, true, true⟩,
  some ⟨.cs [slOf 9 15, i64 16, upO 0, upO 1, upO 2, upO 3, bb 17], 168, true, true⟩,
  some ⟨.cs [u8 0], 174, true, true⟩,
  some ⟨.cs [u8 5, bb 6], 176, true, true⟩,
  some ⟨.cs [pt 8, u8 7, i64 8], 178, true, true⟩,
  some ⟨.cs [slB 10 11, i64 12], 180, true, true⟩,
  some ⟨.cs [slB 11 13, i64 14], 180, true, true⟩,
  some ⟨.cs [slB 12 9, i64 10], 180, true, true⟩,
  some ⟨.rw eK (.v 15), 166, true, false⟩,
  some ⟨.by (.v 11), 5, true, false⟩,
  some ⟨.by (.v 13), 5, true, false⟩,
  some ⟨.by (.v 9), 5, true, false⟩], fsPage, asPage⟩
def tm2 : Tm := ⟨19, [
  some ⟨.cs [u8 0, pt 1, pt 2, pt 3, pt 4, pt 5, pt 6, i64 18], 126, true, true⟩,
  some ⟨.cs [u8 1, u8 2, bb 3, i64 4], 158, true, true⟩,
  some ⟨.cs [u8 5, bb 6], 120, true, true⟩,
  some ⟨.cs [slB 10 9, i64 10, u8 7, i64 8], 160, true, true⟩,
  some ⟨.cs [slB 8 11, i64 12], 128, true, true⟩,
  some ⟨.cs [slB 9 13, i64 14], 128, true, true⟩,
  some ⟨.cs [slOf 7 15, i64 16, bb 17], 130, true, true⟩,
  some ⟨.rw eK (.v 15), 0, false, false⟩,
  some ⟨.by (.v 11), 0, false, false⟩,
  some ⟨.by (.v 13), 0, false, false⟩,
  some ⟨.by (.v 9), 0, false, false⟩], fsPage, asPage⟩
class HOk2 : Prop where
  tm1 : IsOb Tryz.prog 1 tm1
  tm2 : IsOb Tryz.prog 2 tm2
def tms : Tms := fun n => bif Nat.beq n 1 then some tm1 else bif Nat.beq n 2 then some tm2 else none
theorem tms_ok [HOk2] : TmsOk Tryz.prog tms := fun k t h => by
  unfold tms at h
  cases h1 : Nat.beq k 1 with
  | true => rw [h1] at h; cases h; rw [Nat.eq_of_beq_eq_true h1]; exact HOk2.tm1
  | false =>
    rw [h1] at h
    cases h2 : Nat.beq k 2 with
    | true => rw [h2] at h; cases h; rw [Nat.eq_of_beq_eq_true h2]; exact HOk2.tm2
    | false => rw [h2] at h; cases h
/-- The methods' contracts that a page's methods use. -/
def cons1 : List (FuncId × List LC) := [
  (160, [lcG 172]), (207, [lcG 158]),
  (90, [lcU]), (208, [lcT2]), (162, [lcT1]),
  (205, [lcStatus 176]), (180, [lcStatus 120]),
  (140, [lcChoose 176]), (89, [lcChoose 120]),
  (165, [lcLatch 7 (rdX 8), lcLatch 127 (rdX 128), lcLatch 255 (.v 1)]), (177, [lcRef8 7 (rdX 8), lcRef8 127 (rdX 128)]),
  (95, [lcW]), (111, [lcW]), (168, [lcRg]), (179, [lcRg])]
noncomputable def CP : FuncId → Option CallF := conLC 8 TI cons1
theorem CP_ok [HOk1] : ∀ n c, CP n = some c → ConOk TI n c := conLC_ok (
  all_cons' (all_cons' ⟨rfl, goA HOk1.h2⟩ all_nil') (all_cons' (all_cons' ⟨rfl, goB HOk1.h2 HOk1.h10⟩ all_nil') (all_cons' (all_cons' ⟨rfl, upOk⟩ all_nil') (all_cons' (all_cons' ⟨rfl, toOk2⟩ all_nil') (all_cons' (all_cons' ⟨rfl, toOk1⟩ all_nil')
  (all_cons' (all_cons' ⟨rfl, status1⟩ all_nil') (all_cons' (all_cons' ⟨rfl, status2⟩ all_nil') (all_cons' (all_cons' ⟨rfl, choose1⟩ all_nil') (all_cons' (all_cons' ⟨rfl, choose2⟩ all_nil')
  (all_cons' (all_cons' ⟨rfl, latch7⟩ (all_cons' ⟨rfl, latch127⟩ (all_cons' ⟨rfl, latch255⟩ all_nil'))) (all_cons' (all_cons' ⟨rfl, ref8_7⟩ (all_cons' ⟨rfl, ref8_127⟩ all_nil'))
  (all_cons' (all_cons' ⟨rfl, whA⟩ all_nil') (all_cons' (all_cons' ⟨rfl, whB⟩ all_nil') (all_cons' (all_cons' ⟨rfl, rgA⟩ all_nil') (all_cons' (all_cons' ⟨rfl, rgB⟩ all_nil') all_nil')))))))))))))))
def obj (k n : Nat) : Option SBlk := some (obS k (.v n))
end Go.Proofs.YtafkhelomlmlpaaGreat
