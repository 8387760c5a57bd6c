/-
  An instruction written, mode by mode: the values. Conditions: none.
-/
import Derived.Test.YtjcpcnoakphecaaDoorDm
set_option linter.unusedSectionVars false
set_option linter.unusedVariables false
set_option linter.unusedSimpArgs false
namespace Go.Proofs.YtjcpcnoakphecaaDoor
open Go Go.AE Go.SX Go.RowKit
set_option maxRecDepth 1000000
noncomputable section
def cX (a b : X) : X := .o .cat a b
def pB : Nat → X
  | 0 => .o .nth (.v 0) (.v 1)
  | k + 1 => .o .nth (.v 0) (.o .add (.v 1) (.i ((k + 1 : Nat) : Int)))
def H2 (x : X) : X := cX (un (dgX (.o .ediv x (.i 16)))) (un (dgX (.o .emod x (.i 16))))
def D2 (x : X) : X := cX (.s [36]) (H2 x)
def H4 (x : X) : X := cX (un (dgX (.o .ediv x (.i 4096)))) (cX (un (dgX (.o .emod (.o .ediv x (.i 256)) (.i 16)))) (cX (un (dgX (.o .emod (.o .ediv x (.i 16)) (.i 16)))) (un (dgX (.o .emod x (.i 16))))))
def D4 (x : X) : X := cX (.s [36]) (H4 x)
def wX (k : Nat) : X := .o .add (pB k) (.o .mul (pB (k + 1)) (.i 256))
def szB : X := szX (pB 0)
def tgP : X := .o .emod (.o .add (.o .add (.v 2) (.u (.wrap .i8) (.o .nth (.v 0) (.o .add (.o .add (.v 1) szB) (.i (-1)))))) szB) (.i 65536)
def sgX (k : Nat) : X := .t .i (.o .lt (.i 127) (pB k)) (.i (-256)) (.i 0)
def tgQ1 : X := .o .emod (.o .add (.o .add (.o .add (.v 2) (pB 1)) szB) (sgX 1)) (.i 65536)
def tgQ2 : X := .o .emod (.o .add (.o .add (.o .add (.v 2) (pB 2)) (sgX 2)) szB) (.i 65536)
def hdX : X := cX (nmX (pB 0)) (.s [32])
def opP : Nat → X
  | 1 => (cX (.s [35]) (D2 (pB 1)))
  | 2 => (D2 (pB 1))
  | 3 => (cX (D2 (pB 1)) (.s [44, 88]))
  | 4 => (cX (D2 (pB 1)) (.s [44, 89]))
  | 5 => (D4 (wX 1))
  | 6 => (cX (D4 (wX 1)) (.s [44, 88]))
  | 7 => (cX (D4 (wX 1)) (.s [44, 89]))
  | 8 => (cX (cX (.s [40]) (D2 (pB 1))) (.s [41]))
  | 9 => (cX (cX (.s [40]) (cX (D2 (pB 1)) (.s [44, 88]))) (.s [41]))
  | 10 => (cX (cX (cX (.s [40]) (D2 (pB 1))) (.s [41])) (.s [44, 89]))
  | 11 => (D4 tgP)
  | 12 => (cX (D2 (pB 1)) (cX (.s [44]) (D4 tgP)))
  | 13 => (cX (cX (.s [35]) (D2 (pB 1))) (cX (.s [44]) (D2 (pB 2))))
  | 14 => (cX (cX (.s [35]) (D2 (pB 1))) (cX (.s [44]) (cX (D2 (pB 2)) (.s [44, 88]))))
  | 15 => (cX (cX (.s [35]) (D2 (pB 1))) (cX (.s [44]) (D4 (wX 2))))
  | 16 => (cX (cX (.s [35]) (D2 (pB 1))) (cX (.s [44]) (cX (D4 (wX 2)) (.s [44, 88]))))
  | 17 => (cX (cX (.s [40]) (D4 (wX 1))) (.s [41]))
  | 18 => (cX (cX (.s [40]) (cX (D4 (wX 1)) (.s [44, 88]))) (.s [41]))
  | 19 => (cX (D4 (wX 1)) (cX (.s [44]) (cX (D4 (wX 3)) (cX (.s [44]) (D4 (wX 5))))))
  | _ => .s []
def opQ : Nat → X
  | 1 => (cX (.s [35]) (D2 (pB 1)))
  | 2 => (D2 (pB 1))
  | 3 => (cX (D2 (pB 1)) (.s [44, 88]))
  | 4 => (cX (D2 (pB 1)) (.s [44, 89]))
  | 5 => (D4 (wX 1))
  | 6 => (cX (D4 (wX 1)) (.s [44, 88]))
  | 7 => (cX (D4 (wX 1)) (.s [44, 89]))
  | 8 => (cX (cX (.s [40]) (D2 (pB 1))) (.s [41]))
  | 9 => (cX (cX (.s [40]) (D2 (pB 1))) (.s [44, 88, 41]))
  | 10 => (cX (cX (.s [40]) (D2 (pB 1))) (.s [41, 44, 89]))
  | 11 => (D4 tgQ1)
  | 12 => (cX (cX (D2 (pB 1)) (.s [44])) (D4 tgQ2))
  | 13 => (cX (cX (cX (.s [35]) (D2 (pB 1))) (.s [44])) (D2 (pB 2)))
  | 14 => (cX (cX (cX (.s [35]) (D2 (pB 1))) (.s [44])) (cX (D2 (pB 2)) (.s [44, 88])))
  | 15 => (cX (cX (cX (.s [35]) (D2 (pB 1))) (.s [44])) (D4 (wX 2)))
  | 16 => (cX (cX (cX (.s [35]) (D2 (pB 1))) (.s [44])) (cX (D4 (wX 2)) (.s [44, 88])))
  | 17 => (cX (cX (.s [40]) (D4 (wX 1))) (.s [41]))
  | 18 => (cX (cX (.s [40]) (D4 (wX 1))) (.s [44, 88, 41]))
  | 19 => (cX (cX (cX (cX (D4 (wX 1)) (.s [44])) (D4 (wX 3))) (.s [44])) (D4 (wX 5)))
  | _ => .s []
def txP (m : Nat) : X := bif Nat.beq m 0 then nmX (pB 0) else cX hdX (opP m)
def txQ (m : Nat) : X := bif Nat.beq m 0 then nmX (pB 0) else cX hdX (opQ m)
def nQ (m : Nat) : X := bif Nat.beq m 0 then .i 1 else szB
def lenB : X := .u .len (.v 0)
def lenR : X := .o .add (.o .mul (.v 1) (.i (-1))) lenB
def behM : List Nat := [0, 1, 1, 1, 1, 2, 2, 2, 1, 1, 1, 1, 2, 2, 2, 3, 3, 2, 2, 6]
def szM (m : Nat) : Int := ((1 + behM.getD m 0 : Nat) : Int)
def mdFs (m : Nat) : List Fact := [⟨mdX (pB 0), ⟨some (m : Int), some (m : Int)⟩⟩, ⟨szB, ⟨some (szM m), some (szM m)⟩⟩, ⟨lenR, ⟨some (szM m), some 500000⟩⟩]
def atFs : List Fact := [⟨lenB, ⟨some 0, some 500000⟩⟩, ⟨.v 1, ⟨some 0, some 500000⟩⟩, ⟨.v 2, ⟨some 0, some 65535⟩⟩]
def bLk (w : Bool) : Option SBlk := some ⟨.by (.v 0), 5, w, false⟩
def nmAx : X := .u .not (.o .lt (.i 4) (.u .len (nmX (pB 0))))
def lcTx (m : Nat) (tx n : X) : LC := ⟨3, [.z (.sl 0 (.v 1) 1 0 lenR lenR), .z (.i .u16 (.v 2))], [bLk false], mdFs m ++ atFs, [knX (pB 0), nmAx, .o .lt (.v 1) lenB], .tu [.s (.z (.s tx)), .s (.z (.i .i64 n))], [bLk false]⟩
end
end Go.Proofs.YtjcpcnoakphecaaDoor
