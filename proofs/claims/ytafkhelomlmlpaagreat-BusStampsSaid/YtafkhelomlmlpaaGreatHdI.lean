/-
  Whether edges may be: both checks have one answer. Conditions: none.
-/
import Derived.Test.YtafkhelomlmlpaaGreatHdE
set_option linter.unusedSectionVars false
set_option linter.unusedVariables false
set_option linter.unusedSimpArgs false
namespace Go.Proofs.YtafkhelomlmlpaaGreat
open Go Go.AE Go.SX Go.RowKit
set_option maxRecDepth 1000000
/-- Is an edge wrong, behind an earlier stamp? -/
def badE (L : List (List A)) (i : Nat) (ahead : Int) : Bool := decide (¬ lnI L i < 4) || (decide (stI L i < ahead) || decide (26388279066624 < stI L i))
/-- The first edge that is wrong, from the i-th on; how many there are, if none is. -/
def badF (L : List (List A)) : Nat → Nat → Int → Nat
  | 0, i, _ => i
  | k + 1, i, a => if i < L.length ∧ badE L i a = false then badF L k (i + 1) (stI L i) else i
section
variable [Fam]
def lnX (l i : X) : X := .u (.wrap .u8) (.o (.rI 1) l i)
def stX (l i : X) : X := .u (.wrap .i64) (.o (.rI 0) l i)
def badX (l i a : X) : X := .o .or (.u .not (.o .lt (lnX l i) (.i 4))) (.o .or (.o .lt (stX l i) a) (.o .lt (.i 26388279066624) (stX l i)))
def cond14 : X := .o .and (.o .lt (.v 0) (.u .rlen (.v 2))) (.u .not (badX (.v 2) (.v 0) (.v 1)))
def next14 : List X := [.o .add (.v 0) (.i 1), stX (.v 2) (.v 0)]
def worseX : X := .o .or (.o .or (.o .lt (stX (.v 1) (.v 0)) (.i 0)) (.o .lt (.i 26388279066624) (stX (.v 1) (.v 0)))) (.o .and (.o .lt (.i 0) (.v 0)) (.o .lt (stX (.v 1) (.v 0)) (stX (.v 1) (.o .add (.v 0) (.i (-1))))))
def cond15 : X := .o .and (.o .lt (.v 0) (.u .rlen (.v 1))) (.o .and (.u .not (.o .lt (.i 3) (lnX (.v 1) (.v 0)))) (.u .not worseX))
def next15 : List X := [.o .add (.v 0) (.i 1)]
end
variable [HF]
def mE : SMem := [some ⟨.rw eK (.v 0), 0, false, false⟩]
def aE : List SV := [.z (.sl 0 (.i 0) 0 0 (.u .rlen (.v 0)) (.u .rlen (.v 0)))]
def fsE : List Fact := [⟨.u .rlen (.v 0), ⟨some 0, some 9223372036854775807⟩⟩]
/-- The answer, by the place where it ended and the stamp ahead of it. -/
def ckV (i : X) : SV := .a (.ag [
  .z (.i .i64 (.t .i (.o .lt (.i 1000) (.u .rlen (.v 0))) (.i 2) (.t .i (.o .lt i (.u .rlen (.v 0))) (.t .i (.o .lt (lnX (.v 0) i) (.i 4)) (.i 7) (.i 8)) (.i 0)))),
  .z (.i .i64 (.t .i (.o .lt (.i 1000) (.u .rlen (.v 0))) (.i 1000) (.t .i (.o .lt i (.u .rlen (.v 0))) i (.i 0))))])
def ckLC (i : X) : LC := ⟨1, aE, mE, fsE, [], ckV i, mE⟩
def Wck : FuncId → Nat → List (Hint Tryz.prog) := fun n _ => bif Nat.beq n 99 then [.t 13 (some 0) (some 1000), .t 3 none none] else bif Nat.beq n 60 then [.t 3 (some 0) (some 1000)] else []
def fn14 : LFn := ⟨14, [.v 0], cond14, next14⟩
def ap14 : X := .ap 14 (packX [.i 0, .i 0, .v 0])
def inv14 : X := .u .not (.o .lt (.u .rlen (.v 0)) (.v 1))
def L14 : Nat → Option LJ := Lone 1 ⟨inv14, .o .add (.u .rlen (.v 0)) (.o .mul (.v 1) (.i (-1))), some fn14⟩
def fn15 : LFn := ⟨15, [.v 0], cond15, next15⟩
def ap15 : X := .ap 15 (packX [.i 0, .v 0])
def L15 : Nat → Option LJ := Lone 1 ⟨inv14, .o .add (.u .rlen (.v 0)) (.o .mul (.v 1) (.i (-1))), some fn15⟩
class HOk4 : Prop where
  h8 : ∀ d, Fam.Φ 8 d = .i ((badF d.toR d.toR.length 0 0 : Nat) : Int)
  h14 : ∀ d, Fam.Φ 14 d = fixD cond14 next14 1 d
  h15 : ∀ d, Fam.Φ 15 d = fixD cond15 next15 1 d
variable [HOk1] [HOk4]
theorem ck1 : (ckLC (.u .fst ap14)).Ok Tryz.prog 99 :=
  LC.Ok.of_treeF (L := L14) (lem := noX) (W := Wck) (n := 12) (cf := 300) (d := 20) (opn := []) (cls := []) (Lone_ok (lj_ok rfl rfl rfl HOk4.h14)) (fun _ _ h => by cases h) CI_ok noT_ok rfl rfl (by kernel_rfl)
theorem ck2 : (ckLC ap15).Ok Tryz.prog 60 :=
  LC.Ok.of_treeF (L := L15) (lem := noX) (W := Wck) (n := 12) (cf := 300) (d := 20) (opn := []) (cls := []) (Lone_ok (lj_ok rfl rfl rfl HOk4.h15)) (fun _ _ h => by cases h) CI_ok noT_ok rfl rfl (by kernel_rfl)
end Go.Proofs.YtafkhelomlmlpaaGreat
