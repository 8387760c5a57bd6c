/-
  Pages made of nothing; rows of accesses compared. Conditions: none.
-/
import Derived.Test.YtnibdhcfkjmnaaaGreatBusE
set_option linter.unusedSectionVars false
set_option linter.unusedVariables false
set_option linter.unusedSimpArgs false
namespace Go.Proofs.YtnibdhcfkjmnaaaGreat
open Go Go.AE Go.SX Go.RowKit
set_option maxRecDepth 1000000
variable [HF] [HOk1] [HOk2] [HOk3] [ROk] [BOk]
def dnN (k : Int) : X := .u .not (upX .nil (.i 0) (.i k))
def lemN : List X := [.ap 7 .nil, dnN 0, dnN 1, dnN 2, dnN 3]
theorem lemN_ok (e : En) : ∀ x ∈ lemN, x.B e = true := by
  have h : ∀ k : Int, (dnN k).B e = true := fun k => by
    show (!(Fam.Φ 0 (.p .u (.p (.i 0) (.i k)))).toB) = true
    rw [HOk1.h0]; rfl
  refine all_cons' ?_ (all_cons' (h 0) (all_cons' (h 1) (all_cons' (h 2) (all_cons' (h 3) all_nil'))))
  show (Fam.Φ 7 .u).toB = true
  rw [HOk1.h7]; rfl
def lcNewN (j : Nat) : LC := ⟨0, [.a (.ag [.z .sl0, .z .sl0, .z .sl0]), .a (.s (.z .sl0))], [], [], [], .tu [.s (.z (.p 0 (.i 0) 0 0)), .ag [.z (.i .i64 (.i 0)), .z (.i .i64 (.i 0))]], [some (obS j (newX0 .nil))]⟩
theorem newNA : (lcNewN 1).Ok Tryz.prog 9 := drop_ok lemN_ok (
  LC.Ok.of_treeF (L := noJ) (lem := noX) (W := W0) (n := 12) (cf := 300) (d := 20) (opn := []) (cls := [(0, 1)]) (fun _ _ _ h => by cases h) (fun _ _ h => by cases h) CI_ok tmB_ok rfl rfl (by kernel_rfl))
theorem newNB : (lcNewN 2).Ok Tryz.prog 10 := drop_ok lemN_ok (
  LC.Ok.of_treeF (L := noJ) (lem := noX) (W := W0) (n := 12) (cf := 300) (d := 20) (opn := []) (cls := [(0, 2)]) (fun _ _ _ h => by cases h) (fun _ _ h => by cases h) CI_ok tmB_ok rfl rfl (by kernel_rfl))
/-! Rows of accesses, compared. -/
def mSm (w1 w2 : Bool) (t : Nat) : SMem := [some ⟨.rw aK (.v 0), t, w1, false⟩, some ⟨.rw aK (.v 0), t, w2, false⟩]
def sRows (j : Nat) : SV := .z (.sl j (.i 0) 0 0 (.u .rlen (.v 0)) (.u .rlen (.v 0)))
def lcSame (w1 w2 : Bool) : LC := ⟨1, [sRows 0, sRows 1], mSm w1 w2 64, [⟨.u .rlen (.v 0), ⟨some 0, some maxB⟩⟩], [], .z (.b (.b true)), mSm w1 w2 64⟩
def Wsm : FuncId → Nat → List (Hint Tryz.prog) := fun n _ => bif Nat.beq n 17 then [.t 5 (some 0) (some maxB)] else []
def Lno (b : Nat) (inv ms : X) : Nat → Option LJ := Lone b ⟨inv, ms, none⟩
theorem Lno_ok {b : Nat} {inv ms : X} : ∀ n li g, Lno b inv ms n = some li → li.fn = some g → IsLoop g := fun n li g hl hg => by
  unfold Lno Lone at hl
  cases hb : Nat.beq n b with
  | false => rw [hb] at hl; cases hl
  | true => rw [hb] at hl; cases hl; cases hg
theorem same_ok {w1 w2 : Bool} (hok : (lcSame w1 w2).ok = true) (h : treeF 12 (Lno 1 (.b true) (mkSub (.u .rlen (.v 0)) (.v 1))) noX TI Wsm C0 300 20 noT 17 (lcSame w1 w2) [] [] = true) : (lcSame w1 w2).Ok Tryz.prog 17 :=
  LC.Ok.of_treeF Lno_ok (lem := noX) (fun _ _ h => by cases h) CI_ok noT_ok rfl hok h
theorem sameTT : (lcSame true true).Ok Tryz.prog 17 := same_ok rfl (by kernel_rfl)
theorem sameTF : (lcSame true false).Ok Tryz.prog 17 := same_ok rfl (by kernel_rfl)
theorem sameFF : (lcSame false false).Ok Tryz.prog 17 := same_ok rfl (by kernel_rfl)
end Go.Proofs.YtnibdhcfkjmnaaaGreat
