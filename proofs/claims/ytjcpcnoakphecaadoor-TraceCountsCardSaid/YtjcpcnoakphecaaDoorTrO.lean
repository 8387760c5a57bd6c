/-
  What is counted of accesses, by contracts: the walks. Conditions: none.
-/
import Derived.Test.YtjcpcnoakphecaaDoorTrN
set_option linter.unusedSectionVars false
set_option linter.unusedVariables false
set_option linter.unusedSimpArgs false
namespace Go.Proofs.YtjcpcnoakphecaaDoor
open Go Go.AE Go.SX Go.RowKit
set_option maxRecDepth 1000000
def lcWyc (x : X) : LC := ⟨1, [.z (.i .i64 (.v 0))], [], [], [], .z (.i .i64 x), []⟩
def wayTc (q : Int → X) : X := .t .i (q 3) (.i 0) (.t .i (q 6) (.i 1) (.t .i (q 12) (.i 2) (.t .i (q 24) (.i 3) (.i 4))))
def wyAc : X := wayTc fun n => .o .eq (.v 0) (.i n)
theorem wyA_Ic (e : En) : wyAc.I e = wayF (e.ρ 0).toI := by
  show (bif decide ((e.ρ 0).toI = 3) then (0 : Int) else bif decide ((e.ρ 0).toI = 6) then 1 else bif decide ((e.ρ 0).toI = 12) then 2 else bif decide ((e.ρ 0).toI = 24) then 3 else 4) = _
  simp only [Bool.cond_decide]
  rfl
theorem way_a0c : (lcWyc wyAc).Ok Tryd.prog 80 := LC.Ok.of_treeF (L := noJ) (lem := noX) (T := T) (W := W0) (n := 12) (cf := 300) (d := 20) (opn := []) (cls := []) (fun _ _ _ h => by cases h) (fun _ _ h => by cases h) C0_ok noT_ok rfl rfl (by kernel_rfl)
theorem way_ac : (lcWyc (wyX (.v 0))).Ok Tryd.prog 80 := way_a0c.conv rfl rfl rfl fun ds hl hf ha => ⟨hf, ha, by
  show Value.int .i64 (wyAc.I (envOf ds)) = Value.int .i64 (wayF ((envOf ds).ρ 0).toI)
  rw [wyA_Ic], rfl⟩
noncomputable section
def Cx := conLC 12 T [(79, [lcWhN]), (26, [lcWhN]), (80, [lcWyc (wyX (.v 0))])]
theorem Cx_ok : ∀ n c, Cx n = some c → ConOk T n c := conLC_ok (all_cons' (all_cons' ⟨rfl, wh_a⟩ all_nil') (all_cons' (all_cons' ⟨rfl, wh_b⟩ all_nil') (all_cons' (all_cons' ⟨rfl, way_ac⟩ all_nil') all_nil')))
def loop1 (b : Nat) (inv ms : X) : Nat → Option LJ := fun n => bif Nat.beq n b then some ⟨inv, ms, none⟩ else none
theorem loop1_ok {b : Nat} {inv ms : X} : ∀ n li g, loop1 b inv ms n = some li → li.fn = some g → IsLoop g := fun n li g hl hg => by
  unfold loop1 at hl
  cases h : Nat.beq n b with
  | true => rw [h] at hl; cases hl; cases hg
  | false => rw [h] at hl; cases hl
def lem1 (b : Nat) (l : List X) : Nat → List X := fun n => bif Nat.beq n b then l else []
theorem lem1_ok {b : Nat} {l : List X} (h : AllB l) : ∀ n, ∀ x ∈ lem1 b l n, ∀ e : En, x.B e = true := fun n x hx => by
  unfold lem1 at hx
  cases hb : Nat.beq n b with
  | false => rw [hb] at hx; cases hx
  | true => rw [hb] at hx; exact h x hx
def left (l i : X) : X := mkSub (rln l) i
def zs8 : X := zerosX 8
def zs9 : X := zerosX 9
theorem ki0 (l : X) (e : En) : (kiPX l (.i 0) zs8).B e = true := (kiP_iff e _ _ _).2 ⟨Int.le_refl _, Int.natCast_nonneg _, zeros_R e 8⟩
theorem pl0 (l : X) (e : En) : (plPX l (.i 0) zs9).B e = true := (plP_iff e _ _ _).2 ⟨Int.le_refl _, Int.natCast_nonneg _, zeros_R e 9⟩
def nilR : X := .o .rtake .nil (.i 0)
theorem of0 (l w : X) (e : En) : (ofPX l w (.i 0) nilR).B e = true := (ofP_iff e _ _ _ _).2 ⟨Int.le_refl _, Int.natCast_nonneg _, rfl⟩
theorem la0 (l a : X) (e : En) : (laPX l a (.i 0) (.i 0) (.b false)).B e = true := (laP_iff e _ _ _ _ _).2 ⟨Int.le_refl _, Int.natCast_nonneg _, rfl⟩
theorem ba0 (l a : X) (e : En) : (baPX l a (.i 0)).B e = true := (baP_iff e _ _ _).2 ⟨Int.le_refl _, Int.natCast_nonneg _, rfl⟩
theorem ri0 (l : X) (e : En) : (riPX l (.i 0) tr).B e = true := (riP_iff e _ _ _).2 ⟨Int.le_refl _, Int.natCast_nonneg _, rfl⟩
theorem ot0 (a b : X) (e : En) : (otPX a b (.i 0) m1).B e = true := (otP_iff e _ _ _ _).2 ⟨Int.le_refl _, Int.natCast_nonneg _, rfl⟩
def v0 : X := .v 0
def agC (t : X) (n : Nat) : SV := .a (.ag ((List.range n).map fun k => .z (.i .i64 (cellX t (.i (k : Nat))))))
def lcKn (ax : List X) : LC := ⟨1, [slC 0], [rwC v0], [fewN v0], ax, agC (kkX v0) 8, [rwC v0]⟩
def lcPn (ax : List X) : LC := ⟨1, [slC 0], [rwC v0], [fewN v0], ax, agC (plX v0) 9, [rwC v0]⟩
def u8F (x : X) : Fact := ⟨x, ⟨some 0, some 255⟩⟩
def u32F (x : X) : Fact := ⟨x, ⟨some 0, some 4294967295⟩⟩
def of0X : X := ofX v0 (.v 1)
def lcOn (ax : List X) : LC := ⟨2, [slC 0, .z (.i .u8 (.v 1))], [rwC v0], [fewN v0, u8F (.v 1)], ax, .z (.sl 1 (.i 0) 0 0 (rln of0X) (rln of0X)), [rwC v0, some ⟨.rw acK' of0X, 24, true, false⟩]⟩
def lcLn (ax : List X) : LC := ⟨2, [slC 0, .z (.i .u32 (.v 1))], [rwC v0], [fewN v0, u32F (.v 1)], ax, .tu [.s (.z (.i .u8 (.u .fst (laX v0 (.v 1))))), .s (.z (.b (.u .snd (laX v0 (.v 1)))))], [rwC v0]⟩
def lcRn (ax : List X) : LC := ⟨1, [slC 0], [rwC v0], [fewN v0], ax, .z (.b (riX v0)), [rwC v0]⟩
def lcTn (ax : List X) : LC := ⟨2, [slC 0, slC 1], [rwC v0, rwC (.v 1)], [fewN v0, fewN (.v 1)], ax, .z (.i .i64 (otX v0 (.v 1))), [rwC v0, rwC (.v 1)]⟩
def otI : X := .o .and (otPX v0 (.v 1) (.v 2) m1) (.u .not (.o .lt (rln (.v 1)) (.v 2)))
def axK : X := kiPX v0 (.i 0) zs8
def axP : X := plPX v0 (.i 0) zs9
def axO : X := ofPX v0 (.v 1) (.i 0) nilR
def axL : X := baPX v0 (.v 1) (.i 0)
def axR : X := riPX v0 (.i 0) tr
def axT : X := otPX v0 (.v 1) (.i 0) m1
theorem kn0 : (lcKn [axK]).Ok Tryd.prog 28 := LC.Ok.of_treeF (L := loop1 1 (kiPX v0 (.v 1) (.v 2)) (left v0 (.v 1))) (lem := lem1 1 (lemKi v0 (.v 1) (.v 2))) (T := T) (W := Wc) (n := 12) (cf := 300) (d := 20) (opn := []) (cls := []) loop1_ok (lem1_ok (lemKi_ok _ _ _)) Cx_ok noT_ok rfl rfl (by kernel_rfl)
theorem kn : (lcKn []).Ok Tryd.prog 28 := kn0.conv rfl rfl rfl fun ds hl hf ha => ⟨hf, all_cons' (P := fun x : X => x.B (envOf ds) = true) (ki0 v0 (envOf ds)) all_nil', rfl, rfl⟩
theorem pn0 : (lcPn [axP]).Ok Tryd.prog 29 := LC.Ok.of_treeF (L := loop1 1 (plPX v0 (.v 1) (.v 2)) (left v0 (.v 1))) (lem := lem1 1 (lemPl v0 (.v 1) (.v 2))) (T := T) (W := Wc) (n := 12) (cf := 300) (d := 20) (opn := []) (cls := []) loop1_ok (lem1_ok (lemPl_ok _ _ _)) Cx_ok noT_ok rfl rfl (by kernel_rfl)
theorem pn : (lcPn []).Ok Tryd.prog 29 := pn0.conv rfl rfl rfl fun ds hl hf ha => ⟨hf, all_cons' (P := fun x : X => x.B (envOf ds) = true) (pl0 v0 (envOf ds)) all_nil', rfl, rfl⟩
theorem on0 : (lcOn [axO]).Ok Tryd.prog 30 := LC.Ok.of_treeF (L := loop1 2 (ofPX v0 (.v 1) (.v 2) (.v 3)) (left v0 (.v 2))) (lem := lem1 2 (lemOf v0 (.v 1) (.v 2) (.v 3))) (T := T) (W := Wc) (n := 12) (cf := 300) (d := 20) (opn := []) (cls := []) loop1_ok (lem1_ok (lemOf_ok _ _ _ _)) Cx_ok noT_ok rfl rfl (by kernel_rfl)
theorem on : (lcOn []).Ok Tryd.prog 30 := on0.conv rfl rfl rfl fun ds hl hf ha => ⟨hf, all_cons' (P := fun x : X => x.B (envOf ds) = true) (of0 v0 (.v 1) (envOf ds)) all_nil', rfl, rfl⟩
theorem ln0 : (lcLn [axL]).Ok Tryd.prog 27 := LC.Ok.of_treeF (L := loop1 2 (baPX v0 (.v 1) (.v 2)) (left v0 (.v 2))) (lem := lem1 2 (lemBa v0 (.v 1) (.v 2))) (T := T) (W := Wcl) (n := 12) (cf := 300) (d := 20) (opn := []) (cls := []) loop1_ok (lem1_ok (lemBa_ok _ _ _)) Cx_ok noT_ok rfl rfl (by kernel_rfl)
theorem ln : (lcLn []).Ok Tryd.prog 27 := ln0.conv rfl rfl rfl fun ds hl hf ha => ⟨hf, all_cons' (P := fun x : X => x.B (envOf ds) = true) (ba0 v0 (.v 1) (envOf ds)) all_nil', rfl, rfl⟩
theorem rn0 : (lcRn [axR]).Ok Tryd.prog 32 := LC.Ok.of_treeF (L := loop1 1 (riPX v0 (.v 1) tr) (left v0 (.v 1))) (lem := lem1 1 (lemRp v0 (.v 1))) (T := T) (W := Wc) (n := 12) (cf := 300) (d := 20) (opn := []) (cls := []) loop1_ok (lem1_ok (lemRp_ok _ _)) Cx_ok noT_ok rfl rfl (by kernel_rfl)
theorem rn : (lcRn []).Ok Tryd.prog 32 := rn0.conv rfl rfl rfl fun ds hl hf ha => ⟨hf, all_cons' (P := fun x : X => x.B (envOf ds) = true) (ri0 v0 (envOf ds)) all_nil', rfl, rfl⟩
theorem tn0 : (lcTn [axT]).Ok Tryd.prog 31 := LC.Ok.of_treeF (L := loop1 2 otI (left v0 (.v 2))) (lem := lem1 2 (lemOp v0 (.v 1) (.v 2))) (T := T) (W := Wc) (n := 12) (cf := 300) (d := 20) (opn := []) (cls := []) loop1_ok (lem1_ok (lemOp_ok _ _ _)) Cx_ok noT_ok rfl rfl (by kernel_rfl)
theorem tn : (lcTn []).Ok Tryd.prog 31 := tn0.conv rfl rfl rfl fun ds hl hf ha => ⟨hf, all_cons' (P := fun x : X => x.B (envOf ds) = true) (ot0 v0 (.v 1) (envOf ds)) all_nil', rfl, rfl⟩
end
end Go.Proofs.YtjcpcnoakphecaaDoor
