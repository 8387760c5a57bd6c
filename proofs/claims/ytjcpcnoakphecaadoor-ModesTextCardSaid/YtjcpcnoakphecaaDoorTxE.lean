/-
  Texts of instructions at any place; the contracts for the law. Conditions: none.
-/
import Derived.Test.YtjcpcnoakphecaaDoorTxD
import Derived.Test.YtjcpcnoakphecaaDoorTxL
set_option linter.unusedSectionVars false
set_option linter.unusedVariables false
set_option linter.unusedSimpArgs false
namespace Go.Proofs.YtjcpcnoakphecaaDoor
open Go Go.AE Go.SX Go.RowKit
set_option maxRecDepth 1000000
noncomputable section
def slQ : List SV := [.z (.sl 0 (.v 1) 1 0 (.v 3) (.v 4)), .z (.i .u16 (.v 2))]
def lcTq : LC := ⟨5, slQ, [bLk false], atFs ++ [⟨.v 3, ⟨some 1, some 500000⟩⟩], [.o .eq (.v 3) lenR, .o .eq (.v 4) lenR], .tu [.s (.z (.s (.u .fst tx0))), .s (.z (.i .i64 (.u .snd tx0)))], [bLk false]⟩
def lcT0 : LC := ⟨5, slQ, [bLk false], atFs ++ [⟨.v 3, ⟨some 0, some 0⟩⟩], [], .tu [.s (.z (.s (.s []))), .s (.z (.i .i64 (.i 0)))], [bLk false]⟩
theorem eq_outM {a b : X} {e : En} (h : (X.o .eq a b).B e = true) : a.I e = b.I e := of_decide_eq_true h
theorem tq_of {f : FuncId} (h : lcTz.Ok Tryd.prog f) : lcTq.Ok Tryd.prog f := by
  refine h.inst (es := [.v 0, .v 1, .v 2]) rfl fun ds hl hf ha => ?_
  have h3 : ((envOf ds).ρ 3).toI = lenR.I (envOf ds) := eq_outM (ha _ (.head _))
  have h4 : ((envOf ds).ρ 4).toI = lenR.I (envOf ds) := eq_outM (ha _ (.tail _ (.head _)))
  have f3 := hf _ (.tail _ (.tail _ (.tail _ (.head _))))
  have f30 : 1 ≤ ((envOf ds).ρ 3).toI := f3.1 _ rfl
  have f31 : ((envOf ds).ρ 3).toI ≤ 500000 := f3.2 _ rfl
  refine ⟨?_, ?_, ?_, rfl, rfl, rfl⟩
  · exact all_cons' (hasM (by show 1 ≤ lenR.I (envOf ds); omega) (by show lenR.I (envOf ds) ≤ 500000; omega)) (all_cons' (hf _ (.head _)) (all_cons' (hf _ (.tail _ (.head _))) (all_cons' (hf _ (.tail _ (.tail _ (.head _)))) all_nil')))
  · refine all_cons' ?_ all_nil'
    refine decide_eq_true ?_
    have q : lenR.I (envOf ds) = ((envOf ds).ρ 1).toI * (-1) + ((((envOf ds).ρ 0).toS.length : Nat) : Int) := rfl
    show ((envOf ds).ρ 1).toI < ((((envOf ds).ρ 0).toS.length : Nat) : Int)
    omega
  · show [Value.slice (some ⟨0, ((envOf ds).ρ 1).toI.toNat * 1 + 0, none⟩) (lenR.I (envOf ds)).toNat (lenR.I (envOf ds)).toNat, Value.int .u16 ((envOf ds).ρ 2).toI] = [Value.slice (some ⟨0, ((envOf ds).ρ 1).toI.toNat * 1 + 0, none⟩) ((envOf ds).ρ 3).toI.toNat ((envOf ds).ρ 4).toI.toNat, Value.int .u16 ((envOf ds).ρ 2).toI]
    rw [h3, h4]
theorem tq_a : lcTq.Ok Tryd.prog 88 := tq_of tz_a
theorem tq_b : lcTq.Ok Tryd.prog 34 := tq_of tz_b
theorem t0_b : lcT0.Ok Tryd.prog 34 := LC.Ok.of_treeF (L := noJ) (lem := noX) (T := T) (W := W0) (n := 12) (cf := 300) (d := 20) (opn := []) (cls := []) (fun _ _ _ h => by cases h) (fun _ _ h => by cases h) CM_ok noT_ok rfl rfl (by kernel_rfl)
def CLe : List (FuncId × CallF) := [(33, conCall cYes), (88, conCall (conSm (conAlt ([lcTq].map (conG 12 T))))), (34, conCall (conSm (conAlt ([lcTq, lcT0].map (conG 12 T))))), (60, conCall (conSm (conAlt ([hxN2, hxN4].map (conG 12 T))))), (37, conCall (conSm (conAlt ([hxN2, hxN4].map (conG 12 T)))))]
theorem CLe_all : ∀ p ∈ CLe, ConOk T p.1 p.2 := all_cons' live24.ok (all_cons' (Con.ok (Con.sm (Con.alt (all_cons' (conG_ok rfl tq_a) all_nil')))) (all_cons' (Con.ok (Con.sm (Con.alt (all_cons' (conG_ok rfl tq_b) (all_cons' (conG_ok rfl t0_b) all_nil'))))) (all_cons' (hx_con hx_a2 hx_a4) (all_cons' (hx_con hx_b2 hx_b4) all_nil'))))
def CE := conTab CLe
theorem CE_ok : ∀ n c, CE n = some c → ConOk T n c := conTab_ok CLe_all
def Wmt : FuncId → Nat → List (Hint Tryd.prog) := fun n k => bif Nat.beq n 36 then [.sx 0 0 1 (some 0) (some 300), .sx 0 1 1 (some 0) (some 300), .sx 0 2 1 (some 0) (some 300), .t 1 (some 0) (some 65535), .l 5 9 (some 300)] else bif Nat.beq n 7 && Nat.beq k 0 then [.t 8 (some 0) (some 300), .t 9 (some 0) (some 300)] else []
end
end Go.Proofs.YtjcpcnoakphecaaDoor
