/-
  The page's copies; whether edges may be. Conditions: none.
-/
import Derived.Test.YtnibdhcfkjmnaaaGreatHdG
import Derived.Test.YtnibdhcfkjmnaaaGreatClo
set_option linter.unusedSectionVars false
set_option linter.unusedVariables false
set_option linter.unusedSimpArgs false
namespace Go.Proofs.YtnibdhcfkjmnaaaGreat
open Go Go.AE Go.SX Go.RowKit
set_option maxRecDepth 1000000
variable [HF]
/-! Copies. -/
def cons2 : List (FuncId × List LC) := [(58, [lcClB true, lcClB false]), (117, [lcClE true, lcClE false])]
noncomputable def CC : FuncId → Option CallF := conLC 8 TI cons2
theorem CC_ok : ∀ n c, CC n = some c → ConOk TI n c := conLC_ok (all_cons' (all_cons' ⟨rfl, clB true⟩ (all_cons' ⟨rfl, clB false⟩ all_nil')) (all_cons' (all_cons' ⟨rfl, clE true⟩ (all_cons' ⟨rfl, clE false⟩ all_nil')) all_nil'))
def obv (k : Nat) : Option SBlk := some (obS k (packX (varsX 19)))
def cpLC (j : Nat) : LC := ⟨19, [p0], [obv j], [], [], .z (.p 1 (.i 0) 0 0), [obv j, obv j]⟩
def cpW (j : Nat) : LC := ⟨1, [p0], [some (obS j (.v 0))], [], [], .z (.p 1 (.i 0) 0 0), [some (obS j (.v 0)), some (obS j (.v 0))]⟩
variable [HOk1] [HOk2] [HOk3]
theorem cp_ok {f : FuncId} {j : Nat} (hfn : TI.fn f = true) (hok : (cpLC j).ok = true) (h : treeF 12 noJ noX TI W0 CC 300 20 tms f (cpLC j) [(0, j)] [(0, j), (1, j)] = true) : (cpLC j).Ok Tryz.prog f :=
  LC.Ok.of_treeF (L := noJ) (lem := noX) (fun _ _ _ h => by cases h) (fun _ _ h => by cases h) CC_ok tms_ok hfn hok h
theorem cp_whole {j : Nat} {t : Tm} {f : FuncId} (hob : IsOb Tryz.prog j t) (hn : t.n = 19) (hv : VisOk t.n j) (h : (cpLC j).Ok Tryz.prog f) : (cpW j).Ok Tryz.prog f := by
  refine h.inst (es := mthE 19 0) (mthE_len 19 0) fun ds hl hf ha => ?_
  obtain ⟨d, rfl⟩ := len1 hl
  have he : (mthE 19 0).map (X.den (envOf [d])) = comps 19 d ++ [] := mthE_den 19 0 rfl
  have h1 : denM (envOf ((mthE 19 0).map (X.den (envOf [d])))) [some (obS j (packX (varsX 19)))] = denM (envOf [d]) [some (obS j (.v 0))] := by
    rw [he]
    refine obS_same hob hv ?_ (by omega)
    rw [packX_eq, hn, List.append_nil]
    congr 1
  refine ⟨fun f hf => (by cases hf), fun x hx => (by cases hx), rfl, h1, rfl, ?_⟩
  exact congrArg (fun x => [x, x]) (List.cons.inj h1).1
theorem cpB : (cpLC 2).Ok Tryz.prog 94 := cp_ok rfl rfl (by kernel_rfl)
theorem copyWB : (cpW 2).Ok Tryz.prog 94 := cp_whole HOk2.tm2 rfl vis2 cpB
end Go.Proofs.YtnibdhcfkjmnaaaGreat
