/-
  The bus's other methods: what they answer, and what the bus is then. Conditions: none.
-/
import Derived.Test.YtafkhelomlmlpaaGreatBusC
set_option linter.unusedSectionVars false
set_option linter.unusedVariables false
set_option linter.unusedSimpArgs false
namespace Go.Proofs.YtafkhelomlmlpaaGreat
open Go Go.AE Go.SX Go.RowKit
set_option maxRecDepth 1000000
section
open Go.RowKit Go.Shelf Go.Lib
set_option maxHeartbeats 2000000 in
theorem clone0_A (a : Addr) (c : Nat) (w : World) : Calls Tryz.prog 59 #[.slice (some a) 0 c] w fun e w' => (∃ b, e = .returned (.slice b 0 0)) ∧ Below w.heap.size w w' := by
  have t22 : Tryz.prog.underlying 41 = some (.slice 45) := rfl
  have q22 : ∀ (w : World) (a : Option Addr) (n c n' c' : Nat), (binOp .eql 41 (.slice a n c) (.slice none n' c')).run Tryz.prog w = .ok (.bool a.isNone) w := fun w a n c n' c' => Lib.run_eql_slice_nil w _ _ a n c n' c' t22
  go_enter Tryz.func59, Tryz.ntmps59
  go_wp2_with (at_builtin; refine wpList_append0 rfl _ _ 41 rfl rfl rfl (app0 rfl rfl rfl rfl _ _ _ _ _) ?_)
  go_ret
  exact ⟨⟨_, rfl⟩, (Below.refl _ w).alloc (Nat.le_refl _) _⟩
set_option maxHeartbeats 2000000 in
theorem cloneN_A (w : World) : Calls Tryz.prog 59 #[.slice none 0 0] w fun e w' => (∃ b, e = .returned (.slice b 0 0)) ∧ Below w.heap.size w w' := by
  have t22 : Tryz.prog.underlying 41 = some (.slice 45) := rfl
  have q22 : ∀ (w : World) (a : Option Addr) (n c n' c' : Nat), (binOp .eql 41 (.slice a n c) (.slice none n' c')).run Tryz.prog w = .ok (.bool a.isNone) w := fun w a n c n' c' => Lib.run_eql_slice_nil w _ _ a n c n' c' t22
  go_enter Tryz.func59, Tryz.ntmps59
  go_wp2
  go_ret
  exact ⟨⟨_, rfl⟩, Below.refl _ w⟩
end
variable [HF] [HOk1] [HOk2] [HOk3] [ROk] [BOk]
def lcClA (w : Bool) : LC := clLC (.u .rlen (.v 0)) 0 maxB (.rw aK (.v 0)) 45 w
theorem clA : ∀ w, (lcClA w).Ok Tryz.prog 59
  | true => cl_join (lc_ok rfl rfl (by kernel_rfl)) clone0_A cloneN_A
  | false => cl_join (lc_ok rfl rfl (by kernel_rfl)) clone0_A cloneN_A
/-- An image may be longer than a feed. -/
def lcClR (w : Bool) : LC := clLC (.u .len (.v 0)) 0 140737488351232 (.by (.v 0)) 5 w
theorem clR : ∀ w, (lcClR w).Ok Tryz.prog 47
  | true => cl_join (lc_ok rfl rfl (by kernel_rfl)) clone0_B cloneN_B
  | false => cl_join (lc_ok rfl rfl (by kernel_rfl)) clone0_B cloneN_B
/-! What is at an address, without an access. -/
def pkR (fs : List Fact) (v : X) : BRow := ⟨fs, v, bChg []⟩
def busPk : List BRow := [pkR (whF 0 0 :: bkF 0 127) (iI (.o .lt adN (.u .len (.v 4))) (.o .nth (.v 4) adN) (.i 255)), pkR (whF 1 1 :: bkF 248 251) (.o .nth (.v 5) OFF), pkR [whF 2 8] (.i 255)]
theorem no_ok (e : En) : ∀ x ∈ ([] : List X), x.B e = true := fun _ h => by cases h
/-! The speed; who is entered. -/
def askM : Mth := ⟨11, 1, [.z (.b (.v 11))], [], [], .tu []⟩
def spAsk : List X := bChg [(2, .b true), (3, .v 11)]
theorem askA : (askM.lc 4 spAsk).Ok Tryz.prog 11 := bus_ok rfl no_ok rfl rfl (by kernel_rfl)
def turnM : Mth := ⟨11, 0, [], [], [], .tu []⟩
def spTurn : List X := bChg [(1, iB (.v 2) (.v 3) (.v 1)), (2, .b false)]
theorem turnA : (turnM.lc 4 spTurn).Ok Tryz.prog 12 := bus_ok rfl no_ok rfl rfl (by kernel_rfl)
def isRst : X := .o .eq (.v 11) (.i 1)
def spEnt : List X := bChg [(2, .o .or isRst (.v 2)), (3, .o .and (.u .not isRst) (.v 3)), (6, EN6)]
/-! What is told. -/
def leftM : Mth := ⟨11, 0, [], [], [], .z (.i .i64 (.v 7))⟩
theorem left4 : (leftM.lc 4 (bChg [])).Ok Tryz.prog 14 := bus_ok rfl no_ok rfl rfl (by kernel_rfl)
/-! What is made. -/
def consN : List (FuncId × List LC) := (47, [lcClR true, lcClR false]) :: (59, [lcClA true, lcClA false]) :: consB
noncomputable def CBn : FuncId → Option CallF := conLC 12 TI consN
theorem CBn_ok : ∀ n c, CBn n = some c → ConOk TI n c := conLC_ok (all_cons' (all_cons' ⟨rfl, clR true⟩ (all_cons' ⟨rfl, clR false⟩ all_nil')) (all_cons' (all_cons' ⟨rfl, clA true⟩ (all_cons' ⟨rfl, clA false⟩ all_nil')) consB_ok))
def withL (c : LC) (l : List X) : LC := ⟨c.n, c.args, c.mem, c.fs, l ++ c.as, c.val, c.out⟩
theorem drop_ok {c : LC} {f : FuncId} {l : List X} (hl : ∀ e : En, ∀ x ∈ l, x.B e = true) (h : (withL c l).Ok Tryz.prog f) : c.Ok Tryz.prog f := LC.Ok.drop (ax := l) h fun x hx e => hl e x hx
/-- All accesses. -/
def lcTrace : LC := ⟨11, [p0], [some (obS 4 (packX (varsX 11)))], [], [], .z (.sl 1 (.i 0) 0 0 (.u .rlen (.v 9)) (.u .rlen (.v 9))), [some (obS 4 (packX (varsX 11))), some ⟨.rw aK (.v 9), 45, true, false⟩]⟩
theorem traceA : lcTrace.Ok Tryz.prog 13 :=
  LC.Ok.of_treeF (L := noJ) (lem := noX) (W := W0) (n := 12) (cf := 300) (d := 20) (opn := [(0, 4)]) (cls := [(0, 4)]) (fun _ _ _ h => by cases h) (fun _ _ h => by cases h) CBn_ok tmB_ok rfl rfl (by kernel_rfl)
end Go.Proofs.YtafkhelomlmlpaaGreat
