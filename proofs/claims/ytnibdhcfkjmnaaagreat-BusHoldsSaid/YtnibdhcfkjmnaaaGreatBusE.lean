/-
  The bus's other methods: what they answer, and what the bus is then. Conditions: none.
-/
import Derived.Test.YtnibdhcfkjmnaaaGreatBusC
set_option linter.unusedSectionVars false
set_option linter.unusedVariables false
set_option linter.unusedSimpArgs false
namespace Go.Proofs.YtnibdhcfkjmnaaaGreat
open Go Go.AE Go.SX Go.RowKit
set_option maxRecDepth 1000000
section
open Go.RowKit Go.Shelf Go.Lib
set_option maxHeartbeats 2000000 in
theorem clone0_A (a : Addr) (c : Nat) (w : World) : Calls Tryz.prog 70 #[.slice (some a) 0 c] w fun e w' => (∃ b, e = .returned (.slice b 0 0)) ∧ Below w.heap.size w w' := by
  have t22 : Tryz.prog.underlying 52 = some (.slice 64) := rfl
  have q22 : ∀ (w : World) (a : Option Addr) (n c n' c' : Nat), (binOp .eql 52 (.slice a n c) (.slice none n' c')).run Tryz.prog w = .ok (.bool a.isNone) w := fun w a n c n' c' => Lib.run_eql_slice_nil w _ _ a n c n' c' t22
  go_enter Tryz.func70, Tryz.ntmps70
  go_wp2_with (at_builtin; refine wpList_append0 rfl _ _ 52 rfl rfl rfl (app0 rfl rfl rfl rfl _ _ _ _ _) ?_)
  go_ret
  exact ⟨⟨_, rfl⟩, (Below.refl _ w).alloc (Nat.le_refl _) _⟩
set_option maxHeartbeats 2000000 in
theorem cloneN_A (w : World) : Calls Tryz.prog 70 #[.slice none 0 0] w fun e w' => (∃ b, e = .returned (.slice b 0 0)) ∧ Below w.heap.size w w' := by
  have t22 : Tryz.prog.underlying 52 = some (.slice 64) := rfl
  have q22 : ∀ (w : World) (a : Option Addr) (n c n' c' : Nat), (binOp .eql 52 (.slice a n c) (.slice none n' c')).run Tryz.prog w = .ok (.bool a.isNone) w := fun w a n c n' c' => Lib.run_eql_slice_nil w _ _ a n c n' c' t22
  go_enter Tryz.func70, Tryz.ntmps70
  go_wp2
  go_ret
  exact ⟨⟨_, rfl⟩, Below.refl _ w⟩
end
variable [HF] [HOk1] [HOk2] [HOk3] [ROk] [BOk]
def lcClA (w : Bool) : LC := clLC (.u .rlen (.v 0)) 0 maxB (.rw aK (.v 0)) 64 w
theorem clA : ∀ w, (lcClA w).Ok Tryz.prog 70
  | true => cl_join (lc_ok rfl rfl (by kernel_rfl)) clone0_A cloneN_A
  | false => cl_join (lc_ok rfl rfl (by kernel_rfl)) clone0_A cloneN_A
/-- An image may be longer than a feed. -/
def lcClR (w : Bool) : LC := clLC (.u .len (.v 0)) 0 140737488351232 (.by (.v 0)) 5 w
theorem clR : ∀ w, (lcClR w).Ok Tryz.prog 58
  | true => cl_join (lc_ok rfl rfl (by kernel_rfl)) clone0_B cloneN_B
  | false => cl_join (lc_ok rfl rfl (by kernel_rfl)) clone0_B cloneN_B
/-! What is at an address, without an access. -/
def pkR (fs : List Fact) (v : X) : BRow := ⟨fs, v, bChg []⟩
def busPk : List BRow := [pkR (whF 0 0 :: bkF 0 127) (iI (.o .lt adN (.u .len (.v 4))) (.o .nth (.v 4) adN) (.i 255)), pkR (whF 1 1 :: bkF 248 251) (.o .nth (.v 5) OFF), pkR [whF 2 8] (.i 255)]
def fsPkB : List Fact := [⟨.v 11, ⟨some 0, some 4294967295⟩⟩]
def pkM (r : BRow) : Mth := ⟨11, 1, [.z (.i .u32 (.v 11))], r.fs ++ fsPkB, [], .z (.i .u8 r.val)⟩
theorem no_ok (e : En) : ∀ x ∈ ([] : List X), x.B e = true := fun _ h => by cases h
theorem pkA0 : ((pkM (rowAt busPk 0)).lc 4 (rowAt busPk 0).sp).Ok Tryz.prog 25 := bus_ok rfl no_ok rfl rfl (by kernel_rfl)
theorem pkA1 : ((pkM (rowAt busPk 1)).lc 4 (rowAt busPk 1).sp).Ok Tryz.prog 25 := bus_ok rfl no_ok rfl rfl (by kernel_rfl)
theorem pkA2 : ((pkM (rowAt busPk 2)).lc 4 (rowAt busPk 2).sp).Ok Tryz.prog 25 := bus_ok rfl no_ok rfl rfl (by kernel_rfl)
/-! The speed; who is entered. -/
def spAsk : List X := bChg [(2, .b true), (3, .v 11)]
def spTurn : List X := bChg [(1, iB (.v 2) (.v 3) (.v 1)), (2, .b false)]
def isRst : X := .o .eq (.v 11) (.i 1)
def spEnt : List X := bChg [(2, .o .or isRst (.v 2)), (3, .o .and (.u .not isRst) (.v 3)), (6, EN6)]
/-! What is told. -/
/-! What is made. -/
def consN : List (FuncId × List LC) := (58, [lcClR true, lcClR false]) :: (70, [lcClA true, lcClA false]) :: consB
noncomputable def CBn : FuncId → Option CallF := conLC 12 TI consN
theorem CBn_ok : ∀ n c, CBn n = some c → ConOk TI n c := conLC_ok (all_cons' (all_cons' ⟨rfl, clR true⟩ (all_cons' ⟨rfl, clR false⟩ all_nil')) (all_cons' (all_cons' ⟨rfl, clA true⟩ (all_cons' ⟨rfl, clA false⟩ all_nil')) consB_ok))
def fsNew : List Fact := [⟨.v 2, ⟨some (-9223372036854775808), some 9223372036854775807⟩⟩, ⟨.u .len (.v 1), ⟨some 0, some 140737488351232⟩⟩, ⟨prX (.v 0) 18, ⟨some 0, some 0⟩⟩, ⟨prX (.v 0) 10, ⟨none, some 0⟩⟩, ⟨prX (.v 0) 12, ⟨none, some 0⟩⟩, ⟨prX (.v 0) 14, ⟨none, some 0⟩⟩]
def budX : X := iI (.o .lt (.v 2) (.i 0)) (.i 0) (iI (.o .lt (.i maxB) (.v 2)) (.i maxB) (.v 2))
def newBX : X := packX [.i 0, .b false, .b false, .b false, .v 1, zerosX, .v 0, budX, .b false, .nil, .i 0]
def romB (w : Bool) : Option SBlk := some ⟨.by (.v 1), bif w then 5 else 0, w, false⟩
def lcBusNew (w : Bool) (k j : Nat) (o : Option SBlk) : LC := ⟨3, [.z (.sl 1 (.i 0) 0 0 (.u .len (.v 1)) (.u .len (.v 1))), p0, .z (.i .i64 (.v 2))], [some (obS k (.v 0)), romB w], fsNew, [], .z (.p 2 (.i 0) 0 0), [none, o, some (obS j newBX)]⟩
def withL (c : LC) (l : List X) : LC := ⟨c.n, c.args, c.mem, c.fs, l ++ c.as, c.val, c.out⟩
theorem drop_ok {c : LC} {f : FuncId} {l : List X} (hl : ∀ e : En, ∀ x ∈ l, x.B e = true) (h : (withL c l).Ok Tryz.prog f) : c.Ok Tryz.prog f := LC.Ok.drop (ax := l) h fun x hx e => hl e x hx
theorem busNewA : (lcBusNew false 1 4 (romB false)).Ok Tryz.prog 11 := drop_ok lemZ_ok (
  LC.Ok.of_treeF (L := noJ) (lem := noX) (W := W0) (n := 12) (cf := 300) (d := 20) (opn := []) (cls := [(2, 4)]) (fun _ _ _ h => by cases h) (fun _ _ h => by cases h) CBn_ok tmB_ok rfl rfl (by kernel_rfl))
end Go.Proofs.YtnibdhcfkjmnaaaGreat
