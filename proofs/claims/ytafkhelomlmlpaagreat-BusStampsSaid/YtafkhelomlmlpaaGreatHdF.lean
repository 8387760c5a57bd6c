/-
  Contracts of the page's methods, of the program and of the document, with the same answers. Conditions: none.
-/
import Derived.Test.YtafkhelomlmlpaaGreatHdE
set_option linter.unusedSectionVars false
set_option linter.unusedVariables false
set_option linter.unusedSimpArgs false
namespace Go.Proofs.YtafkhelomlmlpaaGreat
open Go Go.AE Go.SX Go.RowKit
set_option maxRecDepth 1000000
variable [HF]
theorem vis1 : VisOk 19 1 := fun d => rfl
theorem vis2 : VisOk 19 2 := fun d => rfl
/-- The state with some parts changed. -/
def chg (l : List (Nat × X)) : List X := l.foldl (fun s p => s.set p.1 p.2) (varsX 19)
def aX : X := .o .add (.o .emod (.v 19) (.i 8192)) (.i 2088960)
def cs (lo hi : Int) : Fact := ⟨.ap 3 aX, ⟨some lo, some hi⟩⟩
structure Row where
  lo : Int
  hi : Int
  val : X
  sp : List X
def iI (c a b : X) : X := .t .i c a b
def iB (c a b : X) : X := .t .b c a b
def eqX' (a : X) (k : Int) : X := .o .eq a (.i k)
def nthOr (l t : Nat) : X := iI (.o .lt (.v t) (.u .len (.v l))) (.o .nth (.v l) (.v t)) (.i 255)
def md (x : X) (k : Int) : X := .o .emod x (.i k)
def dv (x : X) (k : Int) : X := .o .ediv x (.i k)
def ad (x y : X) : X := .o .add x y
def hi8 (k : Int) : X := .o .mul (dv (.v 0) k) (.i k)
def upV (k : Int) : X := upX (.v 15) (.v 16) (.i k)
/-! Reading. -/
def noPad : X := .o .or (.u .not (eqX' (dv (.v 7) 2) 0)) (.u .not (.o .lt (.v 8) (.i 5)))
def val6 : X := ad (.v 2) (hi8 128)
def val7 : X := iI noPad (.i 176) (iI (eqX' (md (.v 7) 2) 0) (ad (md (nthOr 9 10) 16) (.i 176)) (ad (dv (nthOr 9 10) 16) (.i 176)))
def val8 : X := iI (eqX' (md (.v 19) 4) 2) (ad (.v 5) (hi8 8)) (iI (eqX' (md (.v 19) 4) 3) (ad (ad (ad (hi8 8) (iI (.v 6) (.i 4) (.i 0))) (iI (upV 3) (.i 1) (.i 0))) (iI (upV 2) (.i 2) (.i 0))) (.v 0))
def rdTab : List Row := [⟨0, 2, .i 255, chg []⟩, ⟨3, 3, nthOr 11 12, chg [(12, ad (.v 12) (.i 1))]⟩, ⟨4, 4, nthOr 13 14, chg [(14, ad (.v 14) (.i 1))]⟩, ⟨5, 5, .v 0, chg []⟩,
  ⟨6, 6, val6, chg [(0, val6)]⟩, ⟨7, 7, val7, chg [(0, val7), (10, ad (.v 10) (iI noPad (.i 0) (.i 1)))]⟩, ⟨8, 8, val8, chg [(0, val8)]⟩]
def fsRd : List Fact := [⟨.v 19, ⟨some 0, some 65535⟩⟩, ⟨.v 10, ⟨none, some (big - 1)⟩⟩, ⟨.v 12, ⟨none, some (big - 1)⟩⟩, ⟨.v 14, ⟨none, some (big - 1)⟩⟩]
def rdM (r : Row) : Mth := ⟨19, 1, [.z (.i .u16 (.v 19))], cs r.lo r.hi :: fsRd, [], .z (.i .u8 r.val)⟩
/-! Writing. -/
def onB : X := .u .not (eqX' (md (.v 20) 2) 0)
def reg0 : X := eqX' (md (.v 19) 2) 0
def rises : X := .o .and onB (.u .not (.v 3))
def wrTab : List Row := [⟨0, 4, .nil, chg []⟩, ⟨5, 5, .nil, chg [(0, .v 20)]⟩,
  ⟨6, 6, .nil, chg [(0, .v 20), (1, iI reg0 (md (.v 20) 128) (.v 1)), (2, iI reg0 (.v 2) (iI rises (.v 1) (.v 2))), (3, iB reg0 (.v 3) onB), (4, iI reg0 (.v 4) (iI rises (.i 3072) (.v 4)))]⟩,
  ⟨7, 7, .nil, chg [(0, .v 20), (7, md (.v 20) 4), (8, iI (eqX' (md (dv (.v 20) 2) 2) 0) (iI (.o .and onB (eqX' (md (.v 7) 2) 0)) (iI (.o .lt (.i 5) (ad (.v 8) (.i 1))) (.i 5) (ad (.v 8) (.i 1))) (.v 8)) (.i 0))]⟩,
  ⟨8, 8, .nil, chg [(0, .v 20), (5, iI (eqX' (md (.v 19) 4) 2) (md (.v 20) 8) (.v 5)), (6, .o .and (.u .not (eqX' (md (.v 19) 4) 3)) (.v 6))]⟩]
def pad7B : X := iI (.o .lt (md (.v 20) 4) (.i 2)) (ad (.v 8) (iI (.o .and (.o .and (eqX' (md (.v 20) 4) 1) (eqX' (md (.v 7) 2) 0)) (.o .lt (.v 8) (.i 5))) (.i 1) (.i 0))) (.i 0)
def r7 : Row := wrTab.getD 3 ⟨0, 0, .nil, []⟩
def sp7B : List X := chg [(0, .v 20), (7, md (.v 20) 4), (8, pad7B)]
def fsWr : List Fact := [⟨.v 19, ⟨some 0, some 65535⟩⟩, ⟨.v 20, ⟨some 0, some 255⟩⟩]
def wrM (r : Row) : Mth := ⟨19, 2, [.z (.i .u16 (.v 19)), .z (.i .u8 (.v 20))], cs r.lo r.hi :: fsWr, [], .tu []⟩
/-! Going on. -/
def fsTo : List Fact := [⟨.v 19, ⟨some 0, some big⟩⟩, ⟨.o .add (.o .mul (.v 18) (.i (-1))) (.v 19), ⟨none, some 281474976710656⟩⟩]
def cTo : X := .o .lt (.v 18) (.v 19)
def aGO : X := .ap 2 (packX [.v 1, .v 2, .v 3, .v 4, .o .add (.o .mul (.v 18) (.i (-1))) (.v 19)])
def aTO : X := .ap 1 (packX [.v 15, .v 16, .v 17, .v 19])
def axTo : X := .u .not (.o .lt (.u .rlen (.v 15)) (.u .fst aTO))
def spTo : List X := chg [(2, iI cTo (.u .fst (.u .snd aGO)) (.v 2)), (4, iI cTo (.u .snd (.u .snd aGO)) (.v 4)), (6, iB cTo (.o .or (.o .lt (.i 0) (.u .fst aGO)) (.v 6)) (.v 6)), (16, iI cTo (.u .fst aTO) (.v 16)), (17, iB cTo (.u .snd aTO) (.v 17)), (18, iI cTo (.v 19) (.v 18))]
def toM (ax : List X) : Mth := ⟨19, 1, [.z (.i .i64 (.v 19))], fsTo, ax, .tu []⟩
/-! Who is entered; that something is entered; what all is. -/
def chV : X := iI (upV 0) (.i 1) (iI (.v 17) (.i 2) (iI (.o .and (.v 6) (.o .and (.u .not (.v 19)) (eqX' (dv (.v 5) 4) 0))) (.i 3) (iI (.o .and (upV 2) (.o .and (.u .not (.v 19)) (eqX' (md (dv (.v 5) 2) 2) 0))) (.i 4) (iI (.o .and (upV 3) (.o .and (.u .not (.v 19)) (eqX' (md (.v 5) 2) 0))) (.i 5) (.i 0)))))
def chM : Mth := ⟨19, 1, [.z (.b (.v 19))], [], [], .z (.i .u8 chV)⟩
def enM : Mth := ⟨19, 1, [.z (.i .u8 (.v 19))], [⟨.v 19, ⟨some 0, some 255⟩⟩], [], .tu []⟩
def isK (k : Int) : X := .u .not (eqX' (.v 19) k)
def spEn : List X := chg [(3, .o .and (isK 1) (.v 3)), (5, iI (eqX' (.v 19) 1) (.i 0) (.v 5)), (6, .o .and (isK 1) (.v 6)), (17, .o .and (isK 2) (.v 17))]
def stV : SV := .a (.ag [u8 0, u8 1, u8 2, u8 5, u8 7, i64 4, bb 3, bb 6, bb 17, i64 12, i64 14, i64 10])
def stM : Mth := ⟨19, 0, [], [], [], stV⟩
variable [HOk1] [HOk2]
theorem pg_ok {f : FuncId} {m : Mth} {j : Nat} {sp : List X} (hfn : TI.fn f = true) (hok : (m.lc j sp).ok = true) (h : treeF 12 noJ noX TI W0 CP 300 20 tms f (m.lc j sp) [(0, j)] [(0, j)] = true) : (m.lc j sp).Ok Tryz.prog f :=
  LC.Ok.of_treeF (L := noJ) (lem := noX) (fun _ _ _ h => by cases h) (fun _ _ h => by cases h) CP_ok tms_ok hfn hok h
theorem rdA : ∀ r ∈ rdTab, ((rdM r).lc 1 r.sp).Ok Tryz.prog 105 :=
  all_cons' (pg_ok rfl rfl (by kernel_rfl)) (all_cons' (pg_ok rfl rfl (by kernel_rfl)) (all_cons' (pg_ok rfl rfl (by kernel_rfl)) (all_cons' (pg_ok rfl rfl (by kernel_rfl)) (all_cons' (pg_ok rfl rfl (by kernel_rfl)) (all_cons' (pg_ok rfl rfl (by kernel_rfl)) (all_cons' (pg_ok rfl rfl (by kernel_rfl)) all_nil'))))))
theorem rdB : ∀ r ∈ rdTab, ((rdM r).lc 2 r.sp).Ok Tryz.prog 110 :=
  all_cons' (pg_ok rfl rfl (by kernel_rfl)) (all_cons' (pg_ok rfl rfl (by kernel_rfl)) (all_cons' (pg_ok rfl rfl (by kernel_rfl)) (all_cons' (pg_ok rfl rfl (by kernel_rfl)) (all_cons' (pg_ok rfl rfl (by kernel_rfl)) (all_cons' (pg_ok rfl rfl (by kernel_rfl)) (all_cons' (pg_ok rfl rfl (by kernel_rfl)) all_nil'))))))
theorem wrA : ∀ r ∈ wrTab, ((wrM r).lc 1 r.sp).Ok Tryz.prog 106 :=
  all_cons' (pg_ok rfl rfl (by kernel_rfl)) (all_cons' (pg_ok rfl rfl (by kernel_rfl)) (all_cons' (pg_ok rfl rfl (by kernel_rfl)) (all_cons' (pg_ok rfl rfl (by kernel_rfl)) (all_cons' (pg_ok rfl rfl (by kernel_rfl)) all_nil'))))
theorem wrB7 : ((wrM r7).lc 2 sp7B).Ok Tryz.prog 112 := pg_ok rfl rfl (by kernel_rfl)
theorem wrB : ∀ r ∈ wrTab, ((wrM r).lc 2 r.sp).Ok Tryz.prog 112 ∨ r = r7 :=
  all_cons' (.inl (pg_ok rfl rfl (by kernel_rfl))) (all_cons' (.inl (pg_ok rfl rfl (by kernel_rfl))) (all_cons' (.inl (pg_ok rfl rfl (by kernel_rfl))) (all_cons' (.inr rfl) (all_cons' (.inl (pg_ok rfl rfl (by kernel_rfl))) all_nil'))))
theorem toA : ((toM [axTo]).lc 1 spTo).Ok Tryz.prog 104 := pg_ok rfl rfl (by kernel_rfl)
theorem toB : ((toM [axTo]).lc 2 spTo).Ok Tryz.prog 174 := pg_ok rfl rfl (by kernel_rfl)
theorem chA : (chM.lc 1 (varsX 19)).Ok Tryz.prog 88 := pg_ok rfl rfl (by kernel_rfl)
theorem chB : (chM.lc 2 (varsX 19)).Ok Tryz.prog 30 := pg_ok rfl rfl (by kernel_rfl)
theorem enA : (enM.lc 1 spEn).Ok Tryz.prog 94 := pg_ok rfl rfl (by kernel_rfl)
theorem enB : (enM.lc 2 spEn).Ok Tryz.prog 113 := pg_ok rfl rfl (by kernel_rfl)
theorem stA : (stM.lc 1 (varsX 19)).Ok Tryz.prog 93 := pg_ok rfl rfl (by kernel_rfl)
theorem stB : (stM.lc 2 (varsX 19)).Ok Tryz.prog 35 := pg_ok rfl rfl (by kernel_rfl)
end Go.Proofs.YtafkhelomlmlpaaGreat
