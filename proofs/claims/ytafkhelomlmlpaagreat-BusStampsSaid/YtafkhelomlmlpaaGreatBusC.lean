/-
  The bus's accesses, case by case: what they answer, and what the bus is then. Conditions: none.
-/
import Derived.Test.YtafkhelomlmlpaaGreatBusB
set_option linter.unusedSectionVars false
set_option linter.unusedVariables false
set_option linter.unusedSimpArgs false
namespace Go.Proofs.YtafkhelomlmlpaaGreat
open Go Go.AE Go.SX Go.RowKit
set_option maxRecDepth 1000000
variable [HF]
def bChg (l : List (Nat × X)) : List X := l.foldl (fun s p => s.set p.1 p.2) (varsX 11)
def adN : X := .o .emod (.v 11) (.i 2097152)
def bk1 : X := .o .emod (.o .ediv (.v 11) (.i 8192)) (.i 256)
def whN : X := .ap 3 adN
def bkF (lo hi : Int) : List Fact := [⟨bk1, ⟨some lo, some hi⟩⟩]
def whF (lo hi : Int) : Fact := ⟨whN, ⟨some lo, some hi⟩⟩
def some1 : Fact := ⟨.v 7, ⟨some 1, none⟩⟩
def none1 : Fact := ⟨.v 7, ⟨none, some 0⟩⟩
structure BRow where
  fs : List Fact
  val : X
  sp : List X
def lenB (ext : Bool) : X := bif ext then iI (.v 1) (.i 6) (.i 24) else iI (.v 1) (.i 3) (.i 12)
def rowX (kind v : X) (w : Bool) : X := .u .row (packX [.v 0, adN, kind, .b w, v, .nil])
def goOn (ext : Bool) (kind v : X) (w : Bool) (page : X) (more : List (Nat × X)) : List X :=
  bChg ([(0, ad (.v 0) (lenB ext)), (6, page), (7, ad (.v 7) (.i (-1))), (9, .o .rcat (.v 9) (rowX kind v w)), (10, ad (.v 10) (.i (bif ext then 2 else 1)))] ++ more)
def rdR (fs : List Fact) (ext : Bool) (v page : X) : BRow := ⟨some1 :: fs, v, goOn ext (.v 12) v false page []⟩
def v21 : X := .ap 21 (.o .pair TO6 OFF)
def busRd : List BRow := [⟨[none1], .i 255, bChg [(8, .b true)]⟩,
  rdR (whF 0 0 :: bkF 0 127) false (iI (.o .lt adN (.u .len (.v 4))) (.o .nth (.v 4) adN) (.i 255)) TO6,
  rdR (whF 1 1 :: bkF 248 251) false (.o .nth (.v 5) OFF) TO6,
  rdR (whF 2 2 :: bkF 128 254) false (.i 255) TO6,
  rdR (whF 2 2 :: bkF 255 255) false v21 RD6,
  rdR (whF 3 4 :: bkF 255 255) true v21 RD6,
  rdR (whF 5 8 :: bkF 255 255) false v21 RD6]
def fsRdB : List Fact := [⟨.v 11, ⟨some 0, some 4294967295⟩⟩, ⟨.v 12, ⟨some 0, some 255⟩⟩]
def brM (r : BRow) : Mth := ⟨11, 2, [.z (.i .u32 (.v 11)), .z (.i .u8 (.v 12))], r.fs ++ fsRdB, [], .z (.i .u8 r.val)⟩
def wrR (fs : List Fact) (ext : Bool) (page : X) (more : List (Nat × X)) : BRow := ⟨some1 :: fs, .nil, goOn ext (.v 13) (.v 12) true page more⟩
def busWr : List BRow := [⟨[none1], .nil, bChg [(8, .b true)]⟩,
  wrR (whF 0 0 :: bkF 0 127) false TO6 [],
  wrR (whF 1 1 :: bkF 248 251) false TO6 [(5, .set (.v 5) OFF (.v 12))],
  wrR (whF 2 2 :: bkF 128 254) false TO6 [],
  wrR (whF 2 2 :: bkF 255 255) false WR6 [],
  wrR (whF 3 4 :: bkF 255 255) true WR6 [],
  wrR (whF 5 8 :: bkF 255 255) false WR6 []]
def fsWrB : List Fact := [⟨.v 11, ⟨some 0, some 4294967295⟩⟩, ⟨.v 12, ⟨some 0, some 255⟩⟩, ⟨.v 13, ⟨some 0, some 255⟩⟩]
def bwM (r : BRow) : Mth := ⟨11, 3, [.z (.i .u32 (.v 11)), .z (.i .u8 (.v 12)), .z (.i .u8 (.v 13))], r.fs ++ fsWrB, [], .tu []⟩
variable [HOk1] [HOk2] [HOk3] [ROk] [BOk]
def Mth.given (m : Mth) (l : List X) : Mth := ⟨m.N, m.k, m.args, m.fs, l, m.val⟩
theorem bus_ok {f : FuncId} {m : Mth} {j : Nat} {sp : List X} {l : List X} (hfn : TI.fn f = true) (hl : ∀ e : En, ∀ x ∈ l, x.B e = true) (hm : m.as = []) (hok : ((Mth.given m l).lc j sp).ok = true) (h : treeF 12 noJ noX TI W0 CB 300 20 tmB f ((Mth.given m l).lc j sp) [(0, j)] [(0, j)] = true) : (m.lc j sp).Ok Tryz.prog f := by
  have h0 : ((Mth.given m l).lc j sp).Ok Tryz.prog f := LC.Ok.of_treeF (L := noJ) (lem := noX) (fun _ _ _ h => by cases h) (fun _ _ h => by cases h) CB_ok tmB_ok hfn hok h
  refine LC.Ok.drop (c := m.lc j sp) (ax := l) ?_ fun x hx e => hl e x hx
  have e1 : (LC.mk (m.lc j sp).n (m.lc j sp).args (m.lc j sp).mem (m.lc j sp).fs (l ++ (m.lc j sp).as) (m.lc j sp).val (m.lc j sp).out) = (Mth.given m l).lc j sp := by
    show LC.mk _ _ _ _ (l ++ m.as) _ _ = _
    rw [hm, List.append_nil]; rfl
  rw [e1]
  exact h0
theorem lemTR_ok (e : En) : ∀ x ∈ lemTo ++ lemRd, x.B e = true := fun x hx => by
  rcases List.mem_append.1 hx with hx | hx
  · exact lemTo_ok e x hx
  · exact lemRd_ok e x hx
theorem lemTW_ok (e : En) : ∀ x ∈ lemTo ++ lemWr, x.B e = true := fun x hx => by
  rcases List.mem_append.1 hx with hx | hx
  · exact lemTo_ok e x hx
  · exact lemWr_ok e x hx
def rowAt (l : List BRow) (i : Nat) : BRow := l.getD i ⟨[], .nil, []⟩
end Go.Proofs.YtafkhelomlmlpaaGreat
