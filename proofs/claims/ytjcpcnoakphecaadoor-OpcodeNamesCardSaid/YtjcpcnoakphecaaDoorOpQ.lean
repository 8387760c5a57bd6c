/-
  opcode.Names by a contract. Conditions: none.
-/
import Derived.Test.YtjcpcnoakphecaaDoorOpL
set_option linter.unusedSectionVars false
set_option linter.unusedVariables false
set_option linter.unusedSimpArgs false
namespace Go.Proofs.YtjcpcnoakphecaaDoor
open Go Go.AE Go.SX Go.RowKit Go.Sort
set_option maxRecDepth 1000000
def nmsX : X := .ap 62 (.i 0)
def lcNm (c : SC) : LC := ⟨0, [], [], [], [], .z (.sl 0 (.i 0) 0 0 (.i 117) (.i 234)), [some ⟨c, 9, true, false⟩]⟩
theorem names0 : (lcNm (.cs (strCs padN))).Ok Tryd.prog 51 := LC.Ok.of_treeF (L := noJ) (lem := noX) (T := TO) (W := W0) (n := 12) (cf := 300) (d := 20) (opn := []) (cls := []) (fun _ _ _ h => by cases h) (fun _ _ h => by cases h) CO0_ok noT_ok rfl rfl (by kernel_rfl)
theorem strR_rows : strR rowsN = padN := by
  unfold strR rowsN
  rw [List.map_map]
  exact (List.map_congr_left fun _ _ => rfl).trans (List.map_id _)
theorem names_lc : (lcNm (.rw [.s] nmsX)).Ok Tryd.prog 51 := names0.conv rfl rfl rfl fun ds hl hf ha => ⟨hf, ha, rfl, by
  have h1 : (SC.cs (strCs padN)).den (envOf ds) = padN.map encStr := strCs_den _ _
  have h2 : (SC.rw [.s] nmsX).den (envOf ds) = padN.map encStr := by
    show (Fam.Φ 62 (.i 0)).toR.flatMap (rowV [.s]) = _
    rw [DOk4.h62]
    show rowsN.flatMap (rowV [.s]) = _
    rw [rowS_cells, strR_rows]
  show [some (ABlk.mk ((SC.cs (strCs padN)).den (envOf ds)) _ _ _ none)] = [some (ABlk.mk ((SC.rw [.s] nmsX).den (envOf ds)) _ _ _ none)]
  rw [h1, h2]⟩
/-! The other calls of the laws' head. -/
def sF (l : List UInt8) (k : Int) : List SV := [.z (.s (.s l)), .z (.i .u8 (.i k))]
def lcFd (l : List UInt8) (k b : Int) (q : Bool) : LC := ⟨0, sF l k, [], [], [], .tu [.s (.z (.i .u8 (.i b))), .s (.z (.b (.b q)))], []⟩
theorem find1 : (lcFd [76, 68, 65] 1 169 true).Ok Tryd.prog 49 := LC.Ok.of_treeF (L := noJ) (lem := noX) (T := TO) (W := W0) (n := 12) (cf := 300) (d := 20) (opn := []) (cls := []) (fun _ _ _ h => by cases h) (fun _ _ h => by cases h) CO0_ok noT_ok rfl rfl (by kernel_rfl)
theorem find2 : (lcFd [76, 68, 65] 11 0 false).Ok Tryd.prog 49 := LC.Ok.of_treeF (L := noJ) (lem := noX) (T := TO) (W := W0) (n := 12) (cf := 300) (d := 20) (opn := []) (cls := []) (fun _ _ _ h => by cases h) (fun _ _ h => by cases h) CO0_ok noT_ok rfl rfl (by kernel_rfl)
def lcMd (l r : List UInt8) : LC := ⟨0, [.z (.s (.s l))], [], [], [], .z (.sl 0 (.i 0) 0 0 (.i (r.length : Nat)) (.i (r.length : Nat))), [some ⟨.cs (r.map fun b => .z (.i .u8 (.i (b.toNat : Nat)))), 5, true, false⟩]⟩
theorem modes1 : (lcMd [83, 84, 90] [2, 3, 5, 6]).Ok Tryd.prog 50 := LC.Ok.of_treeF (L := noJ) (lem := noX) (T := TO) (W := W0) (n := 12) (cf := 300) (d := 20) (opn := []) (cls := []) (fun _ _ _ h => by cases h) (fun _ _ h => by cases h) CO0_ok noT_ok rfl rfl (by kernel_rfl)
def nmPX (nm s i m k : X) : X := .ap 60 (.o .pair nm (.o .pair s (.o .pair i (.o .pair m k))))
theorem nmPX_iff (e : En) (nm s i m k : X) : (nmPX nm s i m k).B e = true ↔ NmP (nm.S e) (s.S e) (i.I e) (m.I e) (k.I e) := by
  show (Fam.Φ 60 (.p (nm.den e) (.p (s.den e) (.p (i.den e) (.p (m.den e) (k.den e)))))).toB = true ↔ _
  rw [DOk4.h60]
  exact @decide_eq_true_iff _ (_)
def knPX (s i k : X) : X := .ap 61 (.o .pair s (.o .pair i k))
theorem knPX_iff (e : En) (s i k : X) : (knPX s i k).B e = true ↔ KnP (s.S e) (i.I e) (k.B e) := by
  show (Fam.Φ 61 (.p (s.den e) (.p (i.den e) (k.den e)))).toB = true ↔ _
  rw [DOk4.h61]
  exact @decide_eq_true_iff _ (_)
theorem rows_at : ∀ (l : List (List UInt8)) (k : Nat), (((l.map fun s => [A.s s]).getD k []).getD 0 (.i 0)).toS = l.getD k []
  | [], _ => rfl
  | _ :: _, 0 => rfl
  | _ :: l, k + 1 => rows_at l k
theorem rsN_S (e : En) (i : X) : (X.o (.rS 0) nmsX i).S e = nmN (i.I e).toNat := by
  show ((((Fam.Φ 62 (.i 0)).toR.getD (i.I e).toNat []).getD 0 (.i 0))).toS = _
  rw [DOk4.h62]
  exact rows_at padN _
end Go.Proofs.YtjcpcnoakphecaaDoor
