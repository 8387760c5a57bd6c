/-
  What is counted of accesses, by contracts. Conditions: none.
-/
import Derived.Test.YtjcpcnoakphecaaDoorTrE
import Derived.Test.YtjcpcnoakphecaaDoorBkw
set_option linter.unusedSectionVars false
set_option linter.unusedVariables false
set_option linter.unusedSimpArgs false
namespace Go.Proofs.YtjcpcnoakphecaaDoor
open Go Go.AE Go.SX Go.RowKit
set_option maxRecDepth 1000000
def lcWh (x : X) : LC := ⟨1, [.z (.i .u32 (.v 0))], [], [⟨.v 0, ⟨some 0, some 4294967295⟩⟩], [], .z (.i .u8 x), []⟩
def bkX' : X := .o .emod (.o .ediv (.v 0) (.i 8192)) (.i 256)
def ofX' : X := .o .emod (.v 0) (.i 8192)
def iteI (c : X) (a b : X) : X := .t .i c a b
def nL' (a b : X) : X := .u .not (.o .lt a b)
def whA : X := iteI (.o .lt (.i 127) bkX') (iteI (.o .and (nL' bkX' (.i 248)) (nL' (.i 251) bkX')) (.i 1) (iteI (.o .eq bkX' (.i 255)) (iteI (.o .lt ofX' (.i 6144)) (iteI (.o .lt ofX' (.i 5120)) (iteI (.o .lt ofX' (.i 4096)) (iteI (.o .lt ofX' (.i 3072)) (iteI (.o .lt ofX' (.i 2048)) (iteI (.o .lt ofX' (.i 1024)) (.i 3) (.i 4)) (.i 5)) (.i 6)) (.i 7)) (.i 8)) (.i 2)) (.i 2))) (.i 0)
def qX' : X := .o .emod (.o .ediv (.v 0) (.i 1024)) (.i 8)
def qIs (n : Int) : X := .o .eq qX' (.i n)
def whB : X := iteI (.o .lt bkX' (.i 128)) (.i 0) (iteI (.o .and (nL' bkX' (.i 248)) (nL' (.i 251) bkX')) (.i 1) (iteI (.o .or (.u .not (.o .eq bkX' (.i 255))) (nL' ofX' (.i 6144))) (.i 2) (iteI (qIs 0) (.i 3) (iteI (qIs 1) (.i 4) (iteI (qIs 2) (.i 5) (iteI (qIs 3) (.i 6) (iteI (qIs 4) (.i 7) (.i 8))))))))
theorem wh_a0 : (lcWh whA).Ok Tryd.prog 79 := LC.Ok.of_treeF (L := noJ) (lem := noX) (T := T) (W := W0) (n := 12) (cf := 300) (d := 20) (opn := []) (cls := []) (fun _ _ _ h => by cases h) (fun _ _ h => by cases h) C0_ok noT_ok rfl rfl (by kernel_rfl)
def whAx : X := impS (.o .lt ofX' (.i 6144)) (.o .lt qX' (.i 6))
theorem whAx_ok (e : En) : whAx.B e = true := impS_ok fun h => by
  have h : (e.ρ 0).toI % 8192 < 6144 := lt_out h
  exact decide_eq_true (by show (e.ρ 0).toI / 1024 % 8 < 6; omega)
def lcWhB : LC := ⟨1, [.z (.i .u32 (.v 0))], [], [⟨.v 0, ⟨some 0, some 4294967295⟩⟩], [whAx], .z (.i .u8 whB), []⟩
theorem wh_b0 : lcWhB.Ok Tryd.prog 26 := LC.Ok.of_treeF (L := noJ) (lem := noX) (T := T) (W := W0) (n := 12) (cf := 300) (d := 20) (opn := []) (cls := []) (fun _ _ _ h => by cases h) (fun _ _ h => by cases h) C0_ok noT_ok rfl rfl (by kernel_rfl)
theorem iteI_I (e : En) (c a b : X) : (iteI c a b).I e = if c.B e = true then a.I e else b.I e := by
  show (bif c.B e then a.I e else b.I e) = _
  cases c.B e <;> rfl
theorem wlt_iff (e : En) (a b : X) : (X.o .lt a b).B e = true ↔ a.I e < b.I e := decide_eq_true_iff
theorem weq_iff (e : En) (a b : X) : (X.o .eq a b).B e = true ↔ a.I e = b.I e := decide_eq_true_iff
theorem wnl_iff (e : En) (a b : X) : (nL' a b).B e = true ↔ ¬ a.I e < b.I e := by
  show (!decide (a.I e < b.I e)) = true ↔ _
  simp
theorem wan_iff (e : En) (a b : X) : (X.o .and a b).B e = true ↔ a.B e = true ∧ b.B e = true := by
  show (a.B e && b.B e) = true ↔ _
  rw [Bool.and_eq_true]
theorem wor_iff (e : En) (a b : X) : (X.o .or a b).B e = true ↔ a.B e = true ∨ b.B e = true := by
  show (a.B e || b.B e) = true ↔ _
  rw [Bool.or_eq_true]
theorem wno_iff (e : En) (a b : X) : (X.u .not (.o .eq a b)).B e = true ↔ ¬ a.I e = b.I e := by
  show (!decide (a.I e = b.I e)) = true ↔ _
  simp
theorem wi_I (e : En) (n : Int) : (X.i n).I e = n := rfl
theorem bk_I (e : En) : bkX'.I e = (e.ρ 0).toI / 8192 % 256 := rfl
theorem of_I (e : En) : ofX'.I e = (e.ρ 0).toI % 8192 := rfl
theorem q_I (e : En) : qX'.I e = (e.ρ 0).toI / 1024 % 8 := rfl
theorem whA_I (e : En) : whA.I e = whF (e.ρ 0).toI := by
  unfold whA
  simp only [iteI_I, wlt_iff, weq_iff, wnl_iff, wan_iff, wi_I, bk_I, of_I]
  unfold whF
  generalize (e.ρ 0).toI / 8192 % 256 = b
  have h1 := Int.emod_nonneg (e.ρ 0).toI (b := 8192) (by omega)
  generalize (e.ρ 0).toI % 8192 = o at h1 ⊢
  repeat' split
  all_goals omega
theorem whB_I (e : En) (h : 0 ≤ (e.ρ 0).toI) : whB.I e = whF (e.ρ 0).toI := by
  unfold whB qIs
  simp only [iteI_I, wlt_iff, weq_iff, wnl_iff, wan_iff, wor_iff, wno_iff, wi_I, bk_I, of_I, q_I]
  unfold whF
  have hq : (e.ρ 0).toI / 1024 % 8 = (e.ρ 0).toI % 8192 / 1024 := by omega
  rw [hq]
  generalize (e.ρ 0).toI / 8192 % 256 = b
  have h1 := Int.emod_nonneg (e.ρ 0).toI (b := 8192) (by omega)
  generalize (e.ρ 0).toI % 8192 = o at h1 ⊢
  repeat' split
  all_goals omega
def lcWhN : LC := lcWh (whX (.v 0))
theorem wh_a : lcWhN.Ok Tryd.prog 79 := wh_a0.conv rfl rfl rfl fun ds hl hf ha => ⟨hf, ha, by
  show Value.int .u8 (whA.I (envOf ds)) = Value.int .u8 (whF ((envOf ds).ρ 0).toI)
  rw [whA_I], rfl⟩
theorem wh_b : lcWhN.Ok Tryd.prog 26 := wh_b0.conv rfl rfl rfl fun ds hl hf ha => ⟨hf, all_cons' (P := fun x : X => x.B (envOf ds) = true) (whAx_ok _) all_nil', by
  show Value.int .u8 (whB.I (envOf ds)) = Value.int .u8 (whF ((envOf ds).ρ 0).toI)
  have h0 : 0 ≤ ((envOf ds).ρ 0).toI := (hf _ (.head _)).1 _ rfl
  rw [whB_I _ h0], rfl⟩
def acK' : List CK := [.i .i64, .i .u32, .i .u8, .b, .i .u8]
def rln (x : X) : X := .u .rlen x
def slC (j : Nat) : SV := .z (.sl j (.i 0) 0 0 (rln (.v j)) (rln (.v j)))
def rwC (x : X) : Option SBlk := some ⟨.rw acK' x, 24, false, false⟩
def fewN (x : X) : Fact := ⟨rln x, ⟨some 0, some 1000⟩⟩
def Wc : FuncId → Nat → List (Hint Tryd.prog) := fun n k => bif Nat.beq n 28 then [.t 8 (some 0) (some 1000), .a 3 3 8] else bif Nat.beq n 29 then [.t 8 (some 0) (some 1000), .a 3 3 9] else bif Nat.beq n 30 then [.t 10 (some 0) (some 1000), .l 5 24 (some 1000)] else bif Nat.beq n 32 then [.t 7 (some 0) (some 1000)] else bif Nat.beq n 31 then [.t 13 (some 0) (some 1000)] else []
noncomputable def Wcl : FuncId → Nat → List (Hint Tryd.prog) := fun n k => bif Nat.beq n 27 && Nat.beq k 2000 then [.r bkX, .c 4 0 (some 0) (some 255)] else []
end Go.Proofs.YtjcpcnoakphecaaDoor
