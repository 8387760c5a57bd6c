/-
  Reading and unpacking accesses, by contracts. Conditions: none.
-/
import Derived.Test.YtjcpcnoakphecaaDoorTrH0
import Derived.Test.YtjcpcnoakphecaaDoorTrH1
import Derived.Test.YtjcpcnoakphecaaDoorTrH2
import Derived.Test.YtjcpcnoakphecaaDoorTrH3
import Derived.Test.YtjcpcnoakphecaaDoorTrH4
import Derived.Test.YtjcpcnoakphecaaDoorTrH5
import Derived.Test.YtjcpcnoakphecaaDoorTrH6
import Derived.Test.YtjcpcnoakphecaaDoorTrH7
import Derived.Test.YtjcpcnoakphecaaDoorTrH8
set_option linter.unusedSectionVars false
set_option linter.unusedVariables false
set_option linter.unusedSimpArgs false
namespace Go.Proofs.YtjcpcnoakphecaaDoor
open Go Go.AE Go.SX Go.RowKit
set_option maxRecDepth 1000000
def rdCs : List (List Fact) := [fstB 0 15, fstB 16 31, fstB 32 47, fstB 48 63, fstB 64 79, fstB 80 255]
theorem rdCs_ok (e : En) : ∃ fs ∈ rdCs, ∀ f ∈ fs, f.r.has (f.e.I e) := by
  have h1 : 0 ≤ (pB 0).I e := Int.natCast_nonneg _
  have h2 : (pB 0).I e ≤ 255 := by
    have := ((e.ρ 0).toS.getD (e.ρ 1).toI.toNat 0).toNat_lt
    show ((((e.ρ 0).toS.getD (e.ρ 1).toI.toNat 0).toNat : Nat) : Int) ≤ 255
    omega
  have k : ∀ lo hi : Int, lo ≤ (pB 0).I e → (pB 0).I e ≤ hi → ∀ f ∈ fstB lo hi, f.r.has (f.e.I e) := fun lo hi g1 g2 f hf => by
    obtain rfl := List.mem_singleton.1 hf
    exact hasM g1 g2
  rcases (by omega : (pB 0).I e ≤ 15 ∨ (16 ≤ (pB 0).I e ∧ (pB 0).I e ≤ 31) ∨ (32 ≤ (pB 0).I e ∧ (pB 0).I e ≤ 47) ∨ (48 ≤ (pB 0).I e ∧ (pB 0).I e ≤ 63) ∨ (64 ≤ (pB 0).I e ∧ (pB 0).I e ≤ 79) ∨ 80 ≤ (pB 0).I e) with h | ⟨h, h'⟩ | ⟨h, h'⟩ | ⟨h, h'⟩ | ⟨h, h'⟩ | h
  · exact ⟨_, .head _, k _ _ h1 h⟩
  · exact ⟨_, .tail _ (.head _), k _ _ h h'⟩
  · exact ⟨_, .tail _ (.tail _ (.head _)), k _ _ h h'⟩
  · exact ⟨_, .tail _ (.tail _ (.tail _ (.head _))), k _ _ h h'⟩
  · exact ⟨_, .tail _ (.tail _ (.tail _ (.tail _ (.head _)))), k _ _ h h'⟩
  · exact ⟨_, .tail _ (.tail _ (.tail _ (.tail _ (.tail _ (.head _))))), k _ _ h h2⟩
theorem rd_conv {w : Bool} {lo hi : Int} {v : SV} {f : FuncId} (h : (lcRv w lo hi v).Ok Tryd.prog f) (hv : ∀ e : En, RdG e lo hi → v.den e = (rdV rd0).den e) : (lcRv w lo hi (rdV rd0)).Ok Tryd.prog f :=
  h.conv rfl rfl rfl fun ds hl hf ha => ⟨hf, ha, hv _ (rdG_of hf), rfl⟩
def lcR (w : Bool) : LC := lcRd w [] [rdLt]
theorem rd_all {w : Bool} {f : FuncId} (h : ∀ q ∈ [(0, 15), (16, 31), (32, 47), (48, 63), (64, 79), (80, 255)], (lcRv w q.1 q.2 (rdV rd0)).Ok Tryd.prog f) : (lcR w).Ok Tryd.prog f := by
  refine LC.Ok.cases (l := rdCs) (fun fs hfs => ?_) fun ds hl hf => rdCs_ok _
  simp only [rdCs, List.mem_cons, List.not_mem_nil, or_false] at hfs
  rcases hfs with rfl | rfl | rfl | rfl | rfl | rfl
  · exact h (0, 15) (.head _)
  · exact h (16, 31) (.tail _ (.head _))
  · exact h (32, 47) (.tail _ (.tail _ (.head _)))
  · exact h (48, 63) (.tail _ (.tail _ (.tail _ (.head _))))
  · exact h (64, 79) (.tail _ (.tail _ (.tail _ (.tail _ (.head _)))))
  · exact h (80, 255) (.tail _ (.tail _ (.tail _ (.tail _ (.tail _ (.head _))))))
theorem wA (e : En) (w : Nat) (hw : w < 4) (h : RdG e (16 * w) (16 * w + 15)) : (vW w (dW (w : Nat)) (wrA w)).den e = (rdV rd0).den e := vW_den e w _ _ hw rfl h (wrA_B e h w (fun q => by omega) (fun q => by omega))
theorem wB (e : En) (w : Nat) (hw : w < 4) (h : RdG e (16 * w) (16 * w + 15)) : (vW w (dW (w : Nat)) (wrB w)).den e = (rdV rd0).den e := vW_den e w _ _ hw rfl h (wrB_B e h w (fun q => by omega) (fun q => by omega))
theorem rdA_f : (lcR false).Ok Tryd.prog 74 := rd_all (all_cons' (rd_conv rdA0f fun e h => wA e 0 (by omega) h) (all_cons' (rd_conv rdA1f fun e h => wA e 1 (by omega) h) (all_cons' (rd_conv rdA2f fun e h => wA e 2 (by omega) h) (all_cons' (rd_conv rdA3f fun e h => wA e 3 (by omega) h) (all_cons' (rd_conv rdA4f fun e h => vA4_den e h) (all_cons' (rd_conv rdAzf fun e h => vZ_den e h) all_nil'))))))
theorem rdA_t : (lcR true).Ok Tryd.prog 74 := rd_all (all_cons' (rd_conv rdA0t fun e h => wA e 0 (by omega) h) (all_cons' (rd_conv rdA1t fun e h => wA e 1 (by omega) h) (all_cons' (rd_conv rdA2t fun e h => wA e 2 (by omega) h) (all_cons' (rd_conv rdA3t fun e h => wA e 3 (by omega) h) (all_cons' (rd_conv rdA4t fun e h => vA4_den e h) (all_cons' (rd_conv rdAzt fun e h => vZ_den e h) all_nil'))))))
theorem rdB_f : (lcR false).Ok Tryd.prog 75 := rd_all (all_cons' (rd_conv rdB0f fun e h => wB e 0 (by omega) h) (all_cons' (rd_conv rdB1f fun e h => wB e 1 (by omega) h) (all_cons' (rd_conv rdB2f fun e h => wB e 2 (by omega) h) (all_cons' (rd_conv rdB3f fun e h => wB e 3 (by omega) h) (all_cons' (rd_conv rdB4f fun e h => vB4_den e h) (all_cons' (rd_conv rdBzf fun e h => vZ_den e h) all_nil'))))))
def lcQ (w : Bool) : LC := ⟨5, [.z (.sl 0 (.v 1) 1 0 (.v 3) (.v 4)), .z (.i .i64 (.v 2))], [byB' w (.v 0)], [⟨lenB, ⟨some 0, some 500000⟩⟩, ⟨.v 1, ⟨some 0, some 500000⟩⟩, ⟨.v 2, ⟨some 0, some 1125899906842624⟩⟩, ⟨.v 3, ⟨some 1, some 500000⟩⟩], [.o .eq (.v 3) lenR, .o .eq (.v 4) lenR], rdV rd0, [byB' w (.v 0)]⟩
theorem lcQ_ok {w : Bool} {f : FuncId} (h : (lcR w).Ok Tryd.prog f) : (lcQ w).Ok Tryd.prog f := by
  refine h.inst (es := [.v 0, .v 1, .v 2]) rfl fun ds hl hf ha => ?_
  have h3 : ((envOf ds).ρ 3).toI = lenR.I (envOf ds) := eq_out (ha _ (.head _))
  have h4 : ((envOf ds).ρ 4).toI = lenR.I (envOf ds) := eq_out (ha _ (.tail _ (.head _)))
  have f3 := hf _ (.tail _ (.tail _ (.tail _ (.head _))))
  have f30 : 1 ≤ ((envOf ds).ρ 3).toI := f3.1 _ rfl
  have f31 : ((envOf ds).ρ 3).toI ≤ 500000 := f3.2 _ rfl
  refine ⟨?_, ?_, ?_, rfl, rfl, rfl⟩
  · exact all_cons' (hf _ (.head _)) (all_cons' (hf _ (.tail _ (.head _))) (all_cons' (hf _ (.tail _ (.tail _ (.head _)))) (all_cons' (hasM (by show 1 ≤ lenR.I (envOf ds); omega) (by show lenR.I (envOf ds) ≤ 500000; omega)) all_nil')))
  · refine all_cons' ?_ all_nil'
    refine decide_eq_true ?_
    have q : lenR.I (envOf ds) = ((envOf ds).ρ 1).toI * (-1) + ((((envOf ds).ρ 0).toS.length : Nat) : Int) := rfl
    show ((envOf ds).ρ 1).toI < ((((envOf ds).ρ 0).toS.length : Nat) : Int)
    omega
  · show [Value.slice (some ⟨0, ((envOf ds).ρ 1).toI.toNat * 1 + 0, none⟩) (lenR.I (envOf ds)).toNat (lenR.I (envOf ds)).toNat, Value.int .i64 ((envOf ds).ρ 2).toI] = [Value.slice (some ⟨0, ((envOf ds).ρ 1).toI.toNat * 1 + 0, none⟩) ((envOf ds).ρ 3).toI.toNat ((envOf ds).ρ 4).toI.toNat, Value.int .i64 ((envOf ds).ρ 2).toI]
    rw [h3, h4]
noncomputable def Cr := conLC 12 T [(74, [lcQ false, lcQ true]), (75, [lcQ false])]
theorem Cr_ok : ∀ n c, Cr n = some c → ConOk T n c := conLC_ok (all_cons' (all_cons' ⟨rfl, lcQ_ok rdA_f⟩ (all_cons' ⟨rfl, lcQ_ok rdA_t⟩ all_nil')) (all_cons' (all_cons' ⟨rfl, lcQ_ok rdB_f⟩ all_nil') all_nil'))
def ur0 : X := urX (.v 0)
def upAx : List X := [upPX (.v 0) (.i 0) (.i 0) (.o .rtake .nil (.i 0)), .o .eq lenB lenB]
theorem upAx_ok : ∀ x ∈ upAx, ∀ e : En, x.B e = true := all_cons' (P := fun x : X => ∀ e : En, x.B e = true) (fun e => (upP_iff e _ _ _ _).2 (up_init _)) (all_cons' (P := fun x : X => ∀ e : En, x.B e = true) (fun e => eq_in rfl) all_nil')
def slB0 : SV := .z (.sl 0 (.i 0) 0 0 lenB lenB)
def lcUpA (w : Bool) (ax : List X) : LC := ⟨1, [slB0], [byB' w (.v 0)], [⟨lenB, ⟨some 0, some 13000⟩⟩], ax ++ [okX (.v 0)], .tu [.s (.z (.sl 1 (.i 0) 0 0 (rlen ur0) (rlen ur0))), fltX (.i 0) (.i 0)], [byB' w (.v 0), rwB true ur0]⟩
def lcUpB (w : Bool) (ax : List X) : LC := ⟨1, [slB0], [byB' w (.v 0)], [⟨lenB, ⟨some 0, some 13000⟩⟩], ax ++ [.u .not (okX (.v 0))], .tu [.s (.z .sl0), fltX (.i 3) (rlen ur0)], [byB' w (.v 0)]⟩
def lcUpAx (w : Bool) : LC := ⟨1, [slB0], [byB' w (.v 0)], [⟨lenB, ⟨some 0, some 13000⟩⟩, isI (okI (.v 0)) 1], [], .tu [.s (.z (.sl 1 (.i 0) 0 0 (rlen ur0) (rlen ur0))), fltX (.i 0) (.i 0)], [byB' w (.v 0), rwB true ur0]⟩
def lcUpBx (w : Bool) : LC := ⟨1, [slB0], [byB' w (.v 0)], [⟨lenB, ⟨some 0, some 13000⟩⟩, isI (okI (.v 0)) 0], [], .tu [.s (.z .sl0), fltX (.i 3) (rlen ur0)], [byB' w (.v 0)]⟩
def Wup : FuncId → Nat → List (Hint Tryd.prog) := fun n k => bif Nat.beq n 23 || Nat.beq n 25 then [.sx 0 0 1 (some 0) (some 13000), .sx 0 1 1 (some 0) (some 13000), .sx 0 2 1 (some 0) (some 13000), .t 5 (some 0) (some 1125899906842624), .l 4 24 (some 2600)] else []
def upI : X := upPX (.v 0) (.v 1) (.v 4) (.v 5)
def leR : X := .o .eq (.v 2) lenR
def cpR : X := .o .eq (.v 3) lenR
def upInv : X := .o .and upI (.o .and leR cpR)
def Lup : Nat → Option LJ := fun n => bif Nat.beq n 1 then some ⟨upInv, .v 2, none⟩ else none
theorem Lup_ok : ∀ n li g, Lup n = some li → li.fn = some g → IsLoop g := fun n li g hl hg => by
  unfold Lup at hl
  cases h : Nat.beq n 1 with
  | true => rw [h] at hl; cases hl; cases hg
  | false => rw [h] at hl; cases hl
def rdL' : X := rdX (.v 0) (.v 1) (.v 4)
def nL : X := xN rdL'
def c0 : X := .o .eq nL (.i 0)
def lt2 : X := .o .lt (.i 0) (.v 2)
def ok0 : X := okX (.v 0)
def req2 (a b : X) : X := .o .and (.o .and (.o .req a b) (.o .req b a)) (eq2 (rlen a) (rlen b))
theorem req2_in {a b : X} {e : En} (h : a.R e = b.R e) : (req2 a b).B e = true :=
  and_B (and_B (decide_eq_true h) (decide_eq_true h.symm)) (eq2_in (by show (((a.R e).length : Nat) : Int) = (((b.R e).length : Nat) : Int); rw [h]))
abbrev upE (e : En) : Prop := UpP (e.ρ 0).toS (e.ρ 1).toI (e.ρ 4).toI (e.ρ 5).toR
abbrev rdE (e : En) : D := rdD ((e.ρ 0).toS.drop (e.ρ 1).toI.toNat) (e.ρ 4).toI
theorem c0_iff (e : En) : c0.B e = true ↔ dN (rdE e) = 0 := decide_eq_true_iff
theorem le_of {e : En} (h : leR.B e = true) : (e.ρ 2).toI = (((e.ρ 0).toS.length : Nat) : Int) - (e.ρ 1).toI := by
  have h1 : (e.ρ 2).toI = (e.ρ 1).toI * (-1) + (((e.ρ 0).toS.length : Nat) : Int) := eq_out h
  omega
def upR : X := .u .not (.o .lt (.i 2600) (.o .add (rlen (.v 5)) (.i 1)))
def upL1 : X := impS (.o .and upI (.o .and leR (.o .and lt2 (.o .and (.u .not c0) (.u .not (.o .lt (.i 13000) lenB)))))) (.o .and (.o .and (upPX (.v 0) (.o .add (.v 1) nL) (xSt rdL') (.o .rcat (.v 5) (xRow rdL'))) (.o .and (.u .not (.o .lt nL (.i 5))) (.u .not (.o .lt (.v 2) nL)))) upR)
def upL2 : X := impS (.o .and upI (.o .and leR (.o .and lt2 ok0))) (.u .not c0)
def upL3 : X := impS (.o .and upI (.o .and leR (.u .not lt2))) (.o .and (req2 (.v 5) ur0) ok0)
def upL4 : X := impS (.o .and upI (.o .and leR (.o .and lt2 c0))) (.o .and (eq2 (rlen (.v 5)) (rlen ur0)) (.u .not ok0))
def upL0 : X := impS (.o .and leR cpR) (.u .not (.o .lt (.v 3) (.v 2)))
def nxE (x : X) : X := .o .eq (.o .add x (.o .mul nL (.i (-1)))) (.o .add (.o .mul (.o .add (.v 1) nL) (.i (-1))) lenB)
def upL5 : X := impS leR (nxE (.v 2))
def upL6 : X := impS cpR (nxE (.v 3))
def lemUp0 : List X := [upL0, upL5, upL6, upL1, upL2, upL3, upL4]
def lemUp : Nat → List X := fun n => bif Nat.beq n 1 then lemUp0 else []
theorem row_rd (e : En) : (xRow rdL').R e = [dRow (rdE e)] := by
  show [(X.den e (.o .pair (xSt rdL') (.o .pair (xAd rdL') (.o .pair (xKd rdL') (.o .pair (xWr rdL') (.o .pair (xDa rdL') .nil)))))).row] = _
  show [[(rdE e).fst.toA, (rdE e).snd.fst.toA, (rdE e).snd.snd.fst.toA, (rdE e).snd.snd.snd.fst.toA, (rdE e).snd.snd.snd.snd.fst.toA]] = _
  unfold rdE rdD
  cases rdOk ((e.ρ 0).toS.drop (e.ρ 1).toI.toNat) (e.ρ 4).toI <;> rfl
theorem up_of {e : En} (h : upI.B e = true) : upE e := (upP_iff e _ _ _ _).1 h
theorem upL0_ok (e : En) : upL0.B e = true := impS_ok fun hh => by
  obtain ⟨h1, h2⟩ := and_out hh
  have h1 := le_of h1
  have h2 : (e.ρ 3).toI = (e.ρ 1).toI * (-1) + (((e.ρ 0).toS.length : Nat) : Int) := eq_out h2
  exact nlt_in (by show ¬ (e.ρ 3).toI < (e.ρ 2).toI; omega)
theorem nx_arith (e : En) (x : X) (h : x.I e = (e.ρ 1).toI * (-1) + (((e.ρ 0).toS.length : Nat) : Int)) : (nxE x).B e = true := eq_in (by
  show x.I e + nL.I e * (-1) = ((e.ρ 1).toI + nL.I e) * (-1) + (((e.ρ 0).toS.length : Nat) : Int)
  omega)
theorem upL5_ok (e : En) : upL5.B e = true := impS_ok fun h => nx_arith e _ (eq_out h)
theorem upL6_ok (e : En) : upL6.B e = true := impS_ok fun h => nx_arith e _ (eq_out h)
theorem upL1_ok (e : En) : upL1.B e = true := impS_ok fun hh => by
  obtain ⟨hu, hh⟩ := and_out hh
  obtain ⟨hl, hh⟩ := and_out hh
  obtain ⟨h2, hh⟩ := and_out hh
  obtain ⟨hn, hf⟩ := and_out hh
  have hu := up_of hu
  have hl := le_of hl
  have h2 : (0 : Int) < (e.ρ 2).toI := lt_out h2
  have hf : ¬ (13000 : Int) < (((e.ρ 0).toS.length : Nat) : Int) := nlt_out hf
  have hn : dN (rdE e) ≠ 0 := fun q => by
    have := not_out hn
    rw [(c0_iff e).2 q] at this; cases this
  have hlt : (e.ρ 1).toI < (((e.ρ 0).toS.length : Nat) : Int) := by omega
  obtain ⟨g1, g2⟩ := up_len hu hlt hn
  have h5 := hu.2.2.2
  refine and_B (and_B ((upP_iff e _ _ _ _).2 ?_) (and_B (nlt_in ?_) (nlt_in ?_))) (nlt_in ?_)
  · have hx := up_next hu hlt hn
    show UpP (e.ρ 0).toS ((e.ρ 1).toI + dN (rdE e)) (dSt (rdE e)) ((e.ρ 5).toR ++ (xRow rdL').R e)
    rw [row_rd]
    exact hx
  · show ¬ dN (rdE e) < 5
    have g1 : 5 ≤ dN (rdE e) := g1
    omega
  · show ¬ (e.ρ 2).toI < dN (rdE e)
    have g2 : (e.ρ 1).toI + dN (rdE e) ≤ (((e.ρ 0).toS.length : Nat) : Int) := g2
    omega
  · show ¬ (2600 : Int) < (((e.ρ 5).toR.length : Nat) : Int) + 1
    have g1 : 5 ≤ dN (rdE e) := g1
    have g2 : (e.ρ 1).toI + dN (rdE e) ≤ (((e.ρ 0).toS.length : Nat) : Int) := g2
    omega
theorem upL2_ok (e : En) : upL2.B e = true := impS_ok fun hh => by
  obtain ⟨hu, hh⟩ := and_out hh
  obtain ⟨hl, hh⟩ := and_out hh
  obtain ⟨h2, hk⟩ := and_out hh
  have hu := up_of hu
  have hl := le_of hl
  have h2 : (0 : Int) < (e.ρ 2).toI := lt_out h2
  refine not_in ?_
  cases hc : c0.B e with
  | false => rfl
  | true =>
    have := (up_bad hu (by omega) ((c0_iff e).1 hc)).2
    have hk : okU (e.ρ 0).toS = true := hk
    rw [hk] at this; cases this
theorem upL3_ok (e : En) : upL3.B e = true := impS_ok fun hh => by
  obtain ⟨hu, hh⟩ := and_out hh
  obtain ⟨hl, h2⟩ := and_out hh
  have hu := up_of hu
  have hl := le_of hl
  have h2 : ¬ (0 : Int) < (e.ρ 2).toI := nlt_out h2
  obtain ⟨k1, k2⟩ := up_end hu (by omega)
  exact and_B (req2_in (by show (e.ρ 5).toR = urF (e.ρ 0).toS; exact k1.symm)) k2
theorem upL4_ok (e : En) : upL4.B e = true := impS_ok fun hh => by
  obtain ⟨hu, hh⟩ := and_out hh
  obtain ⟨hl, hh⟩ := and_out hh
  obtain ⟨h2, hc⟩ := and_out hh
  have hu := up_of hu
  have hl := le_of hl
  have h2 : (0 : Int) < (e.ρ 2).toI := lt_out h2
  obtain ⟨k1, k2⟩ := up_bad hu (by omega) ((c0_iff e).1 hc)
  refine and_B (eq2_in ?_) (not_in k2)
  show (((e.ρ 5).toR.length : Nat) : Int) = (((urF (e.ρ 0).toS).length : Nat) : Int)
  rw [k1]
theorem lemUp_ok : ∀ b, ∀ x ∈ lemUp b, ∀ e : En, x.B e = true := fun n x hx => by
  unfold lemUp at hx
  cases hb : Nat.beq n 1 with
  | false => rw [hb] at hx; cases hx
  | true =>
    rw [hb] at hx
    exact (all_cons' (P := fun x : X => ∀ e : En, x.B e = true) upL0_ok (all_cons' (P := fun x : X => ∀ e : En, x.B e = true) upL5_ok (all_cons' (P := fun x : X => ∀ e : En, x.B e = true) upL6_ok (all_cons' (P := fun x : X => ∀ e : En, x.B e = true) upL1_ok (all_cons' (P := fun x : X => ∀ e : En, x.B e = true) upL2_ok (all_cons' (P := fun x : X => ∀ e : En, x.B e = true) upL3_ok (all_cons' (P := fun x : X => ∀ e : En, x.B e = true) upL4_ok all_nil'))))))) x hx
theorem upA10 : (lcUpA false upAx).Ok Tryd.prog 23 := LC.Ok.of_treeF (L := Lup) (lem := lemUp) (T := T) (W := Wup) (n := 12) (cf := 300) (d := 20) (opn := []) (cls := []) Lup_ok lemUp_ok Cr_ok noT_ok rfl rfl (by kernel_rfl)
theorem upA1 : (lcUpAx false).Ok Tryd.prog 23 := upA10.conv rfl rfl rfl fun ds hl hf ha => ⟨fun f h => hf f (by rcases List.mem_singleton.1 (show f ∈ [(⟨lenB, ⟨some 0, some 13000⟩⟩ : Fact)] from h) with rfl; exact .head _), fun x hm => (List.mem_append.1 (show x ∈ upAx ++ [okX (.v 0)] from hm)).elim (fun h => upAx_ok x h _) (fun h => by obtain rfl := List.mem_singleton.1 h; exact (okI_1 _ _).1 (isI_out (hf _ (.tail _ (.head _))))), rfl, rfl⟩
theorem upA20 : (lcUpA true upAx).Ok Tryd.prog 23 := LC.Ok.of_treeF (L := Lup) (lem := lemUp) (T := T) (W := Wup) (n := 12) (cf := 300) (d := 20) (opn := []) (cls := []) Lup_ok lemUp_ok Cr_ok noT_ok rfl rfl (by kernel_rfl)
theorem upA2 : (lcUpAx true).Ok Tryd.prog 23 := upA20.conv rfl rfl rfl fun ds hl hf ha => ⟨fun f h => hf f (by rcases List.mem_singleton.1 (show f ∈ [(⟨lenB, ⟨some 0, some 13000⟩⟩ : Fact)] from h) with rfl; exact .head _), fun x hm => (List.mem_append.1 (show x ∈ upAx ++ [okX (.v 0)] from hm)).elim (fun h => upAx_ok x h _) (fun h => by obtain rfl := List.mem_singleton.1 h; exact (okI_1 _ _).1 (isI_out (hf _ (.tail _ (.head _))))), rfl, rfl⟩
theorem upA30 : (lcUpB false upAx).Ok Tryd.prog 23 := LC.Ok.of_treeF (L := Lup) (lem := lemUp) (T := T) (W := Wup) (n := 12) (cf := 300) (d := 20) (opn := []) (cls := []) Lup_ok lemUp_ok Cr_ok noT_ok rfl rfl (by kernel_rfl)
theorem upA3 : (lcUpBx false).Ok Tryd.prog 23 := upA30.conv rfl rfl rfl fun ds hl hf ha => ⟨fun f h => hf f (by rcases List.mem_singleton.1 (show f ∈ [(⟨lenB, ⟨some 0, some 13000⟩⟩ : Fact)] from h) with rfl; exact .head _), fun x hm => (List.mem_append.1 (show x ∈ upAx ++ [.u .not (okX (.v 0))] from hm)).elim (fun h => upAx_ok x h _) (fun h => by obtain rfl := List.mem_singleton.1 h; exact not_in ((okI_0 _ _).1 (isI_out (hf _ (.tail _ (.head _)))))), rfl, rfl⟩
theorem upB10 : (lcUpA false upAx).Ok Tryd.prog 25 := LC.Ok.of_treeF (L := Lup) (lem := lemUp) (T := T) (W := Wup) (n := 12) (cf := 300) (d := 20) (opn := []) (cls := []) Lup_ok lemUp_ok Cr_ok noT_ok rfl rfl (by kernel_rfl)
theorem upB1 : (lcUpAx false).Ok Tryd.prog 25 := upB10.conv rfl rfl rfl fun ds hl hf ha => ⟨fun f h => hf f (by rcases List.mem_singleton.1 (show f ∈ [(⟨lenB, ⟨some 0, some 13000⟩⟩ : Fact)] from h) with rfl; exact .head _), fun x hm => (List.mem_append.1 (show x ∈ upAx ++ [okX (.v 0)] from hm)).elim (fun h => upAx_ok x h _) (fun h => by obtain rfl := List.mem_singleton.1 h; exact (okI_1 _ _).1 (isI_out (hf _ (.tail _ (.head _))))), rfl, rfl⟩
theorem upB30 : (lcUpB false upAx).Ok Tryd.prog 25 := LC.Ok.of_treeF (L := Lup) (lem := lemUp) (T := T) (W := Wup) (n := 12) (cf := 300) (d := 20) (opn := []) (cls := []) Lup_ok lemUp_ok Cr_ok noT_ok rfl rfl (by kernel_rfl)
theorem upB3 : (lcUpBx false).Ok Tryd.prog 25 := upB30.conv rfl rfl rfl fun ds hl hf ha => ⟨fun f h => hf f (by rcases List.mem_singleton.1 (show f ∈ [(⟨lenB, ⟨some 0, some 13000⟩⟩ : Fact)] from h) with rfl; exact .head _), fun x hm => (List.mem_append.1 (show x ∈ upAx ++ [.u .not (okX (.v 0))] from hm)).elim (fun h => upAx_ok x h _) (fun h => by obtain rfl := List.mem_singleton.1 h; exact not_in ((okI_0 _ _).1 (isI_out (hf _ (.tail _ (.head _)))))), rfl, rfl⟩
end Go.Proofs.YtjcpcnoakphecaaDoor
