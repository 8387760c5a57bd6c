/-
  A line of an access, and the words of a line, by contracts. Conditions: none.
-/
import Derived.Test.YtciemdpcllpdkaaDoorTlE
set_option linter.unusedSectionVars false
set_option linter.unusedVariables false
set_option linter.unusedSimpArgs false
namespace Go.Proofs.YtciemdpcllpdkaaDoor
open Go Go.AE Go.SX Go.RowKit
set_option maxRecDepth 1000000
def mayX : X := .o .and (.o .and (.o .and (.u .not (.o .lt (.v 0) (.i 0))) (.u .not (.o .lt (.i 1125899906842624) (.v 0)))) (.o .lt (.v 1) (.i 2097152))) (.o .lt (.v 2) (.i 8))
theorem mayX_B (e : En) : mayX.B e = mayG (e.ρ 0).toI (e.ρ 1).toI (e.ρ 2).toI := rfl
def sDec : X := decX (.v 0)
def sLt : X := .o .take (.o .drop (.s ltF) (.v 2)) (.i 1)
def sB : X := hex2X (.o .ediv (.v 1) (.i 8192))
def sO : X := hex4X (.o .emod (.v 1) (.i 8192))
def sW3 : X := .t .s (.v 3) (.s [119]) (.s [114])
def sWW : X := .t .s (.v 3) (.s [32, 119, 32]) (.s [32, 114, 32])
def sD : X := hex2X (.v 4)
def bl : X := .s [32]
def ct (a b : X) : X := .o .cat a b
def sPh : X := ct (ct sB (.s [58])) sO
def lnP : X := .t .s mayX (ct sDec (ct bl (ct sLt (ct bl (ct sPh (ct bl (ct sW3 (ct bl sD)))))))) (.s [])
def lnD : X := .t .s mayX (ct (ct (ct (ct (ct (ct sDec bl) sLt) bl) sPh) sWW) sD) (.s [])
theorem lt_S (e : En) (h0 : 0 ≤ (e.ρ 2).toI) (h1 : (e.ρ 2).toI < 8) : sLt.S e = [ltF.getD (e.ρ 2).toI.toNat 0] := by
  show (ltF.drop (e.ρ 2).toI.toNat).take 1 = _
  exact (show ∀ m : Fin 8, (ltF.drop m.val).take 1 = [ltF.getD m.val 0] by decide) ⟨(e.ρ 2).toI.toNat, by omega⟩
theorem sW_S (e : En) : sW3.S e = [if (e.ρ 3).toB then 119 else 114] ∧ sWW.S e = [32, if (e.ρ 3).toB then 119 else 114, 32] := by
  have h1 : sW3.S e = bif (e.ρ 3).toB then [119] else [114] := rfl
  have h2 : sWW.S e = bif (e.ρ 3).toB then [32, 119, 32] else [32, 114, 32] := rfl
  rw [h1, h2]
  cases (e.ρ 3).toB <;> exact ⟨rfl, rfl⟩
theorem ph_S (e : En) (h0 : 0 ≤ (e.ρ 1).toI) (h1 : (e.ρ 1).toI < 2097152) : sPh.S e = physF (e.ρ 1).toI := by
  show (hex2 ((e.ρ 1).toI / 8192) ++ [58]) ++ hex4 ((e.ρ 1).toI % 8192) = _
  unfold physF
  rw [show (e.ρ 1).toI / 8192 % 256 = (e.ρ 1).toI / 8192 from by omega, List.append_assoc]; rfl
theorem lnP_S (e : En) (h1 : 0 ≤ (e.ρ 1).toI) (h2 : 0 ≤ (e.ρ 2).toI) : lnP.S e = lnF (e.ρ 0).toI (e.ρ 1).toI (e.ρ 2).toI (e.ρ 3).toB (e.ρ 4).toI := by
  show (bif mayX.B e then sDec.S e ++ ([32] ++ (sLt.S e ++ ([32] ++ (sPh.S e ++ ([32] ++ (sW3.S e ++ ([32] ++ sD.S e))))))) else []) = _
  unfold lnF
  rw [mayX_B]
  cases hm : mayG (e.ρ 0).toI (e.ρ 1).toI (e.ρ 2).toI with
  | false => rfl
  | true =>
    obtain ⟨q1, q2, q3, q4⟩ := may_iff.1 hm
    rw [cond_true, cond_true, lt_S e h2 q4, ph_S e h1 q3, (sW_S e).1]; rfl
theorem lnD_S (e : En) (h1 : 0 ≤ (e.ρ 1).toI) (h2 : 0 ≤ (e.ρ 2).toI) : lnD.S e = lnF (e.ρ 0).toI (e.ρ 1).toI (e.ρ 2).toI (e.ρ 3).toB (e.ρ 4).toI := by
  show (bif mayX.B e then (((((sDec.S e ++ [32]) ++ sLt.S e) ++ [32]) ++ sPh.S e) ++ sWW.S e) ++ sD.S e else []) = _
  unfold lnF
  rw [mayX_B]
  cases hm : mayG (e.ρ 0).toI (e.ρ 1).toI (e.ρ 2).toI with
  | false => rfl
  | true =>
    obtain ⟨q1, q2, q3, q4⟩ := may_iff.1 hm
    rw [cond_true, cond_true, lt_S e h2 q4, ph_S e h1 q3, (sW_S e).2]
    show (((((decF (e.ρ 0).toI.toNat ++ [32]) ++ [ltF.getD (e.ρ 2).toI.toNat 0]) ++ [32]) ++ physF (e.ρ 1).toI) ++ [32, if (e.ρ 3).toB = true then 119 else 114, 32]) ++ hex2 (e.ρ 4).toI = _
    simp only [List.append_assoc, List.cons_append, List.nil_append]
def nbm (m : Int) (x : X) : X := .o .or (.u .not mayX) (.u .not (.o .lt (.i m) x))
theorem nbm_ok {e : En} {m : Int} {x : X} (hm : 1000 ≤ m) (h : (sDec.S e).length ≤ 18 → x.I e ≤ 1000) : (nbm m x).B e = true := by
  cases hq : mayX.B e with
  | false => exact or_B (.inl (not_in hq))
  | true =>
    obtain ⟨q1, q2, q3, q4⟩ := may_iff.1 hq
    have := h (dec_len 17 _ (by omega))
    exact or_B (.inr (nlt_in (by show ¬ m < x.I e; omega)))
def ad (a b : X) : X := .o .add a b
def c3 : X := ct (ct sDec bl) sLt
def axLP : List X := [nbm 9223372036854775807 (ad (lenX' sB) (.i 1)), nbm 9223372036854775807 (ad (ad (lenX' sB) (lenX' sO)) (.i 1)), nbm 140737488355328 (ad (ad (ad (ad (ad (ad (lenX' sLt) (lenX' sW3)) (lenX' sDec)) (lenX' sD)) (lenX' sB)) (lenX' sO)) (.i 5))]
def axLD : List X := [nbm 9223372036854775807 (ad (lenX' sDec) (.i 1)), nbm 9223372036854775807 (ad (ad (lenX' sLt) (lenX' sDec)) (.i 1)), nbm 9223372036854775807 (ad (lenX' c3) (.i 1)), nbm 9223372036854775807 (ad (lenX' sB) (.i 1)), nbm 9223372036854775807 (ad (ad (lenX' sB) (lenX' sO)) (.i 1)),
  nbm 9223372036854775807 (ad (ad (lenX' sPh) (lenX' c3)) (.i 1)), nbm 9223372036854775807 (ad (lenX' sWW) (lenX' (ct (ct c3 bl) sPh))), nbm 9223372036854775807 (ad (lenX' (ct (ct (ct c3 bl) sPh) sWW)) (lenX' sD))]
theorem ad_I (e : En) (a b : X) : (ad a b).I e = a.I e + b.I e := rfl
theorem ct_len (e : En) (a b : X) : ((ct a b).S e).length = (a.S e).length + (b.S e).length := List.length_append
theorem i_I (e : En) (n : Int) : (X.i n).I e = n := rfl
theorem lt_len (e : En) : (sLt.S e).length ≤ 1 := by
  show ((ltF.drop (e.ρ 2).toI.toNat).take 1).length ≤ 1
  rw [List.length_take]; omega
theorem w3_len (e : En) : (sW3.S e).length = 1 ∧ (sWW.S e).length = 3 := by
  rw [(sW_S e).1, (sW_S e).2]; exact ⟨rfl, rfl⟩
theorem bl_len (e : En) : (bl.S e).length = 1 := rfl
theorem b58_len (e : En) : ((X.s [58]).S e).length = 1 := rfl
theorem axLP_ok : AllB axLP := by
  refine allB1 (fun e => nbm_ok (by omega) fun hl => ?_) (allB1 (fun e => nbm_ok (by omega) fun hl => ?_) (allB1 (fun e => nbm_ok (by omega) fun hl => ?_) allB0))
  all_goals
    have q1 := lt_len e
    have q2 := (w3_len e).1
    have q3 : (sB.S e).length = 2 := rfl
    have q4 : (sO.S e).length = 4 := rfl
    have q5 : (sD.S e).length = 2 := rfl
    simp only [ad_I, len_I, i_I]
    omega
theorem axLD_ok : AllB axLD := by
  refine allB1 (fun e => nbm_ok (by omega) fun hl => ?_) (allB1 (fun e => nbm_ok (by omega) fun hl => ?_) (allB1 (fun e => nbm_ok (by omega) fun hl => ?_) (allB1 (fun e => nbm_ok (by omega) fun hl => ?_) (allB1 (fun e => nbm_ok (by omega) fun hl => ?_) (allB1 (fun e => nbm_ok (by omega) fun hl => ?_) (allB1 (fun e => nbm_ok (by omega) fun hl => ?_) (allB1 (fun e => nbm_ok (by omega) fun hl => ?_) allB0)))))))
  all_goals
    have q1 := lt_len e
    have q2 := (w3_len e).2
    have q3 : (sB.S e).length = 2 := rfl
    have q4 : (sO.S e).length = 4 := rfl
    have q5 : (sD.S e).length = 2 := rfl
    simp only [ad_I, len_I, i_I, c3, sPh, ct_len, bl_len, b58_len]
    omega
noncomputable def CLn := conTab (lcTabT [(28, [lcH2, lcH4]), (40, [lcH2, lcH4]), (26, [lcDc]), (38, [lcDc])] ++ [(57, conCall conJoin)])
theorem two_lcT {c d : LC} {f : FuncId} (h1 : c.ok = true) (h : c.Ok Tryd.prog f) (h2 : d.ok = true) (h3 : d.Ok Tryd.prog f) : ∀ c' ∈ [c, d], c'.ok = true ∧ c'.Ok Tryd.prog f := all_cons' ⟨h1, h⟩ (all_cons' ⟨h2, h3⟩ all_nil')
theorem CLn_ok : ∀ n c, CLn n = some c → ConOk T n c := conTab_ok fun p hp => (List.mem_append.1 hp).elim (lcTabT_all (all_cons' (two_lcT rfl h2P rfl h4P) (all_cons' (two_lcT rfl h2D rfl h4D) (all_cons' (one_lcT rfl dc_lc) (all_cons' (one_lcT rfl dd_lc) all_nil')))) p) (all_cons' (P := fun p : FuncId × CallF => ConOk T p.1 p.2) conJN.ok all_nil' p)
def acF : List Fact := [⟨.v 1, ⟨some 0, some 4294967295⟩⟩, ⟨.v 2, ⟨some 0, some 255⟩⟩, ⟨.v 4, ⟨some 0, some 255⟩⟩]
def acA : SV := .a (.ag [.z (.i .i64 (.v 0)), .z (.i .u32 (.v 1)), .z (.i .u8 (.v 2)), .z (.b (.v 3)), .z (.i .u8 (.v 4))])
def lcL (v : X) : LC := ⟨5, [acA], [], acF, [], .z (.s v), []⟩
theorem lnP0 : (LC.mk (lcL lnP).n (lcL lnP).args (lcL lnP).mem (lcL lnP).fs (axLP ++ (lcL lnP).as) (lcL lnP).val (lcL lnP).out).Ok Tryd.prog 6 := LC.Ok.of_treeF (L := noJ) (lem := noX) (T := T) (W := Wl) (n := 12) (cf := 300) (d := 20) (opn := []) (cls := []) (fun _ _ _ h => by cases h) (fun _ _ h => by cases h) CLn_ok noT_ok rfl rfl (by kernel_rfl)
theorem lnD0 : (LC.mk (lcL lnD).n (lcL lnD).args (lcL lnD).mem (lcL lnD).fs (axLD ++ (lcL lnD).as) (lcL lnD).val (lcL lnD).out).Ok Tryd.prog 9 := LC.Ok.of_treeF (L := noJ) (lem := noX) (T := T) (W := Wl) (n := 12) (cf := 300) (d := 20) (opn := []) (cls := []) (fun _ _ _ h => by cases h) (fun _ _ h => by cases h) CLn_ok noT_ok rfl rfl (by kernel_rfl)
def lnX (a b c d f : X) : X := .ap 106 (.o .pair a (.o .pair b (.o .pair c (.o .pair d f))))
def lnV : X := lnX (.v 0) (.v 1) (.v 2) (.v 3) (.v 4)
theorem ln_conv {v : X} {f : FuncId} (hl : (lcL v).Ok Tryd.prog f) (hs : ∀ e : En, 0 ≤ (e.ρ 1).toI → 0 ≤ (e.ρ 2).toI → v.S e = lnF (e.ρ 0).toI (e.ρ 1).toI (e.ρ 2).toI (e.ρ 3).toB (e.ρ 4).toI) : (lcL lnV).Ok Tryd.prog f := hl.conv rfl rfl rfl fun ds _ hf ha => ⟨hf, ha, by
  have h1 := (hf _ (.head _)).1 _ rfl
  have h2 := (hf _ (.tail _ (.head _))).1 _ rfl
  show Value.string ⟨⟨v.S (envOf ds)⟩⟩ = Value.string ⟨⟨lnV.S (envOf ds)⟩⟩
  rw [hs _ h1 h2]; rfl, rfl⟩
theorem ln_P : (lcL lnV).Ok Tryd.prog 6 := ln_conv (LC.Ok.drop (c := lcL lnP) lnP0 axLP_ok) lnP_S
theorem ln_D : (lcL lnV).Ok Tryd.prog 9 := ln_conv (LC.Ok.drop (c := lcL lnD) lnD0 axLD_ok) lnD_S
def wdX (x : X) : X := .ap 104 x
def wdPX (i f r : X) : X := .ap 119 (.o .pair (.v 0) (.o .pair i (.o .pair f r)))
theorem wdP_iff (e : En) (i f r : X) : (wdPX i f r).B e = true ↔ WdP (e.ρ 0).toS (i.I e) (f.I e) (r.R e) := @decide_eq_true_iff _ (_)
def wdI : X := wdPX (.v 1) (.v 2) (.v 3)
def wdC : X := .o .and lt1 (.u .not (.o .eq at1 (.i 32)))
def wdIn : X := .u .not (.o .lt len0 (.v 1))
def wdW : X := .o .take (.o .drop (.v 0) (.v 2)) (.o .add (.v 1) (.o .mul (.v 2) (.i (-1))))
def wdN : X := .o .rcat (.v 3) (.u .row (.o .pair wdW .nil))
def rl3 : X := .u .rlen (.v 3)
def w30 : X := .o (.rS 0) (.v 3) (.i 0)
def ndW : X := .o .or (.u .not (.o .lt (.i 0) rl3)) (.o .lt (.i 0) (lenX' w30))
def shW : X := .o .and (.o .lt (.i 0) rl3) (.o .eq (.o .nth w30 (.i 0)) (.i 35))
def shp : X := .ap 112 (.v 0)
def req2 (a b : X) : X := .o .and (.o .and (.o .req a b) (.o .req b a)) (.o .and (.o .eq (.u .rlen a) (.u .rlen b)) (.o .eq (.u .rlen b) (.u .rlen a)))
theorem req2_in {a b : X} {e : En} (h : a.R e = b.R e) (hr : ∀ x y : X, x.R e = y.R e → (X.o .req x y).B e = true) : (req2 a b).B e = true := by
  have h1 : (X.u .rlen a).I e = (X.u .rlen b).I e := by show ((((a.R e).length : Nat) : Int)) = (((b.R e).length : Nat) : Int); rw [h]
  exact and_B (and_B (hr _ _ h) (hr _ _ h.symm)) (and_B (eq_in h1) (eq_in h1.symm))
end Go.Proofs.YtciemdpcllpdkaaDoor
