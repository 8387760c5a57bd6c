/-
  An access read from bytes, by a contract. Conditions: none.
-/
import Derived.Test.YtjcpcnoakphecaaDoorTrF
set_option linter.unusedSectionVars false
set_option linter.unusedVariables false
set_option linter.unusedSimpArgs false
namespace Go.Proofs.YtjcpcnoakphecaaDoor
open Go Go.AE Go.SX Go.RowKit
set_option maxRecDepth 1000000
def lenB : X := .u .len (.v 0)
def lenR : X := .o .add (.o .mul (.v 1) (.i (-1))) lenB
def rd0 : X := rdX (.v 0) (.v 1) (.v 2)
def rdV (d : X) : SV := .tu [.ag [.z (.i .i64 (xSt d)), .z (.i .u32 (xAd d)), .z (.i .u8 (xKd d)), .z (.b (xWr d)), .z (.i .u8 (xDa d))], .s (.z (.i .i64 (xN d)))]
def rdFs : List Fact := [⟨lenB, ⟨some 0, some 500000⟩⟩, ⟨.v 1, ⟨some 0, some 500000⟩⟩, ⟨.v 2, ⟨some 0, some 1125899906842624⟩⟩, ⟨lenR, ⟨some 1, some 500000⟩⟩]
def rdLt : X := .o .lt (.v 1) lenB
def lcRd (w : Bool) (fs : List Fact) (xs : List X) : LC := ⟨3, [.z (.sl 0 (.v 1) 1 0 lenR lenR), .z (.i .i64 (.v 2))], [byB' w (.v 0)], fs ++ rdFs, xs, rdV rd0, [byB' w (.v 0)]⟩
def fstB (lo hi : Int) : List Fact := [⟨.o .nth (.v 0) (.v 1), ⟨some lo, some hi⟩⟩]
def pB : Nat → X
  | 0 => .o .nth (.v 0) (.v 1)
  | k + 1 => .o .nth (.v 0) (.o .add (.v 1) (.i ((k + 1 : Nat) : Int)))
def oI : List X → X → X
  | [], v => v
  | c :: cs, v => .t .i c (.i 0) (oI cs v)
def oB : List X → X → X
  | [], w => w
  | c :: cs, w => .o .and (.u .not c) (oB cs w)
def rdT (cs : List X) (st ad kd wr da n : X) : SV := .tu [.ag [.z (.i .i64 (oI cs st)), .z (.i .u32 (oI cs ad)), .z (.i .u8 (oI cs kd)), .z (.b (oB cs wr)), .z (.i .u8 (oI cs da))], .s (.z (.i .i64 (oI cs n)))]
def adX (a b c : Nat) : X := .o .add (.o .add (pB a) (.o .mul (pB b) (.i 256))) (.o .mul (pB c) (.i 65536))
def shB (n : Int) : X := .o .lt lenR (.i n)
def tooX (st : X) : X := .o .lt (.i 1125899906842624) st
def q16 : X := .o .ediv (pB 0) (.i 16)
def q8 : X := .o .ediv (pB 0) (.i 8)
def kdX' : X := .o .emod (pB 0) (.i 8)
def badX (ok d : X) : X := .o .or (.u .not ok) (.u .not (.o .eq (wyX d) q16))
def okW (st ad : X) : X := .o .and (.u .not (tooX st)) (.o .lt ad (.i 2097152))
def stW (d : Int) : X := .o .add (.v 2) (.i d)
def wrA (w : Nat) : X := .u .not (.o .eq (match w with
  | 0 => q8
  | 1 => .o .add (.o .mul q8 (.i 8)) (.i (-16))
  | _ => .o .emod q8 (.i 2)) (.i 0))
def wrB (w : Nat) : X := .o .eq (match w with
  | 0 => q8
  | 1 => .o .add q8 (.i (-2))
  | _ => .o .emod q8 (.i 2)) (.i 1)
def vW (w : Nat) (d : Int) (wr : X) : SV := rdT [shB 5, badX (okW (stW d) (adX 1 2 3)) (.i d)] (stW d) (adX 1 2 3) kdX' wr (pB 4) (.i 5)
def beS (x : X → X) : X := .o .add (.o .add (.o .add (.o .add (.o .add (.o .add (.o .add (x (.o .mul (pB 1) (.i 72057594037927936))) (.o .mul (pB 2) (.i 281474976710656))) (.o .mul (pB 3) (.i 1099511627776))) (.o .mul (pB 4) (.i 4294967296))) (.o .mul (pB 5) (.i 16777216))) (.o .mul (pB 6) (.i 65536))) (.o .mul (pB 7) (.i 256))) (pB 8)
def be0 : X := beS fun x => x
def beD : X := beS fun x => .o .add (.o .mul (.v 2) (.i (-1))) x
def farX : X := .o .or (.o .lt (.i 0) (pB 1)) (.o .lt (.i 4) (pB 2))
def vB4 : SV := rdT [shB 13, farX, badX (okW be0 (adX 9 10 11)) beD] be0 (adX 9 10 11) kdX' (wrB 4) (pB 12) (.i 13)
def stP : X := .t .i (tooX be0) (.i (-1)) be0
def okS (st ad : X) : X := .o .and (.o .and (.u .not (.o .lt st (.i 0))) (.u .not (tooX st))) (.o .lt ad (.i 2097152))
def okP : X := okS stP (adX 9 10 11)
def vA4 : SV := rdT [shB 13, badX okP (.o .add (.o .mul (.v 2) (.i (-1))) stP)] stP (adX 9 10 11) kdX' (wrA 4) (pB 12) (.i 13)
def vZ : SV := .tu [.ag [.z (.i .i64 (.i 0)), .z (.i .u32 (.i 0)), .z (.i .u8 (.i 0)), .z (.b (.b false)), .z (.i .u8 (.i 0))], .s (.z (.i .i64 (.i 0)))]
def lcRv (w : Bool) (lo hi : Int) (v : SV) : LC := ⟨3, [.z (.sl 0 (.v 1) 1 0 lenR lenR), .z (.i .i64 (.v 2))], [byB' w (.v 0)], fstB lo hi ++ rdFs, [rdLt], v, [byB' w (.v 0)]⟩
def zD : D := .p (.i 0) (.p (.i 0) (.p (.i 0) (.p (.b false) (.p (.i 0) (.i 0)))))
def dVal (d : D) : Value := .tuple ⟨[.agg ⟨[.int .i64 (dSt d), .int .u32 (dAd d), .int .u8 (dKd d), .bool (dWr d), .int .u8 (dDa d)]⟩, .int .i64 (dN d)]⟩
def okD (st ad kd : Int) (wr : Bool) (da n : Int) : D := .p (.i st) (.p (.i ad) (.p (.i kd) (.p (.b wr) (.p (.i da) (.i n)))))
theorem oI_I (e : En) (v : X) : ∀ cs : List X, (oI cs v).I e = bif cs.any (fun c => c.B e) then 0 else v.I e
  | [] => rfl
  | c :: cs => by
    show (bif c.B e then (0 : Int) else (oI cs v).I e) = _
    rw [oI_I e v cs, List.any_cons]
    cases c.B e <;> rfl
theorem oB_B (e : En) (v : X) : ∀ cs : List X, (oB cs v).B e = (!(cs.any (fun c => c.B e)) && v.B e)
  | [] => by show v.B e = _; simp
  | c :: cs => by
    show ((!c.B e) && (oB cs v).B e) = _
    rw [oB_B e v cs, List.any_cons]
    cases c.B e <;> rfl
theorem rdT_den (e : En) (cs : List X) (st ad kd wr da n : X) : (rdT cs st ad kd wr da n).den e = dVal (bif cs.any (fun c => c.B e) then zD else okD (st.I e) (ad.I e) (kd.I e) (wr.B e) (da.I e) (n.I e)) := by
  show Value.tuple ⟨[.agg ⟨[.int .i64 ((oI cs st).I e), .int .u32 ((oI cs ad).I e), .int .u8 ((oI cs kd).I e), .bool ((oB cs wr).B e), .int .u8 ((oI cs da).I e)]⟩, .int .i64 ((oI cs n).I e)]⟩ = _
  rw [oI_I, oI_I, oI_I, oI_I, oI_I, oB_B]
  cases cs.any (fun c => c.B e) <;> rfl
def tlE (e : En) : List UInt8 := (e.ρ 0).toS.drop (e.ρ 1).toI.toNat
theorem rdV_den (e : En) : (rdV rd0).den e = dVal (rdD (tlE e) (e.ρ 2).toI) := by
  exact rfl
theorem rd_case {l : List UInt8} {ah : Int} {bad : Bool} {n : Nat} {st kd ad da n' : Int} {wr : Bool} (h : rdOk l ah = !bad) (hn : bad = false → rdL l = n) (hs : bad = false → rdS l ah = st)
    (ha : ad = gb l (n - 4) + gb l (n - 3) * 256 + gb l (n - 2) * 65536) (hk : kd = gb l 0 % 8) (hw : wr = decide (gb l 0 / 8 % 2 = 1)) (hd : da = gb l (n - 1)) (hn' : n' = (n : Nat)) :
    (bif bad then zD else okD st ad kd wr da n') = rdD l ah := by
  cases bad with
  | true =>
    show zD = _
    unfold rdD; rw [h]; rfl
  | false =>
    rw [rd_eq (h.trans rfl), hs rfl, hk, hw, hd, hn', ha]
    unfold rdA
    rw [hn rfl]; rfl
theorem pB_I (e : En) (h : 0 ≤ (e.ρ 1).toI) : ∀ k : Nat, (pB k).I e = gb (tlE e) k := by
  intro k
  have h0 : ∀ m : Nat, (((e.ρ 0).toS.getD ((e.ρ 1).toI.toNat + m) 0).toNat : Int) = gb (tlE e) m := by
    intro m
    unfold gb tlE
    simp [List.getD_eq_getElem?_getD, List.getElem?_drop]
  cases k with
  | zero => exact h0 0
  | succ k =>
    rw [← h0 (k + 1)]
    show (((e.ρ 0).toS.getD ((e.ρ 1).toI + ((k + 1 : Nat) : Int)).toNat 0).toNat : Int) = _
    rw [show ((e.ρ 1).toI + ((k + 1 : Nat) : Int)).toNat = (e.ρ 1).toI.toNat + (k + 1) from by omega]
structure RdG (e : En) (lo hi : Int) : Prop where
  off : 0 ≤ (e.ρ 1).toI
  ah : 0 ≤ (e.ρ 2).toI ∧ (e.ρ 2).toI ≤ 1125899906842624
  len : lenR.I e = ((tlE e).length : Nat)
  b0 : lo ≤ gb (tlE e) 0 ∧ gb (tlE e) 0 ≤ hi
theorem rdG_of {e : En} {lo hi : Int} (hf : ∀ f ∈ fstB lo hi ++ rdFs, f.r.has (f.e.I e)) : RdG e lo hi := by
  have h1 := hf _ (List.mem_append.2 (.inr (.tail _ (.head _))))
  have h2 := hf _ (List.mem_append.2 (.inr (.tail _ (.tail _ (.head _)))))
  have h3 := hf _ (List.mem_append.2 (.inr (.tail _ (.tail _ (.tail _ (.head _))))))
  have h0 := hf _ (List.mem_append.2 (.inl (.head _)))
  have o : 0 ≤ (e.ρ 1).toI := h1.1 _ rfl
  have g : 1 ≤ lenR.I e := h3.1 _ rfl
  have q : lenR.I e = (e.ρ 1).toI * (-1) + (((e.ρ 0).toS.length : Nat) : Int) := rfl
  have b0 : (pB 0).I e = gb (tlE e) 0 := pB_I e o 0
  refine ⟨o, ⟨h2.1 _ rfl, h2.2 _ rfl⟩, ?_, ⟨by rw [← b0]; exact h0.1 _ rfl, by rw [← b0]; exact h0.2 _ rfl⟩⟩
  unfold tlE
  rw [q, List.length_drop]; omega
theorem bad_B (e : En) (ok d : X) (h : 0 ≤ (e.ρ 1).toI) : (badX ok d).B e = ((!ok.B e) || !(decide (wayF (d.I e) = gb (tlE e) 0 / 16))) := by
  rw [← pB_I e h 0]; rfl
theorem ok_B (e : En) (st ad : X) : (okW st ad).B e = ((!decide (1125899906842624 < st.I e)) && decide (ad.I e < 2097152)) := rfl
theorem sh_B (e : En) (n : Int) : (shB n).B e = decide (lenR.I e < n) := rfl
theorem okS_B (e : En) (st ad : X) : (okS st ad).B e = (((!decide (st.I e < 0)) && (!decide (1125899906842624 < st.I e))) && decide (ad.I e < 2097152)) := rfl
theorem okP_B (e : En) : okP.B e = (((!decide (stP.I e < 0)) && (!decide (1125899906842624 < stP.I e))) && decide ((adX 9 10 11).I e < 2097152)) := okS_B e _ _
theorem stw_I (e : En) (d : Int) : (stW d).I e = (e.ρ 2).toI + d := rfl
theorem dif_I (e : En) (x : X) : (X.o .add (.o .mul (.v 2) (.i (-1))) x).I e = (e.ρ 2).toI * (-1) + x.I e := rfl
theorem i_I (e : En) (n : Int) : (X.i n).I e = n := rfl
theorem far_B (e : En) : farX.B e = (decide (0 < (pB 1).I e) || decide (4 < (pB 2).I e)) := rfl
theorem ad_I (e : En) (h : 0 ≤ (e.ρ 1).toI) (a b c : Nat) : (adX a b c).I e = gb (tlE e) a + gb (tlE e) b * 256 + gb (tlE e) c * 65536 := by
  rw [← pB_I e h a, ← pB_I e h b, ← pB_I e h c]; rfl
theorem wrA_B (e : En) {lo hi : Int} (h : RdG e lo hi) (w : Nat) (h0 : w = 0 → hi ≤ 15) (h1 : w = 1 → 16 ≤ lo ∧ hi ≤ 31) : (wrA w).B e = decide (gb (tlE e) 0 / 8 % 2 = 1) := by
  have hp := pB_I e h.off 0
  obtain ⟨b0, b1⟩ := h.b0
  have b2 := gb_rg (tlE e) 0
  match w, h0, h1 with
  | 0, h0, _ =>
    show (!decide ((pB 0).I e / 8 = 0)) = _
    rw [hp, ← decide_not]
    exact decide_eq_decide.2 (by have := h0 rfl; omega)
  | 1, _, h1 =>
    show (!decide ((pB 0).I e / 8 * 8 + (-16) = 0)) = _
    rw [hp, ← decide_not]
    exact decide_eq_decide.2 (by have := h1 rfl; omega)
  | w + 2, _, _ =>
    show (!decide ((pB 0).I e / 8 % 2 = 0)) = _
    rw [hp, ← decide_not]
    exact decide_eq_decide.2 (by omega)
theorem wrB_B (e : En) {lo hi : Int} (h : RdG e lo hi) (w : Nat) (h0 : w = 0 → hi ≤ 15) (h1 : w = 1 → 16 ≤ lo ∧ hi ≤ 31) : (wrB w).B e = decide (gb (tlE e) 0 / 8 % 2 = 1) := by
  have hp := pB_I e h.off 0
  obtain ⟨b0, b1⟩ := h.b0
  have b2 := gb_rg (tlE e) 0
  match w, h0, h1 with
  | 0, h0, _ =>
    show decide ((pB 0).I e / 8 = 1) = _
    rw [hp]
    exact decide_eq_decide.2 (by have := h0 rfl; omega)
  | 1, _, h1 =>
    show decide ((pB 0).I e / 8 + (-2) = 1) = _
    rw [hp]
    exact decide_eq_decide.2 (by have := h1 rfl; omega)
  | w + 2, _, _ =>
    show decide ((pB 0).I e / 8 % 2 = 1) = _
    rw [hp]
theorem vW_den (e : En) (w : Nat) (d : Int) (wr : X) (hw : w < 4) (hd : d = dW (w : Nat)) (h : RdG e (16 * w) (16 * w + 15)) (hwr : wr.B e = decide (gb (tlE e) 0 / 8 % 2 = 1)) : (vW w d wr).den e = (rdV rd0).den e := by
  rw [rdV_den]
  unfold vW
  rw [rdT_den]
  refine congrArg dVal (rd_case (n := 5) ?_ ?_ ?_ (ad_I e h.off _ _ _) ?_ hwr (pB_I e h.off 4) rfl)
  · obtain ⟨b0, b1⟩ := h.b0
    obtain ⟨a0, a1⟩ := h.ah
    have hs : gb (tlE e) 0 < 64 := by omega
    have hq : gb (tlE e) 0 / 16 = (w : Nat) := by omega
    have hS : rdS (tlE e) (e.ρ 2).toI = (e.ρ 2).toI + d := by unfold rdS; rw [if_pos hs, hq, hd]
    have hL : rdL (tlE e) = 5 := by unfold rdL; rw [if_pos hs]
    have hA : rdA (tlE e) = gb (tlE e) 1 + gb (tlE e) 2 * 256 + gb (tlE e) 3 * 65536 := by unfold rdA; rw [hL]
    have hd0 : 0 ≤ d ∧ d ≤ 24 := by rw [hd]; unfold dW; repeat' split <;> omega
    have hwd : wayF d = (w : Nat) := by
      rw [hd]
      match w, hw with
      | 0, _ => rfl
      | 1, _ => rfl
      | 2, _ => rfl
      | 3, _ => rfl
    rw [List.any_cons, List.any_cons, List.any_nil, Bool.or_false, bad_B e _ _ h.off, ok_B, ad_I e h.off, sh_B, stw_I, i_I, h.len, hwd, hq]
    refine Bool.eq_iff_iff.2 (rdok_iff.trans ?_)
    rw [hS, hL, hA]
    simp only [Bool.not_eq_true', Bool.or_eq_false_iff, Bool.not_eq_false', Bool.and_eq_true, decide_eq_false_iff_not, decide_eq_true_eq, and_true]
    omega
  · intro _
    obtain ⟨b0, b1⟩ := h.b0
    unfold rdL; rw [if_pos (by omega)]
  · intro _
    obtain ⟨b0, b1⟩ := h.b0
    have hq : gb (tlE e) 0 / 16 = (w : Nat) := by omega
    show rdS (tlE e) (e.ρ 2).toI = (e.ρ 2).toI + d
    unfold rdS; rw [if_pos (by omega), hq, hd]
  · show (pB 0).I e % 8 = _
    rw [pB_I e h.off 0]
theorem be0_I (e : En) (h : 0 ≤ (e.ρ 1).toI) : be0.I e = beR (tlE e) := by
  unfold beR
  rw [← pB_I e h 1, ← pB_I e h 2, ← pB_I e h 3, ← pB_I e h 4, ← pB_I e h 5, ← pB_I e h 6, ← pB_I e h 7, ← pB_I e h 8]; rfl
theorem beD_I (e : En) (h : 0 ≤ (e.ρ 1).toI) : beD.I e = beR (tlE e) - (e.ρ 2).toI := by
  rw [← be0_I e h]
  show (e.ρ 2).toI * (-1) + (pB 1).I e * 72057594037927936 + (pB 2).I e * 281474976710656 + (pB 3).I e * 1099511627776 + (pB 4).I e * 4294967296 + (pB 5).I e * 16777216 + (pB 6).I e * 65536 + (pB 7).I e * 256 + (pB 8).I e = (pB 1).I e * 72057594037927936 + (pB 2).I e * 281474976710656 + (pB 3).I e * 1099511627776 + (pB 4).I e * 4294967296 + (pB 5).I e * 16777216 + (pB 6).I e * 65536 + (pB 7).I e * 256 + (pB 8).I e - (e.ρ 2).toI
  omega
theorem vB4_den (e : En) (h : RdG e 64 79) : vB4.den e = (rdV rd0).den e := by
  rw [rdV_den]
  unfold vB4
  rw [rdT_den]
  obtain ⟨b0, b1⟩ := h.b0
  have hS : rdS (tlE e) (e.ρ 2).toI = beR (tlE e) := by unfold rdS; rw [if_neg (by omega)]
  have hL : rdL (tlE e) = 13 := by unfold rdL; rw [if_neg (by omega)]
  refine congrArg dVal (rd_case (n := 13) ?_ (fun _ => hL) (fun _ => by rw [be0_I e h.off]; exact hS) (ad_I e h.off _ _ _) ?_ (wrB_B e h 4 (fun h => by cases h) (fun h => by cases h)) (pB_I e h.off 12) rfl)
  · have hq : gb (tlE e) 0 / 16 = 4 := by omega
    have hA : rdA (tlE e) = gb (tlE e) 9 + gb (tlE e) 10 * 256 + gb (tlE e) 11 * 65536 := by unfold rdA; rw [hL]
    rw [List.any_cons, List.any_cons, List.any_cons, List.any_nil, Bool.or_false, bad_B e _ _ h.off, ok_B, ad_I e h.off, be0_I e h.off, beD_I e h.off, sh_B, far_B, h.len, hq, pB_I e h.off 1, pB_I e h.off 2]
    refine Bool.eq_iff_iff.2 (rdok_iff.trans ?_)
    rw [hS, hL, hA]
    simp only [Bool.not_eq_true', Bool.or_eq_false_iff, Bool.not_eq_false', Bool.and_eq_true, decide_eq_false_iff_not, decide_eq_true_eq, and_true]
    have c1 := gb_rg (tlE e) 1
    have c2 := gb_rg (tlE e) 2
    have c3 := gb_rg (tlE e) 3
    have c4 := gb_rg (tlE e) 4
    have c5 := gb_rg (tlE e) 5
    have c6 := gb_rg (tlE e) 6
    have c7 := gb_rg (tlE e) 7
    have c8 := gb_rg (tlE e) 8
    have hb : beR (tlE e) = gb (tlE e) 1 * 72057594037927936 + gb (tlE e) 2 * 281474976710656 + gb (tlE e) 3 * 1099511627776 + gb (tlE e) 4 * 4294967296 + gb (tlE e) 5 * 16777216 + gb (tlE e) 6 * 65536 + gb (tlE e) 7 * 256 + gb (tlE e) 8 := rfl
    omega
  · show (pB 0).I e % 8 = _
    rw [pB_I e h.off 0]
theorem stP_I (e : En) (x : X) : (X.t .i (tooX x) (.i (-1)) x).I e = if 1125899906842624 < x.I e then -1 else x.I e := by
  show (bif decide (1125899906842624 < x.I e) then (-1 : Int) else x.I e) = _
  rw [Bool.cond_decide]
theorem be_rg (l : List UInt8) : 0 ≤ beR l := by
  have c1 := gb_rg l 1
  have c2 := gb_rg l 2
  have c3 := gb_rg l 3
  have c4 := gb_rg l 4
  have c5 := gb_rg l 5
  have c6 := gb_rg l 6
  have c7 := gb_rg l 7
  have c8 := gb_rg l 8
  unfold beR
  omega
theorem okA {l : List UInt8} {ah s : Int} (hb : 64 ≤ gb l 0 ∧ gb l 0 ≤ 79) (hs : (s = -1 ∧ 1125899906842624 < beR l) ∨ (s = beR l ∧ ¬ 1125899906842624 < beR l)) :
    rdOk l ah = !(decide (((l.length : Nat) : Int) < 13) || ((!(((!decide (s < 0)) && (!decide (1125899906842624 < s))) && decide (gb l 9 + gb l 10 * 256 + gb l 11 * 65536 < 2097152))) || !(decide (wayF (ah * (-1) + s) = gb l 0 / 16)))) := by
  have hS : rdS l ah = beR l := by unfold rdS; rw [if_neg (by omega)]
  have hL : rdL l = 13 := by unfold rdL; rw [if_neg (by omega)]
  have hq : gb l 0 / 16 = 4 := by omega
  have hA : rdA l = gb l 9 + gb l 10 * 256 + gb l 11 * 65536 := by unfold rdA; rw [hL]
  have hz := be_rg l
  refine Bool.eq_iff_iff.2 (rdok_iff.trans ?_)
  rw [hS, hL, hA, hq]
  simp only [Bool.not_eq_true', Bool.or_eq_false_iff, Bool.not_eq_false', Bool.and_eq_true, decide_eq_false_iff_not, decide_eq_true_eq]
  rcases hs with ⟨h1, h2⟩ | ⟨h1, h2⟩
  · omega
  · rw [h1, show ah * (-1) + beR l = beR l - ah from by omega]
    omega
theorem sA_neg2 {s : Int} {l : List UInt8} {a b c d : Bool} (hs : (s = -1 ∧ 1125899906842624 < beR l) ∨ (s = beR l ∧ ¬ 1125899906842624 < beR l)) (h : (c || ((!(((!decide (s < 0)) && a) && b)) || d)) = false) : s = beR l := by
  rcases hs with ⟨h1, h2⟩ | ⟨h1, h2⟩
  · rw [h1] at h
    cases c <;> simp at h
  · exact h1
theorem vA4_den (e : En) (h : RdG e 64 79) : vA4.den e = (rdV rd0).den e := by
  rw [rdV_den]
  unfold vA4
  rw [rdT_den]
  have hL : rdL (tlE e) = 13 := by obtain ⟨b0, b1⟩ := h.b0; unfold rdL; rw [if_neg (by omega)]
  have hS : rdS (tlE e) (e.ρ 2).toI = beR (tlE e) := by obtain ⟨b0, b1⟩ := h.b0; unfold rdS; rw [if_neg (by omega)]
  have hP : (stP.I e = -1 ∧ 1125899906842624 < beR (tlE e)) ∨ (stP.I e = beR (tlE e) ∧ ¬ 1125899906842624 < beR (tlE e)) := by
    have h1 : stP.I e = if 1125899906842624 < be0.I e then -1 else be0.I e := stP_I e be0
    rw [be0_I e h.off] at h1
    rw [h1]
    split
    · exact .inl ⟨rfl, by assumption⟩
    · exact .inr ⟨rfl, by assumption⟩
  have hc : ([shB 13, badX okP (.o .add (.o .mul (.v 2) (.i (-1))) stP)].any fun c => c.B e) = (decide (((tlE e).length : Nat) < (13 : Int)) || ((!(((!decide (stP.I e < 0)) && (!decide (1125899906842624 < stP.I e))) && decide (gb (tlE e) 9 + gb (tlE e) 10 * 256 + gb (tlE e) 11 * 65536 < 2097152))) || !(decide (wayF ((e.ρ 2).toI * (-1) + stP.I e) = gb (tlE e) 0 / 16)))) := by
    rw [List.any_cons, List.any_cons, List.any_nil, Bool.or_false, bad_B e _ _ h.off, okP_B, sh_B, dif_I, ad_I e h.off, h.len]
  rw [hc]
  exact congrArg dVal (rd_case (n := 13) (okA h.b0 hP) (fun _ => hL) (fun hbd => by rw [hS]; exact (sA_neg2 hP hbd).symm) (ad_I e h.off _ _ _) (by show (pB 0).I e % 8 = _; rw [pB_I e h.off 0]) (wrA_B e h 4 (fun h => by cases h) (fun h => by cases h)) (pB_I e h.off 12) rfl)
theorem vZ_den (e : En) (h : RdG e 80 255) : vZ.den e = (rdV rd0).den e := by
  rw [rdV_den]
  have hk : rdOk (tlE e) (e.ρ 2).toI = false := by
    obtain ⟨b0, b1⟩ := h.b0
    unfold rdOk
    rw [decide_eq_false (by omega)]; rfl
  unfold rdD
  rw [hk]; rfl
end Go.Proofs.YtjcpcnoakphecaaDoor
