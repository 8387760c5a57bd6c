/-
  Packing accesses, by a contract. Conditions: none.
-/
import Derived.Test.YtjcpcnoakphecaaDoorTrE
set_option linter.unusedSectionVars false
set_option linter.unusedVariables false
set_option linter.unusedSimpArgs false
namespace Go.Proofs.YtjcpcnoakphecaaDoor
open Go Go.AE Go.SX Go.RowKit
set_option maxRecDepth 1000000
def lcWy (x : X) : LC := ⟨1, [.z (.i .i64 (.v 0))], [], [], [], .z (.i .i64 x), []⟩
def wayT (q : Int → X) : X := .t .i (q 3) (.i 0) (.t .i (q 6) (.i 1) (.t .i (q 12) (.i 2) (.t .i (q 24) (.i 3) (.i 4))))
def wyA : X := wayT fun n => .o .eq (.v 0) (.i n)
def wyB : X := wayT fun n => .o .eq (.i n) (.v 0)
theorem wyA_I (e : En) : wyA.I e = wayF (e.ρ 0).toI := by
  show (bif decide ((e.ρ 0).toI = 3) then (0 : Int) else bif decide ((e.ρ 0).toI = 6) then 1 else bif decide ((e.ρ 0).toI = 12) then 2 else bif decide ((e.ρ 0).toI = 24) then 3 else 4) = _
  simp only [Bool.cond_decide]
  rfl
theorem wyB_I (e : En) : wyB.I e = wayF (e.ρ 0).toI := by
  show (bif decide (3 = (e.ρ 0).toI) then (0 : Int) else bif decide (6 = (e.ρ 0).toI) then 1 else bif decide (12 = (e.ρ 0).toI) then 2 else bif decide (24 = (e.ρ 0).toI) then 3 else 4) = _
  simp only [Bool.cond_decide, eq_comm (a := (3 : Int)), eq_comm (a := (6 : Int)), eq_comm (a := (12 : Int)), eq_comm (a := (24 : Int))]
  rfl
theorem way_a0 : (lcWy wyA).Ok Tryd.prog 80 := LC.Ok.of_treeF (L := noJ) (lem := noX) (T := T) (W := W0) (n := 12) (cf := 300) (d := 20) (opn := []) (cls := []) (fun _ _ _ h => by cases h) (fun _ _ h => by cases h) C0_ok noT_ok rfl rfl (by kernel_rfl)
theorem way_b0 : (lcWy wyB).Ok Tryd.prog 73 := LC.Ok.of_treeF (L := noJ) (lem := noX) (T := T) (W := W0) (n := 12) (cf := 300) (d := 20) (opn := []) (cls := []) (fun _ _ _ h => by cases h) (fun _ _ h => by cases h) C0_ok noT_ok rfl rfl (by kernel_rfl)
theorem way_a : (lcWy (wyX (.v 0))).Ok Tryd.prog 80 := way_a0.conv rfl rfl rfl fun ds hl hf ha => ⟨hf, ha, by
  show Value.int .i64 (wyA.I (envOf ds)) = Value.int .i64 (wayF ((envOf ds).ρ 0).toI)
  rw [wyA_I], rfl⟩
theorem way_b : (lcWy (wyX (.v 0))).Ok Tryd.prog 73 := way_b0.conv rfl rfl rfl fun ds hl hf ha => ⟨hf, ha, by
  show Value.int .i64 (wyB.I (envOf ds)) = Value.int .i64 (wayF ((envOf ds).ρ 0).toI)
  rw [wyB_I], rfl⟩
noncomputable def Cw := conLC 12 T [(80, [lcWy (wyX (.v 0))]), (73, [lcWy (wyX (.v 0))])]
theorem Cw_ok : ∀ n c, Cw n = some c → ConOk T n c := conLC_ok (all_cons' (all_cons' ⟨rfl, way_a⟩ all_nil') (all_cons' (all_cons' ⟨rfl, way_b⟩ all_nil') all_nil'))
def acK : List CK := [.i .i64, .i .u32, .i .u8, .b, .i .u8]
def rlen (x : X) : X := .u .rlen x
def slR (j : Nat) (x : X) : SV := .z (.sl j (.i 0) 0 0 (rlen x) (rlen x))
def pk0 : X := pkX (.v 0) (rlen (.v 0))
def rwB (w : Bool) (x : X) : Option SBlk := some ⟨.rw acK x, 24, w, false⟩
def byB' (w : Bool) (x : X) : Option SBlk := some ⟨.by x, 5, w, false⟩
def fltX (a b : X) : SA := .ag [.z (.i .i64 a), .z (.i .i64 b)]
def fewR : Fact := ⟨rlen (.v 0), ⟨some 0, some 1000⟩⟩
def nfX : X := .u .not (.o .lt (faX (.v 0)) (rlen (.v 0)))
theorem pk_start (e : En) : (pkPX (.v 0) (.i 0) (.i 0) (.s [])).B e = true := (pkP_iff e _ _ _ _).2 ⟨Int.le_refl _, Nat.zero_le _, rfl, rfl⟩
def pkAx : List X := [pkPX (.v 0) (.i 0) (.i 0) (.s [])]
theorem pkAx_ok : ∀ x ∈ pkAx, ∀ e : En, x.B e = true := all_cons' pk_start all_nil'
def lcPkA (w : Bool) : LC := ⟨1, [slR 0 (.v 0)], [rwB w (.v 0)], [fewR], pkAx ++ [nfX], .tu [.s (.z (.sl 1 (.i 0) 0 0 (.u .len pk0) (.u .len pk0))), fltX (.i 0) (.i 0)], [rwB w (.v 0), byB' true pk0]⟩
def lcPkB (w : Bool) : LC := ⟨1, [slR 0 (.v 0)], [rwB w (.v 0)], [fewR], pkAx ++ [.o .lt (faX (.v 0)) (rlen (.v 0))], .tu [.s (.z .sl0), fltX (.i 1) (faX (.v 0))], [rwB w (.v 0)]⟩
def isI (x : X) (n : Int) : Fact := ⟨x, ⟨some n, some n⟩⟩
theorem isI_out {e : En} {x : X} {n : Int} (h : (isI x n).r.has ((isI x n).e.I e)) : x.I e = n := by
  have h1 : n ≤ x.I e := h.1 _ rfl
  have h2 : x.I e ≤ n := h.2 _ rfl
  omega
def lcPkAx (w : Bool) : LC := ⟨1, [slR 0 (.v 0)], [rwB w (.v 0)], [fewR, isI (nfI (.v 0)) 1], [], .tu [.s (.z (.sl 1 (.i 0) 0 0 (.u .len pk0) (.u .len pk0))), fltX (.i 0) (.i 0)], [rwB w (.v 0), byB' true pk0]⟩
def lcPkBx (w : Bool) : LC := ⟨1, [slR 0 (.v 0)], [rwB w (.v 0)], [fewR, isI (nfI (.v 0)) 0], [], .tu [.s (.z .sl0), fltX (.i 1) (faX (.v 0))], [rwB w (.v 0)]⟩
def Wpk : FuncId → Nat → List (Hint Tryd.prog) := fun n k => bif Nat.beq n 20 then [.t 10 (some 0) (some 1000), .t 5 (some 0) (some 1125899906842624), .l 4 5 (some 13000)] else bif Nat.beq n 21 && Nat.beq k 0 then [.t 6 (some 0) (some 1000), .t 5 (some 0) (some 1125899906842624), .l 4 5 (some 13000)] else []
def pkInv : X := pkPX (.v 0) (.v 1) (.v 2) (.v 3)
def Lpk : Nat → Option LJ := fun n => bif Nat.beq n 1 then some ⟨pkInv, mkSub (rlen (.v 0)) (.v 1), none⟩ else none
theorem Lpk_ok : ∀ n li g, Lpk n = some li → li.fn = some g → IsLoop g := fun n li g hl hg => by
  unfold Lpk at hl
  cases h : Nat.beq n 1 with
  | true => rw [h] at hl; cases hl; cases hg
  | false => rw [h] at hl; cases hl
def mayX (l i : X) : X := .o .and (.o .and (.o .and (.u .not (.o .lt (fSt l i) (.i 0))) (.u .not (.o .lt (.i 1125899906842624) (fSt l i)))) (.o .lt (fAd l i) (.i 2097152))) (.o .lt (fKd l i) (.i 8))
theorem mayX_B (e : En) (l i : X) : (mayX l i).B e = mayR (rowN (l.R e) (i.I e).toNat) := by
  show _ = mayF (rSt (rowN (l.R e) (i.I e).toNat)) (rAd (rowN (l.R e) (i.I e).toNat)) (rKd (rowN (l.R e) (i.I e).toNat))
  unfold mayF
  rfl
def ltR : X := .o .lt (.v 1) (rlen (.v 0))
def catsR : List X → X
  | [] => .s []
  | [a] => a
  | a :: l => .o .cat a (catsR l)
def catsL : X → List X → X
  | x, [] => x
  | x, a :: l => catsL (.o .cat x a) l
def un (x : X) : X := .u .unit x
def bAt (n : Int) : UInt8 := UInt8.ofNat n.toNat
theorem catsR_S (e : En) : ∀ l : List X, (catsR (l.map un)).S e = l.map fun x => bAt (x.I e)
  | [] => rfl
  | [a] => rfl
  | a :: b :: l => by
    show [bAt (a.I e)] ++ (catsR ((b :: l).map un)).S e = _
    rw [catsR_S e (b :: l)]; rfl
theorem catsL_S (e : En) : ∀ (l : List X) (x : X), (catsL x (l.map un)).S e = x.S e ++ l.map fun x => bAt (x.I e)
  | [], x => by simp [catsL]
  | a :: l, x => by
    show (catsL (.o .cat x (un a)) (l.map un)).S e = _
    rw [catsL_S e l]
    show (x.S e ++ [bAt (a.I e)]) ++ _ = _
    rw [List.append_assoc]; rfl
theorem ub {n m : Int} (h0 : 0 ≤ n) (h : n % 256 = m % 256) : bAt n = byB m := by
  apply UInt8.toNat_inj.1
  have h1 := byB_nat m
  have h2 : ((bAt n).toNat : Int) = n % 256 := by
    show ((UInt8.ofNat n.toNat).toNat : Int) = _
    rw [UInt8.toNat_ofNat']
    omega
  omega
theorem wrap64_mod (x : Int) : IntKind.i64.wrap x % 256 = x % 256 := by
  simp [IntKind.wrap, IntKind.bits, IntKind.signed]; split <;> omega
theorem wrap32_mod (x : Int) : IntKind.u32.wrap x % 256 = x % 256 := by
  simp [IntKind.wrap, IntKind.bits, IntKind.signed] <;> omega
def stL : X := fSt (.v 0) (.v 1)
def adL : X := fAd (.v 0) (.v 1)
def wyL : X := wyX (.o .add (.o .mul (.v 2) (.i (-1))) stL)
def hdP : X := .o .add (fKd (.v 0) (.v 1)) (.o .mul wyL (.i 16))
def hdA : X := .t .i (fWr (.v 0) (.v 1)) (.o (.bit .or .u8) hdP (.i 8)) hdP
def hdB : X := .o .add (.o .add (fKd (.v 0) (.v 1)) (.t .i (fWr (.v 0) (.v 1)) (.i 8) (.i 0))) (.o .mul wyL (.i 16))
def m256 (x : X) : X := .o .emod x (.i 256)
def dv (x : X) (n : Int) : X := .o .ediv x (.i n)
def beL : List X := [dv stL 72057594037927936, dv stL 281474976710656, m256 (dv stL 1099511627776), m256 (dv stL 4294967296), m256 (dv stL 16777216), m256 (dv stL 65536), m256 (dv stL 256), m256 (.o (.rI 0) (.v 0) (.v 1))]
def tlL : List X := [m256 (.o (.rI 1) (.v 0) (.v 1)), m256 (dv adL 256), dv adL 65536, fDa (.v 0) (.v 1)]
def oA4 : X := .o .cat (.v 3) (catsR ((hdA :: (beL ++ tlL)).map un))
def oA0 : X := .o .cat (.v 3) (catsR ((hdA :: tlL).map un))
def oB4 : X := .o .cat (catsL (.v 3) ((hdB :: beL).map un)) (catsR (tlL.map un))
def oB0 : X := .o .cat (.o .cat (.v 3) (un hdB)) (catsR (tlL.map un))
theorem or8 : ∀ n : Nat, n < 72 → n % 16 < 8 → bits .or .u8 ((n : Nat) : Int) 8 = (((n + 8 : Nat)) : Int) := by decide +kernel
theorem hdP_I (e : En) : hdP.I e = rKd (rowN (e.ρ 0).toR (e.ρ 1).toI.toNat) + wayF (rSt (rowN (e.ρ 0).toR (e.ρ 1).toI.toNat) - (e.ρ 2).toI) * 16 := by
  show rKd (rowN (e.ρ 0).toR (e.ρ 1).toI.toNat) + wayF ((e.ρ 2).toI * (-1) + rSt (rowN (e.ρ 0).toR (e.ρ 1).toI.toNat)) * 16 = _
  rw [show (e.ρ 2).toI * (-1) + rSt (rowN (e.ρ 0).toR (e.ρ 1).toI.toNat) = rSt (rowN (e.ρ 0).toR (e.ρ 1).toI.toNat) - (e.ρ 2).toI from by omega]
theorem or8' {k w : Int} (b : Bool) (hk : 0 ≤ k ∧ k < 8) (hw : 0 ≤ w ∧ w ≤ 4) : (bif b then bits .or .u8 (k + w * 16) 8 else k + w * 16) = k + 16 * w + (if b then 8 else 0) := by
  cases b with
  | false => simp; omega
  | true =>
    have h := or8 (k + w * 16).toNat (by omega) (by omega)
    rw [show (((k + w * 16).toNat : Nat) : Int) = k + w * 16 from by omega] at h
    simp only [cond_true, if_true]
    rw [h]; omega
abbrev rwE (e : En) : List A := rowN (e.ρ 0).toR (e.ρ 1).toI.toNat
abbrev wyE (e : En) : Int := wayF (rSt (rwE e) - (e.ρ 2).toI)
theorem hdA_I (e : En) (hm : rKd (rwE e) < 8) : hdA.I e = hdF (rwE e) (wyE e) := by
  have hk : 0 ≤ rKd (rwE e) := (u8_rg ((rwE e).getD 2 (.i 0)).toI).1
  have h := or8' (rWr (rwE e)) ⟨hk, hm⟩ (wayF_rg (rSt (rwE e) - (e.ρ 2).toI))
  unfold hdF
  rw [← h, ← hdP_I e]
  rfl
theorem hdB_I (e : En) : hdB.I e = hdF (rwE e) (wyE e) := by
  show rKd (rwE e) + (bif rWr (rwE e) then (8 : Int) else 0) + wayF ((e.ρ 2).toI * (-1) + rSt (rwE e)) * 16 = _
  rw [show (e.ρ 2).toI * (-1) + rSt (rwE e) = rSt (rwE e) - (e.ρ 2).toI from by omega]
  unfold hdF
  rw [cond_eq_ite]
  have hq : wyE e = wayF (rSt (rwE e) - (e.ρ 2).toI) := rfl
  omega
theorem hd_rg {r : List A} (w : Int) (hw : 0 ≤ w ∧ w ≤ 4) : 0 ≤ hdF r w := by
  have hk : 0 ≤ rKd r := (u8_rg (r.getD 2 (.i 0)).toI).1
  unfold hdF
  split <;> omega
theorem be_S (e : En) (hm : 0 ≤ rSt (rwE e) ∧ rSt (rwE e) ≤ 1125899906842624) : (beL.map fun x => bAt (x.I e)) = beF (rSt (rwE e)) := by
  obtain ⟨h0, h1⟩ := hm
  have hw : ((rwE e).getD 0 (.i 0)).toI % 256 = rSt (rwE e) % 256 := (wrap64_mod _).symm
  show [bAt (rSt (rwE e) / 72057594037927936), bAt (rSt (rwE e) / 281474976710656), bAt (rSt (rwE e) / 1099511627776 % 256), bAt (rSt (rwE e) / 4294967296 % 256), bAt (rSt (rwE e) / 16777216 % 256), bAt (rSt (rwE e) / 65536 % 256), bAt (rSt (rwE e) / 256 % 256), bAt (((rwE e).getD 0 (.i 0)).toI % 256)] = _
  unfold beF
  rw [ub (m := rSt (rwE e) / 72057594037927936) (by omega) rfl, ub (m := rSt (rwE e) / 281474976710656) (by omega) rfl, ub (m := rSt (rwE e) / 1099511627776) (by omega) (by omega), ub (m := rSt (rwE e) / 4294967296) (by omega) (by omega), ub (m := rSt (rwE e) / 16777216) (by omega) (by omega), ub (m := rSt (rwE e) / 65536) (by omega) (by omega), ub (m := rSt (rwE e) / 256) (by omega) (by omega), ub (m := rSt (rwE e)) (n := ((rwE e).getD 0 (.i 0)).toI % 256) (by omega) (by omega)]
theorem tl_S (e : En) (hm : rAd (rwE e) < 2097152) : (tlL.map fun x => bAt (x.I e)) = tlF (rwE e) := by
  have h0 : 0 ≤ rAd (rwE e) := (u32_rg ((rwE e).getD 1 (.i 0)).toI).1
  have h1 : 0 ≤ rDa (rwE e) := (u8_rg ((rwE e).getD 4 (.i 0)).toI).1
  have hw : ((rwE e).getD 1 (.i 0)).toI % 256 = rAd (rwE e) % 256 := (wrap32_mod _).symm
  show [bAt (((rwE e).getD 1 (.i 0)).toI % 256), bAt (rAd (rwE e) / 256 % 256), bAt (rAd (rwE e) / 65536), bAt (rDa (rwE e))] = _
  unfold tlF
  rw [ub (m := rAd (rwE e)) (n := ((rwE e).getD 1 (.i 0)).toI % 256) (by omega) (by omega), ub (m := rAd (rwE e) / 256) (by omega) (by omega), ub (m := rAd (rwE e) / 65536) (by omega) rfl, ub (m := rDa (rwE e)) (by omega) rfl]
theorem oA4_S (e : En) (hm : mayR (rwE e) = true) (hw : wyE e = 4) : oA4.S e = (e.ρ 3).toS ++ oneF (rwE e) (e.ρ 2).toI := by
  obtain ⟨m1, m2, m3, m4⟩ := may_iff.1 hm
  show (e.ρ 3).toS ++ (catsR ((hdA :: (beL ++ tlL)).map un)).S e = _
  rw [catsR_S, List.map_cons, List.map_append, be_S e ⟨m1, m2⟩, tl_S e m3, hdA_I e m4, ub (m := hdF (rwE e) (wyE e)) (hd_rg _ (wayF_rg _)) rfl]
  unfold oneF
  rw [if_pos hw]
theorem oA0_S (e : En) (hm : mayR (rwE e) = true) (hw : ¬ wyE e = 4) : oA0.S e = (e.ρ 3).toS ++ oneF (rwE e) (e.ρ 2).toI := by
  obtain ⟨m1, m2, m3, m4⟩ := may_iff.1 hm
  show (e.ρ 3).toS ++ (catsR ((hdA :: tlL).map un)).S e = _
  rw [catsR_S, List.map_cons, tl_S e m3, hdA_I e m4, ub (m := hdF (rwE e) (wyE e)) (hd_rg _ (wayF_rg _)) rfl]
  unfold oneF
  rw [if_neg hw, List.nil_append]
theorem oB4_S (e : En) (hm : mayR (rwE e) = true) (hw : wyE e = 4) : oB4.S e = (e.ρ 3).toS ++ oneF (rwE e) (e.ρ 2).toI := by
  obtain ⟨m1, m2, m3, m4⟩ := may_iff.1 hm
  show (catsL (.v 3) ((hdB :: beL).map un)).S e ++ (catsR (tlL.map un)).S e = _
  rw [catsL_S, catsR_S, List.map_cons, be_S e ⟨m1, m2⟩, tl_S e m3, hdB_I e, ub (m := hdF (rwE e) (wyE e)) (hd_rg _ (wayF_rg _)) rfl]
  unfold oneF
  rw [if_pos hw, List.append_assoc]; rfl
theorem oB0_S (e : En) (hm : mayR (rwE e) = true) (hw : ¬ wyE e = 4) : oB0.S e = (e.ρ 3).toS ++ oneF (rwE e) (e.ρ 2).toI := by
  obtain ⟨m1, m2, m3, m4⟩ := may_iff.1 hm
  show ((e.ρ 3).toS ++ [bAt (hdB.I e)]) ++ (catsR (tlL.map un)).S e = _
  rw [catsR_S, tl_S e m3, hdB_I e, ub (m := hdF (rwE e) (wyE e)) (hd_rg _ (wayF_rg _)) rfl]
  unfold oneF
  rw [if_neg hw, List.append_assoc]; rfl
def w4 : X := .o .eq wyL (.i 4)
theorem w4_iff (e : En) : w4.B e = true ↔ wyE e = 4 := by
  show decide (wayF ((e.ρ 2).toI * (-1) + rSt (rwE e)) = 4) = true ↔ _
  rw [show (e.ρ 2).toI * (-1) + rSt (rwE e) = rSt (rwE e) - (e.ρ 2).toI from by omega]
  exact decide_eq_true_iff
def nxP (o : X) : X := pkPX (.v 0) (.o .add (.v 1) (.i 1)) stL o
def mayL : X := mayX (.v 0) (.v 1)
theorem mayL_B (e : En) : mayL.B e = mayR (rwE e) := mayX_B e (.v 0) (.v 1)
def stepX (c o : X) : X := impS (.o .and (.o .and pkInv ltR) (.o .and mayL c)) (nxP o)
theorem stepX_ok {c o : X} (h : ∀ e : En, mayR (rwE e) = true → c.B e = true → o.S e = (e.ρ 3).toS ++ oneF (rwE e) (e.ρ 2).toI) (e : En) : (stepX c o).B e = true := impS_ok fun hh => by
  obtain ⟨h1, h2⟩ := and_out hh
  obtain ⟨hi, hl⟩ := and_out h1
  obtain ⟨hm, hc⟩ := and_out h2
  have hm : mayR (rwE e) = true := by rw [← mayL_B]; exact hm
  refine (pkP_iff e _ _ _ _).2 ?_
  rw [h e hm hc]
  exact pk_next ((pkP_iff e _ _ _ _).1 hi) (lt_out hl) hm
def seq2 (a b : X) : X := .o .and (.o .and (.o .seq a b) (.o .seq b a)) (.o .and (.o .eq (.u .len a) (.u .len b)) (.o .eq (.u .len b) (.u .len a)))
theorem seq2_in {a b : X} {e : En} (h : a.S e = b.S e) : (seq2 a b).B e = true := by
  have h1 : (X.u .len a).I e = (X.u .len b).I e := by show ((((a.S e).length : Nat) : Int)) = (((b.S e).length : Nat) : Int); rw [h]
  exact and_B (and_B (seq_in h) (seq_in h.symm)) (and_B (eq_in h1) (eq_in h1.symm))
def eq2 (a b : X) : X := .o .and (.o .eq a b) (.o .eq b a)
theorem eq2_in {a b : X} {e : En} (h : a.I e = b.I e) : (eq2 a b).B e = true := and_B (eq_in h) (eq_in h.symm)
def pkFin : X := impS (.o .and pkInv (.u .not ltR)) (seq2 (.v 3) pk0)
def pkFlt : X := impS (.o .and pkInv (.u .not mayL)) (eq2 (.v 1) (faX (.v 0)))
theorem pk_nth (e : En) : (impS (.o .and pkInv (.o .and ltR nfX)) mayL).B e = true := impS_ok fun hh => by
  obtain ⟨hi, h2⟩ := and_out hh
  obtain ⟨hl, hn⟩ := and_out h2
  obtain ⟨q0, q1, q2, q3⟩ := (pkP_iff e _ _ _ _).1 hi
  have hl : (e.ρ 1).toI < (((e.ρ 0).toR.length : Nat) : Int) := lt_out hl
  have hn : ¬ ((faF (e.ρ 0).toR : Nat) : Int) < (((e.ρ 0).toR.length : Nat) : Int) := nlt_out hn
  have q0 : 0 ≤ (e.ρ 1).toI := q0
  rw [mayL_B]
  exact fa_may (l := (e.ρ 0).toR) (i := (e.ρ 1).toI.toNat) (by omega)
theorem pk_bnd (e : En) : (impS pkInv (.u .not (.o .lt (.o .mul (.v 1) (.i 13)) (.u .len (.v 3))))).B e = true := impS_ok fun hi => by
  obtain ⟨q0, q1, q2, q3⟩ := (pkP_iff e _ _ _ _).1 hi
  refine nlt_in ?_
  have q0 : 0 ≤ (e.ρ 1).toI := q0
  have q3 : (e.ρ 3).toS = pkF (e.ρ 0).toR (e.ρ 1).toI.toNat := q3
  show ¬ (e.ρ 1).toI * 13 < (((e.ρ 3).toS.length : Nat) : Int)
  rw [q3]
  have := (pk_len (e.ρ 0).toR (e.ρ 1).toI.toNat).2
  omega
theorem pk_fin (e : En) : pkFin.B e = true := impS_ok fun hh => by
  obtain ⟨hi, hl⟩ := and_out hh
  obtain ⟨q0, q1, q2, q3⟩ := (pkP_iff e _ _ _ _).1 hi
  have hl : ¬ (e.ρ 1).toI < (((e.ρ 0).toR.length : Nat) : Int) := nlt_out hl
  have q0 : 0 ≤ (e.ρ 1).toI := q0
  have q1 : (e.ρ 1).toI.toNat ≤ faF (e.ρ 0).toR := q1
  have q3 : (e.ρ 3).toS = pkF (e.ρ 0).toR (e.ρ 1).toI.toNat := q3
  have := fa_le (e.ρ 0).toR
  refine seq2_in ?_
  show (e.ρ 3).toS = pkF (e.ρ 0).toR (((e.ρ 0).toR.length : Nat) : Int).toNat
  rw [q3, show (e.ρ 1).toI.toNat = (((e.ρ 0).toR.length : Nat) : Int).toNat from by omega]
def fltC : X := .o .lt (faX (.v 0)) (rlen (.v 0))
theorem pk_in (e : En) : (impS (.o .and pkInv fltC) ltR).B e = true := impS_ok fun hh => by
  obtain ⟨hi, hf⟩ := and_out hh
  obtain ⟨q0, q1, q2, q3⟩ := (pkP_iff e _ _ _ _).1 hi
  have hf : ((faF (e.ρ 0).toR : Nat) : Int) < (((e.ρ 0).toR.length : Nat) : Int) := lt_out hf
  have q0 : 0 ≤ (e.ρ 1).toI := q0
  have q1 : (e.ρ 1).toI.toNat ≤ faF (e.ρ 0).toR := q1
  exact decide_eq_true (by show (e.ρ 1).toI < (((e.ρ 0).toR.length : Nat) : Int); omega)
theorem pk_flt (e : En) : pkFlt.B e = true := impS_ok fun hh => by
  obtain ⟨hi, hm⟩ := and_out hh
  obtain ⟨q0, q1, q2, q3⟩ := (pkP_iff e _ _ _ _).1 hi
  have hm := not_out hm
  rw [mayL_B] at hm
  have hm : mayR (rowN (e.ρ 0).toR (e.ρ 1).toI.toNat) = false := hm
  have q0 : 0 ≤ (e.ρ 1).toI := q0
  have q1 : (e.ρ 1).toI.toNat ≤ faF (e.ρ 0).toR := q1
  refine eq2_in ?_
  show (e.ρ 1).toI = ((faF (e.ρ 0).toR : Nat) : Int)
  rcases Nat.lt_or_ge (e.ρ 1).toI.toNat (faF (e.ρ 0).toR) with h | h
  · rw [fa_may h] at hm; cases hm
  · omega
def lemPk0 (o4 o0 : X) : List X := [impS (.o .and pkInv (.o .and ltR nfX)) mayL, impS pkInv (.u .not (.o .lt (.o .mul (.v 1) (.i 13)) (.u .len (.v 3)))), pkFin, impS (.o .and pkInv fltC) ltR, pkFlt, stepX w4 o4, stepX (.u .not w4) o0]
def lemPkA : Nat → List X := fun n => bif Nat.beq n 1 then lemPk0 oA4 oA0 else []
def lemPkB : Nat → List X := fun n => bif Nat.beq n 1 then lemPk0 oB4 oB0 else []
theorem nw4 {e : En} (h : (X.u .not w4).B e = true) : ¬ wyE e = 4 := fun q => by
  have := not_out h
  rw [(w4_iff e).2 q] at this; cases this
theorem stA4 (e : En) : (stepX w4 oA4).B e = true := stepX_ok (fun e hm hc => oA4_S e hm ((w4_iff e).1 hc)) e
theorem stA0 (e : En) : (stepX (.u .not w4) oA0).B e = true := stepX_ok (fun e hm hc => oA0_S e hm (nw4 hc)) e
theorem lemPkA_ok : ∀ b, ∀ x ∈ lemPkA b, ∀ e : En, x.B e = true := fun n x hx => by
  unfold lemPkA at hx
  cases hb : Nat.beq n 1 with
  | false => rw [hb] at hx; cases hx
  | true =>
    rw [hb] at hx
    exact (all_cons' (P := fun x : X => ∀ e : En, x.B e = true) pk_nth (all_cons' (P := fun x : X => ∀ e : En, x.B e = true) pk_bnd (all_cons' (P := fun x : X => ∀ e : En, x.B e = true) pk_fin (all_cons' (P := fun x : X => ∀ e : En, x.B e = true) pk_in (all_cons' (P := fun x : X => ∀ e : En, x.B e = true) pk_flt (all_cons' (P := fun x : X => ∀ e : En, x.B e = true) stA4 (all_cons' (P := fun x : X => ∀ e : En, x.B e = true) stA0 all_nil'))))))) x hx
theorem stB4 (e : En) : (stepX w4 oB4).B e = true := stepX_ok (fun e hm hc => oB4_S e hm ((w4_iff e).1 hc)) e
theorem stB0 (e : En) : (stepX (.u .not w4) oB0).B e = true := stepX_ok (fun e hm hc => oB0_S e hm (nw4 hc)) e
theorem lemPkB_ok : ∀ b, ∀ x ∈ lemPkB b, ∀ e : En, x.B e = true := fun n x hx => by
  unfold lemPkB at hx
  cases hb : Nat.beq n 1 with
  | false => rw [hb] at hx; cases hx
  | true =>
    rw [hb] at hx
    exact (all_cons' (P := fun x : X => ∀ e : En, x.B e = true) pk_nth (all_cons' (P := fun x : X => ∀ e : En, x.B e = true) pk_bnd (all_cons' (P := fun x : X => ∀ e : En, x.B e = true) pk_fin (all_cons' (P := fun x : X => ∀ e : En, x.B e = true) pk_in (all_cons' (P := fun x : X => ∀ e : En, x.B e = true) pk_flt (all_cons' (P := fun x : X => ∀ e : En, x.B e = true) stB4 (all_cons' (P := fun x : X => ∀ e : En, x.B e = true) stB0 all_nil'))))))) x hx
theorem pkA10 : (lcPkA false).Ok Tryd.prog 20 := LC.Ok.of_treeF (L := Lpk) (lem := lemPkA) (T := T) (W := Wpk) (n := 12) (cf := 300) (d := 20) (opn := []) (cls := []) Lpk_ok lemPkA_ok Cw_ok noT_ok rfl rfl (by kernel_rfl)
theorem pkA1 : (lcPkAx false).Ok Tryd.prog 20 := pkA10.conv rfl rfl rfl fun ds hl hf ha => ⟨fun f h => hf f (by rcases List.mem_singleton.1 (show f ∈ [fewR] from h) with rfl; exact .head _), fun x hm => (List.mem_append.1 (show x ∈ pkAx ++ [nfX] from hm)).elim (fun h => pkAx_ok x h _) (fun h => by obtain rfl := List.mem_singleton.1 h; exact nlt_in (by have := (nfI_1 _ _).1 (isI_out (hf _ (.tail _ (.head _)))); show ¬ ((faF _ : Nat) : Int) < ((_ : Nat) : Int); exact fun q => by have h2 := Int.ofNat_lt.1 q; exact absurd h2 (Nat.not_lt.2 this))), rfl, rfl⟩
theorem pkA20 : (lcPkA true).Ok Tryd.prog 20 := LC.Ok.of_treeF (L := Lpk) (lem := lemPkA) (T := T) (W := Wpk) (n := 12) (cf := 300) (d := 20) (opn := []) (cls := []) Lpk_ok lemPkA_ok Cw_ok noT_ok rfl rfl (by kernel_rfl)
theorem pkA2 : (lcPkAx true).Ok Tryd.prog 20 := pkA20.conv rfl rfl rfl fun ds hl hf ha => ⟨fun f h => hf f (by rcases List.mem_singleton.1 (show f ∈ [fewR] from h) with rfl; exact .head _), fun x hm => (List.mem_append.1 (show x ∈ pkAx ++ [nfX] from hm)).elim (fun h => pkAx_ok x h _) (fun h => by obtain rfl := List.mem_singleton.1 h; exact nlt_in (by have := (nfI_1 _ _).1 (isI_out (hf _ (.tail _ (.head _)))); show ¬ ((faF _ : Nat) : Int) < ((_ : Nat) : Int); exact fun q => by have h2 := Int.ofNat_lt.1 q; exact absurd h2 (Nat.not_lt.2 this))), rfl, rfl⟩
theorem pkA30 : (lcPkB false).Ok Tryd.prog 20 := LC.Ok.of_treeF (L := Lpk) (lem := lemPkA) (T := T) (W := Wpk) (n := 12) (cf := 300) (d := 20) (opn := []) (cls := []) Lpk_ok lemPkA_ok Cw_ok noT_ok rfl rfl (by kernel_rfl)
theorem pkA3 : (lcPkBx false).Ok Tryd.prog 20 := pkA30.conv rfl rfl rfl fun ds hl hf ha => ⟨fun f h => hf f (by rcases List.mem_singleton.1 (show f ∈ [fewR] from h) with rfl; exact .head _), fun x hm => (List.mem_append.1 (show x ∈ pkAx ++ [fltC] from hm)).elim (fun h => pkAx_ok x h _) (fun h => by obtain rfl := List.mem_singleton.1 h; exact decide_eq_true (by have := (nfI_0 _ _).1 (isI_out (hf _ (.tail _ (.head _)))); show ((faF _ : Nat) : Int) < ((_ : Nat) : Int); exact Int.ofNat_lt.2 (Nat.not_le.1 this))), rfl, rfl⟩
theorem pkB10 : (lcPkA false).Ok Tryd.prog 21 := LC.Ok.of_treeF (L := Lpk) (lem := lemPkB) (T := T) (W := Wpk) (n := 12) (cf := 300) (d := 20) (opn := []) (cls := []) Lpk_ok lemPkB_ok Cw_ok noT_ok rfl rfl (by kernel_rfl)
theorem pkB1 : (lcPkAx false).Ok Tryd.prog 21 := pkB10.conv rfl rfl rfl fun ds hl hf ha => ⟨fun f h => hf f (by rcases List.mem_singleton.1 (show f ∈ [fewR] from h) with rfl; exact .head _), fun x hm => (List.mem_append.1 (show x ∈ pkAx ++ [nfX] from hm)).elim (fun h => pkAx_ok x h _) (fun h => by obtain rfl := List.mem_singleton.1 h; exact nlt_in (by have := (nfI_1 _ _).1 (isI_out (hf _ (.tail _ (.head _)))); show ¬ ((faF _ : Nat) : Int) < ((_ : Nat) : Int); exact fun q => by have h2 := Int.ofNat_lt.1 q; exact absurd h2 (Nat.not_lt.2 this))), rfl, rfl⟩
theorem pkB30 : (lcPkB false).Ok Tryd.prog 21 := LC.Ok.of_treeF (L := Lpk) (lem := lemPkB) (T := T) (W := Wpk) (n := 12) (cf := 300) (d := 20) (opn := []) (cls := []) Lpk_ok lemPkB_ok Cw_ok noT_ok rfl rfl (by kernel_rfl)
theorem pkB3 : (lcPkBx false).Ok Tryd.prog 21 := pkB30.conv rfl rfl rfl fun ds hl hf ha => ⟨fun f h => hf f (by rcases List.mem_singleton.1 (show f ∈ [fewR] from h) with rfl; exact .head _), fun x hm => (List.mem_append.1 (show x ∈ pkAx ++ [fltC] from hm)).elim (fun h => pkAx_ok x h _) (fun h => by obtain rfl := List.mem_singleton.1 h; exact decide_eq_true (by have := (nfI_0 _ _).1 (isI_out (hf _ (.tail _ (.head _)))); show ((faF _ : Nat) : Int) < ((_ : Nat) : Int); exact Int.ofNat_lt.2 (Nat.not_le.1 this))), rfl, rfl⟩
end Go.Proofs.YtjcpcnoakphecaaDoor
