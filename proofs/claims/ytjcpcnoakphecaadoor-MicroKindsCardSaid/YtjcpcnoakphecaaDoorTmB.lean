/-
  Contracts of timing.kinds and timing.Text. Conditions: none.
-/
import Derived.Test.YtjcpcnoakphecaaDoorDf
set_option linter.unusedSectionVars false
set_option linter.unusedVariables false
set_option linter.unusedSimpArgs false
namespace Go.Proofs.YtjcpcnoakphecaaDoor
open Go Go.AE Go.SX Go.RowKit
set_option maxRecDepth 1000000
/-! Plain: letters to kinds, kinds to letters. -/
def lettersL : List UInt8 := [70, 79, 68, 76, 83, 80, 85, 86]
def kd1 (c : UInt8) : UInt8 := UInt8.ofNat (ixI (ixB c lettersL) % 256).toNat
def kdF (s : List UInt8) : List UInt8 := s.map kd1
def tx1 (c : UInt8) : UInt8 := bif Nat.blt c.toNat 8 then lettersL.getD c.toNat 0 else 63
def txF (l : List UInt8) : List UInt8 := l.map tx1
def partsF (l : List UInt8) : List (List A) := l.map fun c => [.s [tx1 c]]
def KdP (s : List UInt8) (i : Int) (out : List UInt8) : Prop := 0 ≤ i ∧ i ≤ (s.length : Nat) ∧ out = kdF (s.take i.toNat)
def TxP (l : List UInt8) (i : Int) (rows : List (List A)) : Prop := 0 ≤ i ∧ i ≤ (l.length : Nat) ∧ rows = partsF (l.take i.toNat)
theorem take_next {α : Type} {l : List α} {i : Int} (h0 : 0 ≤ i) (h1 : i < (l.length : Nat)) (d : α) : l.take (i + 1).toNat = l.take i.toNat ++ [l.getD i.toNat d] := by
  have e : (i + 1).toNat = i.toNat + 1 := by omega
  have hl : i.toNat < l.length := by omega
  rw [e, List.take_add_one, List.getElem?_eq_getElem hl, List.getD_eq_getElem?_getD, List.getElem?_eq_getElem hl]
  rfl
theorem take_all {α : Type} {l : List α} {i : Int} (h1 : (l.length : Nat) ≤ i) : l.take i.toNat = l := List.take_of_length_le (by omega)
theorem join_single : ∀ l : List UInt8, Lib.join (strR (partsF l)) [] = txF l
  | [] => rfl
  | c :: l => by
    have h : ∀ l : List UInt8, (([] : List UInt8).intercalate (strR (partsF l))) = txF l := by
      intro l
      induction l with
      | nil => rfl
      | cons c l ih =>
        cases l with
        | nil => rfl
        | cons c' l =>
          show ([] : List UInt8).intercalate ([tx1 c] :: [tx1 c'] :: strR (partsF l)) = tx1 c :: txF (c' :: l)
          rw [List.intercalate_cons_cons]
          have ih : ([] : List UInt8).intercalate ([tx1 c'] :: strR (partsF l)) = txF (c' :: l) := ih
          rw [ih]; rfl
    exact h (c :: l)
open Classical in
class DOk2 [DF] : Prop where
  h42 : ∀ d, Fam.Φ 42 d = .s (txF d.toS)
  h45 : ∀ d, Fam.Φ 45 d = .s (kdF d.toS)
  h55 : ∀ d, Fam.Φ 55 d = .b (decide (KdP d.fst.toS d.snd.fst.toI d.snd.snd.toS))
  h56 : ∀ d, Fam.Φ 56 d = .b (decide (TxP d.fst.toS d.snd.fst.toI d.snd.snd.toR))
/-! Implications as conditions. -/
section
variable [Fam]
def impS (a b : X) : X := .u .not (.o .and a (.u .not b))
theorem impS_ok {a b : X} {e : En} (h : a.B e = true → b.B e = true) : (impS a b).B e = true := by
  show (!(a.B e && !b.B e)) = true
  cases ha : a.B e with
  | false => rfl
  | true => rw [h ha]; rfl
theorem and_B {a b : X} {e : En} (h1 : a.B e = true) (h2 : b.B e = true) : (X.o .and a b).B e = true := by
  show (a.B e && b.B e) = true
  rw [h1, h2]; rfl
theorem and_out {a b : X} {e : En} (h : (X.o .and a b).B e = true) : a.B e = true ∧ b.B e = true := by
  have h : (a.B e && b.B e) = true := h
  rwa [Bool.and_eq_true] at h
theorem lt_out {a b : X} {e : En} (h : (X.o .lt a b).B e = true) : a.I e < b.I e := of_decide_eq_true h
theorem nlt_out {a b : X} {e : En} (h : (X.u .not (.o .lt a b)).B e = true) : ¬ a.I e < b.I e := by
  have h : (!decide (a.I e < b.I e)) = true := h
  rwa [Bool.not_eq_true', decide_eq_false_iff_not] at h
theorem nlt_in {a b : X} {e : En} (h : ¬ a.I e < b.I e) : (X.u .not (.o .lt a b)).B e = true := by
  show (!decide (a.I e < b.I e)) = true
  rw [decide_eq_false h]; rfl
theorem seq_in {a b : X} {e : En} (h : a.S e = b.S e) : (X.o .seq a b).B e = true := by
  show (a.S e == b.S e) = true
  rw [h]; exact beq_self_eq_true _
theorem eq_in {a b : X} {e : En} (h : a.I e = b.I e) : (X.o .eq a b).B e = true := decide_eq_true h
def Lno (b : Nat) (inv ms : X) : Nat → Option LJ := fun n => bif Nat.beq n b then some ⟨inv, ms, none⟩ else none
theorem Lno_ok {b : Nat} {inv ms : X} : ∀ n li g, Lno b inv ms n = some li → li.fn = some g → IsLoop g := fun n li g hl hg => by
  unfold Lno at hl
  cases hb : Nat.beq n b with
  | false => rw [hb] at hl; cases hl
  | true => rw [hb] at hl; cases hl; cases hg
def Xone (b : Nat) (l : List X) : Nat → List X := fun n => bif Nat.beq n b then l else []
theorem Xone_ok {b : Nat} {l : List X} (h : ∀ x ∈ l, ∀ e : En, x.B e = true) : ∀ n, ∀ x ∈ Xone b l n, ∀ e : En, x.B e = true := fun n x hx => by
  unfold Xone at hx
  cases hb : Nat.beq n b with
  | false => rw [hb] at hx; cases hx
  | true => rw [hb] at hx; exact h x hx
end
def noT : Tms := fun _ => none
theorem noT_ok [Fam] : TmsOk Tryd.prog noT := fun _ _ h => by cases h
variable [DF] [DOk1] [DOk2]
def kdX (x : X) : X := .ap 45 x
def lenX' (x : X) : X := .u .len x
def addI (x : X) (n : Int) : X := .o .add x (.i n)
/-! timing.kinds. -/
def kdPX (s i out : X) : X := .ap 55 (.o .pair s (.o .pair i out))
theorem kdPX_iff (e : En) (s i out : X) : (kdPX s i out).B e = true ↔ KdP (s.S e) (i.I e) (out.S e) := by
  show (Fam.Φ 55 (.p (s.den e) (.p (i.den e) (out.den e)))).toB = true ↔ _
  rw [DOk2.h55]
  exact @decide_eq_true_iff _ (_)
def lcKinds : LC := ⟨1, [.z (.s (.v 0))], [], [⟨lenX' (.v 0), ⟨some 0, some 400000⟩⟩], [], .z (.sl 0 (.i 0) 0 0 (lenX' (kdX (.v 0))) (lenX' (kdX (.v 0)))), [some ⟨.by (kdX (.v 0)), 5, true, false⟩]⟩
def Wtm : FuncId → Nat → List (Hint Tryd.prog) := fun n _ => bif Nat.beq n 91 then [.t 7 (some 0) (some 400000), .l 3 5 (some 400000)] else bif Nat.beq n 41 then [.t 8 (some 0) (some 1000), .l 3 9 (some 1000)] else []
def invK : X := kdPX (.v 0) (.v 1) (.v 2)
def ixX (c : X) : X := .ap 41 (.o .pair (.s lettersL) c)
def outK : X := .o .cat (.v 2) (.u .unit (.o .emod (ixX (.o .nth (.v 0) (.v 1))) (.i 256)))
def lemK : List X := [impS invK (.o .eq (lenX' (.v 2)) (.v 1)), impS (.o .and invK (.o .lt (.v 1) (lenX' (.v 0)))) (kdPX (.v 0) (addI (.v 1) 1) outK), impS (.o .and invK (.u .not (.o .lt (.v 1) (lenX' (.v 0))))) (.o .and (.o .seq (.v 2) (kdX (.v 0))) (.o .eq (lenX' (.v 2)) (lenX' (kdX (.v 0)))))]
theorem kd_S (e : En) (x : X) : (kdX x).S e = kdF (x.S e) := by
  show (Fam.Φ 45 (x.den e)).toS = _
  rw [DOk2.h45]; rfl
theorem ixX_I (e : En) (c : X) : (ixX c).I e = ixI (ixB (c.I e).toNat.toUInt8 lettersL) := DOk1.h41 _
theorem lemK_ok : ∀ x ∈ lemK, ∀ e : En, x.B e = true := by
  refine all_cons' (fun e => impS_ok fun h => ?_) (all_cons' (fun e => impS_ok fun h => ?_) (all_cons' (fun e => impS_ok fun h => ?_) all_nil'))
  · obtain ⟨h0, h1, h2⟩ := (kdPX_iff e _ _ _).1 h
    have h0 : 0 ≤ (e.ρ 1).toI := h0
    have h1 : (e.ρ 1).toI ≤ (((e.ρ 0).toS.length : Nat) : Int) := h1
    have h2 : (e.ρ 2).toS = kdF ((e.ρ 0).toS.take (e.ρ 1).toI.toNat) := h2
    refine eq_in ?_
    show (((e.ρ 2).toS.length : Nat) : Int) = (e.ρ 1).toI
    rw [h2]
    unfold kdF
    rw [List.length_map, List.length_take]
    omega
  · obtain ⟨hi, hlt⟩ := and_out h
    obtain ⟨h0, h1, h2⟩ := (kdPX_iff e _ _ _).1 hi
    have hlt : (e.ρ 1).toI < (((e.ρ 0).toS.length : Nat) : Int) := lt_out hlt
    have h0 : 0 ≤ (e.ρ 1).toI := h0
    have h2 : (e.ρ 2).toS = kdF ((e.ρ 0).toS.take (e.ρ 1).toI.toNat) := h2
    refine (kdPX_iff e _ _ _).2 ⟨by show 0 ≤ (e.ρ 1).toI + 1; omega, by show (e.ρ 1).toI + 1 ≤ (((e.ρ 0).toS.length : Nat) : Int); omega, ?_⟩
    show (e.ρ 2).toS ++ [UInt8.ofNat ((ixX (.o .nth (.v 0) (.v 1))).I e % 256).toNat] = kdF ((e.ρ 0).toS.take ((e.ρ 1).toI + 1).toNat)
    rw [take_next h0 hlt 0, h2, ixX_I]
    show _ = ((e.ρ 0).toS.take (e.ρ 1).toI.toNat ++ _).map kd1
    rw [List.map_append]
    have hn : ((X.o .nth (.v 0) (.v 1)).I e).toNat.toUInt8 = (e.ρ 0).toS.getD (e.ρ 1).toI.toNat 0 := by
      show ((((e.ρ 0).toS.getD (e.ρ 1).toI.toNat 0).toNat : Nat) : Int).toNat.toUInt8 = _
      simp
    rw [hn]; rfl
  · obtain ⟨hi, hlt⟩ := and_out h
    obtain ⟨h0, h1, h2⟩ := (kdPX_iff e _ _ _).1 hi
    have hlt : ¬ (e.ρ 1).toI < (((e.ρ 0).toS.length : Nat) : Int) := nlt_out hlt
    have h2 : (e.ρ 2).toS = kdF ((e.ρ 0).toS.take (e.ρ 1).toI.toNat) := h2
    rw [take_all (by omega)] at h2
    have h3 : (X.v 2).S e = (kdX (.v 0)).S e := by rw [kd_S]; exact h2
    refine and_B (seq_in h3) (eq_in ?_)
    show (((X.v 2).S e).length : Int) = (((kdX (.v 0)).S e).length : Int)
    rw [h3]
theorem kinds_lc : lcKinds.Ok Tryd.prog 91 :=
  LC.Ok.drop (ax := [kdPX (.v 0) (.i 0) (.s [])]) (LC.Ok.of_treeF (L := Lno 1 invK (mkSub (lenX' (.v 0)) (.v 1))) (lem := Xone 1 lemK) (W := Wtm) (n := 12) (cf := 300) (d := 20) (opn := []) (cls := []) Lno_ok (Xone_ok lemK_ok) CD_ok noT_ok rfl rfl (by kernel_rfl))
    (all_cons' (fun e => (kdPX_iff e _ _ _).2 ⟨Int.le_refl _, Int.natCast_nonneg _, by show [] = kdF (List.take 0 _); simp [kdF]⟩) all_nil')
/-! timing.Text. -/
def txX (x : X) : X := .ap 42 x
def txPX (l i rows : X) : X := .ap 56 (.o .pair l (.o .pair i rows))
theorem txPX_iff (e : En) (l i rows : X) : (txPX l i rows).B e = true ↔ TxP (l.S e) (i.I e) (rows.R e) := by
  show (Fam.Φ 56 (.p (l.den e) (.p (i.den e) (rows.den e)))).toB = true ↔ _
  rw [DOk2.h56]
  exact @decide_eq_true_iff _ (_)
theorem tx_S (e : En) (x : X) : (txX x).S e = txF (x.S e) := by
  show (Fam.Φ 42 (x.den e)).toS = _
  rw [DOk2.h42]; rfl
def slB (x : X) : SV := .z (.sl 0 (.i 0) 0 0 (lenX' x) (lenX' x))
def lcText : LC := ⟨1, [slB (.v 0)], [some ⟨.by (.v 0), 0, false, false⟩], [⟨lenX' (.v 0), ⟨some 0, some 1000⟩⟩], [], .z (.s (txX (.v 0))), [some ⟨.by (.v 0), 0, false, false⟩]⟩
def invT : X := txPX (.v 0) (.v 1) (.v 2)
def chX (x i : X) : X := .t .d (.o .lt (.o .nth x i) (.i 8)) (.o .pair (.o .take (.o .drop (.s lettersL) (.o .nth x i)) (.i 1)) .nil) (.o .pair (.s [63]) .nil)
def outT : X := .o .rcat (.v 2) (.u .row (chX (.v 0) (.v 1)))
def joX : X := .ap 43 (.o .pair (.v 2) (.s []))
def lemT : List X := [impS invT (.o .eq (.u .rlen (.v 2)) (.v 1)), impS (.o .and invT (.o .lt (.v 1) (lenX' (.v 0)))) (txPX (.v 0) (addI (.v 1) 1) outT), impS (.o .and (.o .and invT (.u .not (.o .lt (.v 1) (lenX' (.v 0))))) (.u .not (.o .lt (.i 1000) (lenX' (.v 0))))) (.o .and (.o .seq joX (txX (.v 0))) (.u .not (.o .lt (.i 140737488355328) (lenX' joX))))]
theorem tx1_eq (c : UInt8) : (bif decide (((c.toNat : Nat) : Int) < 8) then D.p (.s ((lettersL.drop ((c.toNat : Nat) : Int).toNat).take 1)) .u else .p (.s [63]) .u).row = [.s [tx1 c]] := by
  have h : ∀ n : Nat, n < 256 → (bif decide (((n : Nat) : Int) < 8) then D.p (.s ((lettersL.drop ((n : Nat) : Int).toNat).take 1)) .u else .p (.s [63]) .u).row = [A.s [bif Nat.blt n 8 then lettersL.getD n 0 else 63]] := by decide
  exact h c.toNat c.toNat_lt
theorem lemT_ok : ∀ x ∈ lemT, ∀ e : En, x.B e = true := by
  refine all_cons' (fun e => impS_ok fun h => ?_) (all_cons' (fun e => impS_ok fun h => ?_) (all_cons' (fun e => impS_ok fun h => ?_) all_nil'))
  · obtain ⟨h0, h1, h2⟩ := (txPX_iff e _ _ _).1 h
    have h0 : 0 ≤ (e.ρ 1).toI := h0
    have h1 : (e.ρ 1).toI ≤ (((e.ρ 0).toS.length : Nat) : Int) := h1
    have h2 : (e.ρ 2).toR = partsF ((e.ρ 0).toS.take (e.ρ 1).toI.toNat) := h2
    refine eq_in ?_
    show (((e.ρ 2).toR.length : Nat) : Int) = (e.ρ 1).toI
    rw [h2]
    unfold partsF
    rw [List.length_map, List.length_take]
    omega
  · obtain ⟨hi, hlt⟩ := and_out h
    obtain ⟨h0, h1, h2⟩ := (txPX_iff e _ _ _).1 hi
    have hlt : (e.ρ 1).toI < (((e.ρ 0).toS.length : Nat) : Int) := lt_out hlt
    have h0 : 0 ≤ (e.ρ 1).toI := h0
    have h2 : (e.ρ 2).toR = partsF ((e.ρ 0).toS.take (e.ρ 1).toI.toNat) := h2
    refine (txPX_iff e _ _ _).2 ⟨by show 0 ≤ (e.ρ 1).toI + 1; omega, by show (e.ρ 1).toI + 1 ≤ (((e.ρ 0).toS.length : Nat) : Int); omega, ?_⟩
    show (e.ρ 2).toR ++ [((chX (.v 0) (.v 1)).den e).row] = partsF ((e.ρ 0).toS.take ((e.ρ 1).toI + 1).toNat)
    rw [take_next h0 hlt 0, h2]
    show _ = ((e.ρ 0).toS.take (e.ρ 1).toI.toNat ++ _).map _
    rw [List.map_append]
    exact congrArg (fun r => partsF ((e.ρ 0).toS.take (e.ρ 1).toI.toNat) ++ [r]) (tx1_eq _)
  · obtain ⟨h, hk⟩ := and_out h
    obtain ⟨hi, hlt⟩ := and_out h
    obtain ⟨h0, h1, h2⟩ := (txPX_iff e _ _ _).1 hi
    have hlt : ¬ (e.ρ 1).toI < (((e.ρ 0).toS.length : Nat) : Int) := nlt_out hlt
    have hk : ¬ (1000 : Int) < (((e.ρ 0).toS.length : Nat) : Int) := nlt_out hk
    have h2 : (e.ρ 2).toR = partsF ((e.ρ 0).toS.take (e.ρ 1).toI.toNat) := h2
    rw [take_all (by omega)] at h2
    have hj : joX.S e = txF (e.ρ 0).toS := by
      show (Fam.Φ 43 (.p (e.ρ 2) (.s []))).toS = _
      rw [DOk1.h43]
      show Lib.join (strR (e.ρ 2).toR) [] = _
      rw [h2, join_single]
    refine and_B (seq_in (by rw [hj, tx_S]; rfl)) (nlt_in ?_)
    show ¬ (140737488355328 : Int) < (((joX.S e).length : Nat) : Int)
    rw [hj]
    unfold txF
    rw [List.length_map]
    omega
theorem text_lc : lcText.Ok Tryd.prog 41 :=
  LC.Ok.drop (ax := [txPX (.v 0) (.i 0) (.o .rtake .nil (.i 0))]) (LC.Ok.of_treeF (L := Lno 1 invT (mkSub (lenX' (.v 0)) (.v 1))) (lem := Xone 1 lemT) (W := Wtm) (n := 12) (cf := 300) (d := 20) (opn := []) (cls := []) Lno_ok (Xone_ok lemT_ok) CD_ok noT_ok rfl rfl (by kernel_rfl))
    (all_cons' (fun e => (txPX_iff e _ _ _).2 ⟨Int.le_refl _, Int.natCast_nonneg _, by show ([] : List (List A)).take 0 = partsF (List.take 0 (e.ρ 0).toS); rfl⟩) all_nil')
end Go.Proofs.YtjcpcnoakphecaaDoor
