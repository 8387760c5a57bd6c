/-
  Whether edges may be: both checks have one answer. Conditions: none.
-/
import Derived.Test.YtnibdhcfkjmnaaaGreatHdE
set_option linter.unusedSectionVars false
set_option linter.unusedVariables false
set_option linter.unusedSimpArgs false
namespace Go.Proofs.YtnibdhcfkjmnaaaGreat
open Go Go.AE Go.SX Go.RowKit
set_option maxRecDepth 1000000
/-- Is an edge wrong, behind an earlier stamp? -/
def badE (L : List (List A)) (i : Nat) (ahead : Int) : Bool := decide (¬ lnI L i < 4) || (decide (stI L i < ahead) || decide (26388279066624 < stI L i))
/-- The first edge that is wrong, from the i-th on; how many there are, if none is. -/
def badF (L : List (List A)) : Nat → Nat → Int → Nat
  | 0, i, _ => i
  | k + 1, i, a => if i < L.length ∧ badE L i a = false then badF L k (i + 1) (stI L i) else i
def aheadI (L : List (List A)) (i : Nat) : Int := if i = 0 then 0 else stI L (i - 1)
theorem badF_ge {L : List (List A)} : ∀ (k i : Nat) (a : Int), i ≤ badF L k i a ∧ badF L k i a ≤ i + k
  | 0, i, _ => ⟨Nat.le_refl _, Nat.le_refl _⟩
  | k + 1, i, a => by
    unfold badF
    split
    · have := badF_ge (L := L) k (i + 1) (stI L i)
      omega
    · omega
section
variable [Fam]
def lnX (l i : X) : X := .u (.wrap .u8) (.o (.rI 1) l i)
def stX (l i : X) : X := .u (.wrap .i64) (.o (.rI 0) l i)
def badX (l i a : X) : X := .o .or (.u .not (.o .lt (lnX l i) (.i 4))) (.o .or (.o .lt (stX l i) a) (.o .lt (.i 26388279066624) (stX l i)))
def cond14 : X := .o .and (.o .lt (.v 0) (.u .rlen (.v 2))) (.u .not (badX (.v 2) (.v 0) (.v 1)))
def next14 : List X := [.o .add (.v 0) (.i 1), stX (.v 2) (.v 0)]
def worseX : X := .o .or (.o .or (.o .lt (stX (.v 1) (.v 0)) (.i 0)) (.o .lt (.i 26388279066624) (stX (.v 1) (.v 0)))) (.o .and (.o .lt (.i 0) (.v 0)) (.o .lt (stX (.v 1) (.v 0)) (stX (.v 1) (.o .add (.v 0) (.i (-1))))))
def cond15 : X := .o .and (.o .lt (.v 0) (.u .rlen (.v 1))) (.o .and (.u .not (.o .lt (.i 3) (lnX (.v 1) (.v 0)))) (.u .not worseX))
def next15 : List X := [.o .add (.v 0) (.i 1)]
theorem ck14_fix {d a b L : D} (hd : comps 3 d = [a, b, L]) (h0 : 0 ≤ a.toI) :
    ∃ a' b', comps 2 (fixD cond14 next14 1 d) = [a', b'] ∧ a'.toI = ((badF L.toR (L.toR.length - a.toI.toNat) a.toI.toNat b.toI : Nat) : Int) := by
  obtain ⟨rs, ⟨a0, b0, a', b', he, rfl, hq⟩, h⟩ := fix_out (cond := cond14) (next := next14) (np := 1)
    (R := fun ds => ∃ a b, ds = [a, b, L] ∧ 0 ≤ a.toI)
    (Q := fun ds rs => ∃ a b a' b', ds = [a, b, L] ∧ rs = [a', b', L] ∧ a'.toI = ((badF L.toR (L.toR.length - a.toI.toNat) a.toI.toNat b.toI : Nat) : Int))
    (μ := fun ds => L.toR.length - (ds.getD 0 .u).toI.toNat) hd ⟨a, b, rfl, h0⟩
    (by
      rintro ds ⟨a, b, rfl, h0⟩ hcn
      have hcn : (decide (a.toI < ((L.toR.length : Nat) : Int)) && !((!decide (lnI L.toR a.toI.toNat < 4)) || (decide (stI L.toR a.toI.toNat < b.toI) || decide (26388279066624 < stI L.toR a.toI.toNat)))) = false := hcn
      refine ⟨a, b, a, b, rfl, rfl, ?_⟩
      cases hk : L.toR.length - a.toI.toNat with
      | zero => show a.toI = ((a.toI.toNat : Nat) : Int); omega
      | succ k =>
        unfold badF
        have h1 : a.toI < ((L.toR.length : Nat) : Int) := by omega
        rw [decide_eq_true h1, Bool.true_and, Bool.not_eq_false'] at hcn
        have hb : badE L.toR a.toI.toNat b.toI = true := by
          unfold badE
          rw [← hcn]
          by_cases h : lnI L.toR a.toI.toNat < 4 <;> simp [h]
        rw [if_neg (by rw [hb]; simp)]
        omega)
    (by
      rintro ds ⟨a, b, rfl, h1⟩ hcn
      have hcn : (decide (a.toI < ((L.toR.length : Nat) : Int)) && !((!decide (lnI L.toR a.toI.toNat < 4)) || (decide (stI L.toR a.toI.toNat < b.toI) || decide (26388279066624 < stI L.toR a.toI.toNat)))) = true := hcn
      rw [Bool.and_eq_true, Bool.not_eq_true'] at hcn
      have h2 := of_decide_eq_true hcn.1
      have hb : badE L.toR a.toI.toNat b.toI = false := by
        unfold badE
        rw [← hcn.2]
        by_cases h : lnI L.toR a.toI.toNat < 4 <;> simp [h]
      have e1 : stepD next14 [a, b, L] = [.i (a.toI + 1), .i (stI L.toR a.toI.toNat), L] := rfl
      rw [e1]
      refine ⟨⟨_, _, rfl, by show 0 ≤ a.toI + 1; omega⟩, ?_, ?_⟩
      · show L.toR.length - (a.toI + 1).toNat < L.toR.length - a.toI.toNat
        omega
      · rintro rs ⟨a1, b1, a', b', he, rfl, hq⟩
        simp only [List.cons.injEq, and_true] at he
        obtain ⟨rfl, rfl⟩ := he
        refine ⟨a, b, a', b', rfl, rfl, hq.trans ?_⟩
        have e2 : L.toR.length - a.toI.toNat = (L.toR.length - (a.toI + 1).toNat) + 1 := by omega
        rw [e2]
        conv => rhs; unfold badF
        rw [if_pos ⟨by omega, hb⟩]
        show ((badF L.toR (L.toR.length - (a.toI + 1).toNat) (a.toI + 1).toNat (stI L.toR a.toI.toNat) : Nat) : Int) = _
        rw [succ_toNat h1])
  simp only [List.cons.injEq, and_true] at he
  obtain ⟨rfl, rfl⟩ := he
  exact ⟨a', b', h, hq⟩
theorem ck15_fix {d a L : D} (hd : comps 2 d = [a, L]) (h0 : 0 ≤ a.toI) (ha : 0 < a.toI → 0 ≤ stI L.toR (a.toI.toNat - 1)) :
    ∃ a', comps 1 (fixD cond15 next15 1 d) = [a'] ∧ a'.toI = ((badF L.toR (L.toR.length - a.toI.toNat) a.toI.toNat (aheadI L.toR a.toI.toNat) : Nat) : Int) := by
  have same : ∀ a : D, 0 ≤ a.toI → (0 < a.toI → 0 ≤ stI L.toR (a.toI.toNat - 1)) → cond15.B (envOf [a, L]) = (decide (a.toI < ((L.toR.length : Nat) : Int)) && !badE L.toR a.toI.toNat (aheadI L.toR a.toI.toNat)) := by
    intro a h0 ha
    have hp : (a.toI + (-1)).toNat = a.toI.toNat - 1 := by omega
    show (decide (a.toI < ((L.toR.length : Nat) : Int)) && ((!decide (3 < lnI L.toR a.toI.toNat)) && !((decide (stI L.toR a.toI.toNat < 0) || decide (26388279066624 < stI L.toR a.toI.toNat)) || (decide (0 < a.toI) && decide (stI L.toR a.toI.toNat < stI L.toR (a.toI + (-1)).toNat))))) = _
    rw [hp]
    congr 1
    unfold badE aheadI
    rw [Bool.eq_iff_iff]
    by_cases hz : a.toI = 0
    · have hz' : a.toI.toNat = 0 := by omega
      rw [hz', if_pos rfl]
      simp only [hz, Bool.and_eq_true, Bool.not_eq_true', Bool.or_eq_false_iff, decide_eq_false_iff_not, Bool.and_eq_false_imp, decide_eq_true_eq]
      constructor
      · rintro ⟨h1, ⟨h2, h3⟩, _⟩; exact ⟨by omega, h2, h3⟩
      · rintro ⟨h1, h2, h3⟩; exact ⟨by omega, ⟨h2, h3⟩, fun h => by omega⟩
    · have hz' : ¬ a.toI.toNat = 0 := by omega
      rw [if_neg hz']
      have := ha (by omega)
      simp only [Bool.and_eq_true, Bool.not_eq_true', Bool.or_eq_false_iff, decide_eq_false_iff_not, Bool.and_eq_false_imp, decide_eq_true_eq]
      constructor
      · rintro ⟨h1, ⟨h2, h3⟩, h4⟩; exact ⟨by omega, h4 (by omega), h3⟩
      · rintro ⟨h1, h2, h3⟩; exact ⟨by omega, ⟨by omega, h3⟩, fun _ => h2⟩
  obtain ⟨rs, ⟨a0, a', he, rfl, hq⟩, h⟩ := fix_out (cond := cond15) (next := next15) (np := 1)
    (R := fun ds => ∃ a, ds = [a, L] ∧ 0 ≤ a.toI ∧ (0 < a.toI → 0 ≤ stI L.toR (a.toI.toNat - 1)))
    (Q := fun ds rs => ∃ a a', ds = [a, L] ∧ rs = [a', L] ∧ a'.toI = ((badF L.toR (L.toR.length - a.toI.toNat) a.toI.toNat (aheadI L.toR a.toI.toNat) : Nat) : Int))
    (μ := fun ds => L.toR.length - (ds.getD 0 .u).toI.toNat) hd ⟨a, rfl, h0, ha⟩
    (by
      rintro ds ⟨a, rfl, h0, ha⟩ hcn
      rw [same a h0 ha] at hcn
      refine ⟨a, a, rfl, rfl, ?_⟩
      cases hk : L.toR.length - a.toI.toNat with
      | zero => show a.toI = ((a.toI.toNat : Nat) : Int); omega
      | succ k =>
        unfold badF
        have h1 : a.toI < ((L.toR.length : Nat) : Int) := by omega
        rw [decide_eq_true h1, Bool.true_and, Bool.not_eq_false'] at hcn
        rw [if_neg (by rw [hcn]; simp)]
        omega)
    (by
      rintro ds ⟨a, rfl, h1, ha⟩ hcn
      rw [same a h1 ha, Bool.and_eq_true, Bool.not_eq_true'] at hcn
      have h2 := of_decide_eq_true hcn.1
      have hb := hcn.2
      have hst : 0 ≤ stI L.toR a.toI.toNat := by
        have hb' := hb
        unfold badE aheadI at hb'
        simp only [Bool.or_eq_false_iff, decide_eq_false_iff_not] at hb'
        have h3 := hb'.2.1
        split at h3
        · omega
        · have := ha (by omega); omega
      have e1 : stepD next15 [a, L] = [.i (a.toI + 1), L] := rfl
      rw [e1]
      refine ⟨⟨_, rfl, by show 0 ≤ a.toI + 1; omega, fun _ => ?_⟩, ?_, ?_⟩
      · show 0 ≤ stI L.toR ((a.toI + 1).toNat - 1)
        rw [succ_toNat h1]; exact hst
      · show L.toR.length - (a.toI + 1).toNat < L.toR.length - a.toI.toNat
        omega
      · rintro rs ⟨a1, a', he, rfl, hq⟩
        simp only [List.cons.injEq, and_true] at he
        obtain rfl := he
        refine ⟨a, a', rfl, rfl, hq.trans ?_⟩
        have e2 : L.toR.length - a.toI.toNat = (L.toR.length - (a.toI + 1).toNat) + 1 := by omega
        rw [e2]
        conv => rhs; unfold badF
        rw [if_pos ⟨by omega, hb⟩]
        show ((badF L.toR (L.toR.length - (a.toI + 1).toNat) (a.toI + 1).toNat (aheadI L.toR (a.toI + 1).toNat) : Nat) : Int) = _
        rw [succ_toNat h1]
        rfl)
  simp only [List.cons.injEq, and_true] at he
  obtain rfl := he
  exact ⟨a', h, hq⟩
end
variable [HF]
def mE : SMem := [some ⟨.rw eK (.v 0), 0, false, false⟩]
def aE : List SV := [.z (.sl 0 (.i 0) 0 0 (.u .rlen (.v 0)) (.u .rlen (.v 0)))]
def fsE : List Fact := [⟨.u .rlen (.v 0), ⟨some 0, some 9223372036854775807⟩⟩]
/-- The answer, by the place where it ended and the stamp ahead of it. -/
def ckV (i : X) : SV := .a (.ag [
  .z (.i .i64 (.t .i (.o .lt (.i 1000) (.u .rlen (.v 0))) (.i 2) (.t .i (.o .lt i (.u .rlen (.v 0))) (.t .i (.o .lt (lnX (.v 0) i) (.i 4)) (.i 7) (.i 8)) (.i 0)))),
  .z (.i .i64 (.t .i (.o .lt (.i 1000) (.u .rlen (.v 0))) (.i 1000) (.t .i (.o .lt i (.u .rlen (.v 0))) i (.i 0))))])
def ckLC (i : X) : LC := ⟨1, aE, mE, fsE, [], ckV i, mE⟩
def Wck : FuncId → Nat → List (Hint Tryz.prog) := fun n _ => bif Nat.beq n 116 then [.t 13 (some 0) (some 1000), .t 3 none none] else bif Nat.beq n 54 then [.t 3 (some 0) (some 1000)] else []
def fn14 : LFn := ⟨14, [.v 0], cond14, next14⟩
def ap14 : X := .ap 14 (packX [.i 0, .i 0, .v 0])
def inv14 : X := .u .not (.o .lt (.u .rlen (.v 0)) (.v 1))
def L14 : Nat → Option LJ := Lone 1 ⟨inv14, .o .add (.u .rlen (.v 0)) (.o .mul (.v 1) (.i (-1))), some fn14⟩
def fn15 : LFn := ⟨15, [.v 0], cond15, next15⟩
def ap15 : X := .ap 15 (packX [.i 0, .v 0])
def L15 : Nat → Option LJ := Lone 1 ⟨inv14, .o .add (.u .rlen (.v 0)) (.o .mul (.v 1) (.i (-1))), some fn15⟩
class HOk4 : Prop where
  h8 : ∀ d, Fam.Φ 8 d = .i ((badF d.toR d.toR.length 0 0 : Nat) : Int)
  h14 : ∀ d, Fam.Φ 14 d = fixD cond14 next14 1 d
  h15 : ∀ d, Fam.Φ 15 d = fixD cond15 next15 1 d
variable [HOk1] [HOk4]
theorem ck1 : (ckLC (.u .fst ap14)).Ok Tryz.prog 116 :=
  LC.Ok.of_treeF (L := L14) (lem := noX) (W := Wck) (n := 12) (cf := 300) (d := 20) (opn := []) (cls := []) (Lone_ok (lj_ok rfl rfl rfl HOk4.h14)) (fun _ _ h => by cases h) CI_ok noT_ok rfl rfl (by kernel_rfl)
theorem ck2 : (ckLC ap15).Ok Tryz.prog 54 :=
  LC.Ok.of_treeF (L := L15) (lem := noX) (W := Wck) (n := 12) (cf := 300) (d := 20) (opn := []) (cls := []) (Lone_ok (lj_ok rfl rfl rfl HOk4.h15)) (fun _ _ h => by cases h) CI_ok noT_ok rfl rfl (by kernel_rfl)
def ckG (L : List (List A)) (n : Int) : Value := .agg ⟨[
  .int .i64 (bif decide (1000 < ((L.length : Nat) : Int)) then 2 else bif decide (n < ((L.length : Nat) : Int)) then (bif decide (lnI L n.toNat < 4) then 7 else 8) else 0),
  .int .i64 (bif decide (1000 < ((L.length : Nat) : Int)) then 1000 else bif decide (n < ((L.length : Nat) : Int)) then n else 0)]⟩
theorem ckV_den (e : En) (i : X) : (ckV i).den e = ckG (e.ρ 0).toR (i.I e) := rfl
theorem ckV_eq {e : En} {i i' : X} (h : i.I e = i'.I e) : (ckV i).den e = (ckV i').den e := by
  rw [ckV_den, ckV_den, h]
def lcCk : LC := ckLC (.ap 8 (.v 0))
theorem ck_conv {x : X} {f : FuncId} (h : (ckLC x).Ok Tryz.prog f) (hx : ∀ L : D, x.I (envOf [L]) = ((badF L.toR L.toR.length 0 0 : Nat) : Int)) : lcCk.Ok Tryz.prog f := by
  refine h.conv rfl rfl rfl fun ds hl hf ha => ⟨hf, ha, ?_, rfl⟩
  obtain ⟨L, rfl⟩ : ∃ L, ds = [L] := by
    match ds, hl with
    | [a], _ => exact ⟨a, rfl⟩
  refine ckV_eq ?_
  rw [hx]
  show _ = (Fam.Φ 8 L).toI
  rw [HOk4.h8]; rfl
theorem ckA : lcCk.Ok Tryz.prog 116 := ck_conv ck1 fun L => by
  obtain ⟨a', b', h, hq⟩ := ck14_fix (a := .i 0) (b := .i 0) (L := L) (d := .p (.i 0) (.p (.i 0) L)) rfl (Int.le_refl _)
  show (Fam.Φ 14 (.p (.i 0) (.p (.i 0) L))).fst.toI = _
  rw [HOk4.h14]
  have h : [(fixD cond14 next14 1 (.p (.i 0) (.p (.i 0) L))).fst, (fixD cond14 next14 1 (.p (.i 0) (.p (.i 0) L))).snd] = [a', b'] := h
  simp only [List.cons.injEq, and_true] at h
  rw [h.1, hq]; rfl
theorem ckB : lcCk.Ok Tryz.prog 54 := ck_conv ck2 fun L => by
  obtain ⟨a', h, hq⟩ := ck15_fix (a := .i 0) (L := L) (d := .p (.i 0) L) rfl (Int.le_refl _) (fun h => by cases h)
  show (Fam.Φ 15 (.p (.i 0) L)).toI = _
  rw [HOk4.h15]
  have h : [fixD cond15 next15 1 (.p (.i 0) L)] = [a'] := h
  simp only [List.cons.injEq, and_true] at h
  rw [h, hq]; rfl
end Go.Proofs.YtnibdhcfkjmnaaaGreat
