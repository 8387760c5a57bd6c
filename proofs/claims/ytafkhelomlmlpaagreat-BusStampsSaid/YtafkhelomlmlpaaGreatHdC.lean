/-
  Contracts for the devices behind the buffer (HdC). Conditions: none.
-/
import Derived.Test.YtafkhelomlmlpaaGreatHdB
set_option linter.unusedSectionVars false
set_option linter.unusedVariables false
set_option linter.unusedSimpArgs false
namespace Go.Proofs.YtafkhelomlmlpaaGreat
open Go Go.AE Go.SX Go.RowKit
set_option maxRecDepth 1000000
/-! Edges: line, stamp, up; which line is up behind so many; how far one goes to a stamp. -/
def lnI (L : List (List A)) (i : Nat) : Int := IntKind.u8.wrap ((L.getD i []).getD 1 (.i 0)).toI
def stI (L : List (List A)) (i : Nat) : Int := IntKind.i64.wrap ((L.getD i []).getD 0 (.i 0)).toI
def upB (L : List (List A)) (i : Nat) : Bool := ((L.getD i []).getD 2 (.i 0)).toB
def upF (L : List (List A)) (k : Int) : Nat → Bool
  | 0 => false
  | n + 1 => if lnI L n = k then upB L n else upF L k n
def upD (d : D) : D := .b (upF d.fst.toR d.snd.snd.toI d.snd.fst.toI.toNat)
def toF (L : List (List A)) (t : Int) : Nat → Nat → Bool → Nat × Bool
  | 0, s, r => (s, r)
  | k + 1, s, r => if s < L.length ∧ stI L s ≤ t then toF L t k (s + 1) ((lnI L s == 1 && upB L s && !upF L 1 s) || r) else (s, r)
theorem toF_le {L : List (List A)} {t : Int} : ∀ (k s : Nat) (r : Bool), s ≤ L.length → s ≤ (toF L t k s r).1 ∧ (toF L t k s r).1 ≤ L.length
  | 0, s, r, h => ⟨Nat.le_refl _, h⟩
  | k + 1, s, r, h => by
    unfold toF
    split
    · rename_i hc
      have := toF_le (t := t) k (s + 1) ((lnI L s == 1 && upB L s && !upF L 1 s) || r) hc.1
      exact ⟨by omega, this.2⟩
    · exact ⟨Nat.le_refl _, h⟩
def toD (d : D) : D :=
  let L := d.fst.toR
  let s := d.snd.fst.toI.toNat
  let r := toF L d.snd.snd.snd.toI (L.length - s) s d.snd.snd.fst.toB
  .p (.i (clampI 0 (min 1000 (L.length : Nat)) (r.1 : Nat))) (.b r.2)
def okL (L : List (List A)) : Bool := (List.range L.length).all fun i => decide (lnI L i < 4)
theorem okL_lt {L : List (List A)} (h : okL L = true) (i : Nat) : lnI L i < 4 := by
  by_cases hi : i < L.length
  · exact of_decide_eq_true (List.all_eq_true.1 h i (List.mem_range.2 hi))
  · have h0 : L.getD i [] = [] := by rw [List.getD_eq_getElem?_getD, List.getElem?_eq_none (by omega)]; rfl
    unfold lnI
    rw [h0]
    show IntKind.u8.wrap 0 < 4
    decide
/-- What is at an address. -/
def whI (a : Int) : Int := if a / 8192 < 128 then 0 else if 248 ≤ a / 8192 ∧ a / 8192 ≤ 251 then 1 else if a / 8192 ≠ 255 ∨ 6144 ≤ a % 8192 then 2 else 3 + a % 8192 / 1024
variable [Fam]
def cond11 : X := .o .lt (.v 0) (.v 3)
def next11 : List X := [.o .add (.v 0) (.i 1), .t .b (.o .eq (.u (.wrap .u8) (.o (.rI 1) (.v 2) (.v 0))) (.v 4)) (.o (.rB 2) (.v 2) (.v 0)) (.v 1)]
def cond12 : X := .o .and (.o .lt (.v 0) (.u .rlen (.v 2))) (.u .not (.o .lt (.v 3) (.u (.wrap .i64) (.o (.rI 0) (.v 2) (.v 0)))))
def next12 : List X := [.o .add (.v 0) (.i 1), .o .or (.o .and (.o .and (.o .eq (.u (.wrap .u8) (.o (.rI 1) (.v 2) (.v 0))) (.i 1)) (.o (.rB 2) (.v 2) (.v 0))) (.u .not (.ap 0 (.o .pair (.v 2) (.o .pair (.v 0) (.u (.wrap .u8) (.o (.rI 1) (.v 2) (.v 0)))))))) (.v 1)]
def cond13 : X := .o .and (.o .lt (.v 0) (.u .rlen (.v 6))) (.u .not (.o .lt (.v 7) (.u (.wrap .i64) (.o (.rI 0) (.v 6) (.v 0)))))
def next13 : List X := [.o .add (.v 0) (.i 1), (.t .b (.o .eq (.u (.wrap .u8) (.o (.rI 1) (.v 6) (.v 0))) (.i 0)) (.o (.rB 2) (.v 6) (.v 0)) (.v 1)), (.t .b (.o .eq (.u (.wrap .u8) (.o (.rI 1) (.v 6) (.v 0))) (.i 1)) (.o (.rB 2) (.v 6) (.v 0)) (.v 2)), (.t .b (.o .eq (.u (.wrap .u8) (.o (.rI 1) (.v 6) (.v 0))) (.i 2)) (.o (.rB 2) (.v 6) (.v 0)) (.v 3)), (.t .b (.o .eq (.u (.wrap .u8) (.o (.rI 1) (.v 6) (.v 0))) (.i 3)) (.o (.rB 2) (.v 6) (.v 0)) (.v 4)), .o .or (.o .and (.o .and (.o .eq (.u (.wrap .u8) (.o (.rI 1) (.v 6) (.v 0))) (.i 1)) (.o (.rB 2) (.v 6) (.v 0))) (.u .not (.v 2))) (.v 5)]

theorem bif_dec {α : Type} {p : Prop} [Decidable p] {a b : α} : (bif decide p then a else b) = if p then a else b := by
  by_cases h : p <;> simp [h]
theorem succ_toNat {i : Int} (h : 0 ≤ i) : (i + 1).toNat = i.toNat + 1 := by omega
theorem up_fix {d L s k : D} (hd : comps 5 d = [.i 0, .b false, L, s, k]) (hs : 0 ≤ s.toI) :
    ∃ a b, comps 2 (fixD cond11 next11 3 d) = [a, b] ∧ b.toB = upF L.toR k.toI s.toI.toNat := by
  obtain ⟨rs, ⟨a, b, rfl, hb⟩, h⟩ := fix_out (cond := cond11) (next := next11) (np := 3)
    (R := fun ds => ∃ a b, ds = [a, b, L, s, k] ∧ 0 ≤ a.toI ∧ a.toI ≤ s.toI ∧ b.toB = upF L.toR k.toI a.toI.toNat)
    (Q := fun _ rs => ∃ a b, rs = [a, b, L, s, k] ∧ b.toB = upF L.toR k.toI s.toI.toNat)
    (μ := fun ds => (s.toI - (ds.getD 0 .u).toI).toNat) hd ⟨_, _, rfl, Int.le_refl _, hs, rfl⟩
    (by
      rintro ds ⟨a, b, rfl, h0, h1, h2⟩ hcn
      have hcn : decide (a.toI < s.toI) = false := hcn
      have hcn := of_decide_eq_false hcn
      have : a.toI = s.toI := by omega
      exact ⟨a, b, rfl, this ▸ h2⟩)
    (by
      rintro ds ⟨a, b, rfl, h0, h1, h2⟩ hcn
      have hcn : decide (a.toI < s.toI) = true := hcn
      have hcn := of_decide_eq_true hcn
      have e1 : stepD next11 [a, b, L, s, k] = [.i (a.toI + 1), .b (bif decide (lnI L.toR a.toI.toNat = k.toI) then upB L.toR a.toI.toNat else b.toB), L, s, k] := rfl
      rw [e1]
      refine ⟨⟨_, _, rfl, ?_, ?_, ?_⟩, ?_, fun r h => h⟩
      · show 0 ≤ a.toI + 1; omega
      · show a.toI + 1 ≤ _; omega
      · show (bif _ then _ else _) = upF L.toR k.toI (a.toI + 1).toNat
        rw [succ_toNat h0, bif_dec, h2]; rfl
      · show (s.toI - (a.toI + 1)).toNat < (s.toI - a.toI).toNat
        omega)
  exact ⟨a, b, h, hb⟩
theorem to_fix {d s r L t : D} (h0 : ∀ d, Fam.Φ 0 d = upD d) (hd : comps 4 d = [s, r, L, t]) (hs : 0 ≤ s.toI) :
    ∃ a b, comps 2 (fixD cond12 next12 2 d) = [a, b] ∧ 0 ≤ a.toI ∧ (a.toI.toNat, b.toB) = toF L.toR t.toI (L.toR.length - s.toI.toNat) s.toI.toNat r.toB := by
  obtain ⟨rs, ⟨s', r', a, b, he, rfl, hb⟩, h⟩ := fix_out (cond := cond12) (next := next12) (np := 2)
    (R := fun ds => ∃ a b, ds = [a, b, L, t] ∧ 0 ≤ a.toI)
    (Q := fun ds rs => ∃ s r a b, ds = [s, r, L, t] ∧ rs = [a, b, L, t] ∧ 0 ≤ a.toI ∧ (a.toI.toNat, b.toB) = toF L.toR t.toI (L.toR.length - s.toI.toNat) s.toI.toNat r.toB)
    (μ := fun ds => L.toR.length - (ds.getD 0 .u).toI.toNat) hd ⟨_, _, rfl, hs⟩
    (by
      rintro ds ⟨a, b, rfl, h0⟩ hcn
      have hcn : (decide (a.toI < ((L.toR.length : Nat) : Int)) && !decide (t.toI < stI L.toR a.toI.toNat)) = false := hcn
      refine ⟨a, b, a, b, rfl, rfl, h0, ?_⟩
      cases hk : L.toR.length - a.toI.toNat with
      | zero => rfl
      | succ k =>
        unfold toF
        have h1 : a.toI.toNat < L.toR.length := by omega
        have h2 : decide (a.toI < ((L.toR.length : Nat) : Int)) = true := by rw [decide_eq_true_eq]; omega
        rw [h2, Bool.true_and, Bool.not_eq_false', decide_eq_true_eq] at hcn
        rw [if_neg (by omega)])
    (by
      rintro ds ⟨a, b, rfl, h1⟩ hcn
      have hcn : (decide (a.toI < ((L.toR.length : Nat) : Int)) && !decide (t.toI < stI L.toR a.toI.toNat)) = true := hcn
      simp only [Bool.and_eq_true, decide_eq_true_eq, Bool.not_eq_true', decide_eq_false_iff_not] at hcn
      have e1 : stepD next12 [a, b, L, t] = [.i (a.toI + 1), .b (((decide (lnI L.toR a.toI.toNat = 1) && upB L.toR a.toI.toNat) && !(Fam.Φ 0 (.p L (.p a (.i (lnI L.toR a.toI.toNat))))).toB) || b.toB), L, t] := rfl
      rw [e1, h0]
      refine ⟨⟨_, _, rfl, by show 0 ≤ a.toI + 1; omega⟩, ?_, ?_⟩
      · show L.toR.length - (a.toI + 1).toNat < L.toR.length - a.toI.toNat
        omega
      · rintro rs ⟨s', r', a', b', he, rfl, h2, h3⟩
        simp only [List.cons.injEq, and_true] at he
        obtain ⟨rfl, rfl⟩ := he
        refine ⟨a, b, a', b', rfl, rfl, h2, h3.trans ?_⟩
        have e2 : L.toR.length - a.toI.toNat = (L.toR.length - (a.toI + 1).toNat) + 1 := by omega
        rw [e2]
        conv => rhs; unfold toF
        rw [if_pos (by omega)]
        show toF L.toR t.toI (L.toR.length - (a.toI + 1).toNat) (a.toI + 1).toNat (((decide (lnI L.toR a.toI.toNat = 1) && upB L.toR a.toI.toNat) && !upF L.toR (lnI L.toR a.toI.toNat) a.toI.toNat) || b.toB) = _
        rw [succ_toNat h1]
        congr 2
        by_cases h4 : lnI L.toR a.toI.toNat = 1
        · rw [h4]; rfl
        · have h5 : (lnI L.toR a.toI.toNat == 1) = false := beq_false_of_ne h4
          rw [h5, decide_eq_false h4]; rfl)
  simp only [List.cons.injEq, and_true] at he
  obtain ⟨rfl, rfl⟩ := he
  exact ⟨a, b, h, hb⟩
theorem to1_fix {d s u0 u1 u2 u3 r L t : D} (hd : comps 8 d = [s, u0, u1, u2, u3, r, L, t]) (hs : 0 ≤ s.toI)
    (hu0 : u0.toB = upF L.toR 0 s.toI.toNat) (hu1 : u1.toB = upF L.toR 1 s.toI.toNat) (hu2 : u2.toB = upF L.toR 2 s.toI.toNat) (hu3 : u3.toB = upF L.toR 3 s.toI.toNat) :
    ∃ a b0 b1 b2 b3 b, comps 6 (fixD cond13 next13 2 d) = [a, b0, b1, b2, b3, b] ∧ 0 ≤ a.toI ∧ (a.toI.toNat, b.toB) = toF L.toR t.toI (L.toR.length - s.toI.toNat) s.toI.toNat r.toB ∧
      b0.toB = upF L.toR 0 a.toI.toNat ∧ b1.toB = upF L.toR 1 a.toI.toNat ∧ b2.toB = upF L.toR 2 a.toI.toNat ∧ b3.toB = upF L.toR 3 a.toI.toNat := by
  obtain ⟨rs, ⟨s', r', _, _, _, _, a, b0, b1, b2, b3, b, he, rfl, hb⟩, h⟩ := fix_out (cond := cond13) (next := next13) (np := 2)
    (R := fun ds => ∃ a b0 b1 b2 b3 b, ds = [a, b0, b1, b2, b3, b, L, t] ∧ 0 ≤ a.toI ∧ b0.toB = upF L.toR 0 a.toI.toNat ∧ b1.toB = upF L.toR 1 a.toI.toNat ∧ b2.toB = upF L.toR 2 a.toI.toNat ∧ b3.toB = upF L.toR 3 a.toI.toNat)
    (Q := fun ds rs => ∃ s r u0 u1 u2 u3 a b0 b1 b2 b3 b, ds = [s, u0, u1, u2, u3, r, L, t] ∧ rs = [a, b0, b1, b2, b3, b, L, t] ∧ 0 ≤ a.toI ∧ (a.toI.toNat, b.toB) = toF L.toR t.toI (L.toR.length - s.toI.toNat) s.toI.toNat r.toB ∧
      b0.toB = upF L.toR 0 a.toI.toNat ∧ b1.toB = upF L.toR 1 a.toI.toNat ∧ b2.toB = upF L.toR 2 a.toI.toNat ∧ b3.toB = upF L.toR 3 a.toI.toNat)
    (μ := fun ds => L.toR.length - (ds.getD 0 .u).toI.toNat) hd ⟨_, _, _, _, _, _, rfl, hs, hu0, hu1, hu2, hu3⟩
    (by
      rintro ds ⟨a, b0, b1, b2, b3, b, rfl, h0, hu⟩ hcn
      have hcn : (decide (a.toI < ((L.toR.length : Nat) : Int)) && !decide (t.toI < stI L.toR a.toI.toNat)) = false := hcn
      refine ⟨a, b, b0, b1, b2, b3, a, b0, b1, b2, b3, b, rfl, rfl, h0, ?_, hu⟩
      cases hk : L.toR.length - a.toI.toNat with
      | zero => rfl
      | succ k =>
        unfold toF
        have h1 : a.toI.toNat < L.toR.length := by omega
        have h2 : decide (a.toI < ((L.toR.length : Nat) : Int)) = true := by rw [decide_eq_true_eq]; omega
        rw [h2, Bool.true_and, Bool.not_eq_false', decide_eq_true_eq] at hcn
        rw [if_neg (by omega)])
    (by
      rintro ds ⟨a, b0, b1, b2, b3, b, rfl, h1, v0, v1, v2, v3⟩ hcn
      have hcn : (decide (a.toI < ((L.toR.length : Nat) : Int)) && !decide (t.toI < stI L.toR a.toI.toNat)) = true := hcn
      simp only [Bool.and_eq_true, decide_eq_true_eq, Bool.not_eq_true', decide_eq_false_iff_not] at hcn
      have e1 : stepD next13 [a, b0, b1, b2, b3, b, L, t] = [.i (a.toI + 1), .b (bif decide (lnI L.toR a.toI.toNat = 0) then upB L.toR a.toI.toNat else b0.toB), .b (bif decide (lnI L.toR a.toI.toNat = 1) then upB L.toR a.toI.toNat else b1.toB), .b (bif decide (lnI L.toR a.toI.toNat = 2) then upB L.toR a.toI.toNat else b2.toB), .b (bif decide (lnI L.toR a.toI.toNat = 3) then upB L.toR a.toI.toNat else b3.toB),
        .b (((decide (lnI L.toR a.toI.toNat = 1) && upB L.toR a.toI.toNat) && !b1.toB) || b.toB), L, t] := rfl
      have key : ∀ (k : Int) (c : Bool), c = upF L.toR k a.toI.toNat → (bif decide (lnI L.toR a.toI.toNat = k) then upB L.toR a.toI.toNat else c) = upF L.toR k (a.toI + 1).toNat := by
        intro k c hc
        rw [succ_toNat h1, bif_dec, hc]; rfl
      rw [e1]
      refine ⟨⟨_, _, _, _, _, _, rfl, by show 0 ≤ a.toI + 1; omega, key 0 _ v0, key 1 _ v1, key 2 _ v2, key 3 _ v3⟩, ?_, ?_⟩
      · show L.toR.length - (a.toI + 1).toNat < L.toR.length - a.toI.toNat
        omega
      · rintro rs ⟨s', r', _, _, _, _, a', c0, c1, c2, c3, c, he, rfl, h2, h3, h4⟩
        simp only [List.cons.injEq, and_true] at he
        obtain ⟨rfl, rfl, rfl, rfl, rfl, rfl⟩ := he
        refine ⟨a, b, b0, b1, b2, b3, a', c0, c1, c2, c3, c, rfl, rfl, h2, h3.trans ?_, h4⟩
        have e2 : L.toR.length - a.toI.toNat = (L.toR.length - (a.toI + 1).toNat) + 1 := by omega
        rw [e2]
        conv => rhs; unfold toF
        rw [if_pos (by omega)]
        show toF L.toR t.toI (L.toR.length - (a.toI + 1).toNat) (a.toI + 1).toNat (((decide (lnI L.toR a.toI.toNat = 1) && upB L.toR a.toI.toNat) && !b1.toB) || b.toB) = _
        rw [succ_toNat h1, v1]
        congr 2)
  simp only [List.cons.injEq, and_true] at he
  obtain ⟨rfl, rfl, rfl, rfl, rfl, rfl⟩ := he
  exact ⟨a, b0, b1, b2, b3, b, h, hb⟩
end Go.Proofs.YtafkhelomlmlpaaGreat
