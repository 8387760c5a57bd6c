/-
  Contracts for the devices behind the buffer (HdA). Conditions: none.
-/
import Derived.Test.YtafkhelomlmlpaaGreatDev
set_option linter.unusedSectionVars false
set_option linter.unusedVariables false
set_option linter.unusedSimpArgs false
namespace Go.Proofs.YtafkhelomlmlpaaGreat
open Go Go.AE Go.SX Go.RowKit
set_option maxRecDepth 1000000
/-! The timer: so many master clocks go by. -/
structure GoS where
  n : Int
  ov : Int
  c : Int
  l : Int
def goF (r n ov c l : Int) : GoS :=
  if n < l then ⟨n, ov, c, l⟩ else
    let q := (n - l) / 3072 + 1
    if q ≤ c then ⟨(n - l) % 3072, ov, c - q, 3072⟩ else ⟨(n - l) % 3072, ov + ((q - c - 1) / (r + 1) + 1), r - (q - c - 1) % (r + 1), 3072⟩
theorem goF_step {r n ov c l : Int} (hr : 0 ≤ r) (hc : 0 ≤ c) (hl : l ≤ n) :
    goF r n ov c l = goF r (n - l) (ov + (if c = 0 then 1 else 0)) (if c = 0 then r else c - 1) 3072 := by
  unfold goF
  rw [if_neg (by omega : ¬ n < l)]
  generalize hm : n - l = m
  have h0 : 0 ≤ m := by omega
  by_cases h1 : m < 3072
  · rw [if_pos h1]
    have e1 : m / 3072 = 0 := Int.ediv_eq_zero_of_lt h0 h1
    have e2 : m % 3072 = m := Int.emod_eq_of_lt h0 h1
    simp only [e1, e2]
    by_cases h2 : c = 0
    · subst h2
      simp
    · rw [if_pos (by omega), if_neg h2, if_neg h2]
      simp
  · rw [if_neg h1]
    have e1 : (m - 3072) / 3072 = m / 3072 - 1 := by omega
    have e2 : (m - 3072) % 3072 = m % 3072 := by omega
    simp only [e1, e2]
    generalize hq : m / 3072 = q
    have hq1 : 1 ≤ q := by omega
    by_cases h2 : c = 0
    · subst h2
      simp only [if_true]
      rw [if_neg (by omega)]
      by_cases h3 : q ≤ r
      · rw [if_pos (by omega)]
        have e3 : (q + 1 - 0 - 1) / (r + 1) = 0 := Int.ediv_eq_zero_of_lt (by omega) (by omega)
        have e4 : (q + 1 - 0 - 1) % (r + 1) = q + 1 - 0 - 1 := Int.emod_eq_of_lt (by omega) (by omega)
        rw [e3, e4]
        congr 1 <;> omega
      · rw [if_neg (by omega)]
        have e3 : q + 1 - 0 - 1 = (q - 1 + 1 - r - 1) + (r + 1) := by omega
        have e4 : ((q - 1 + 1 - r - 1) + (r + 1)) / (r + 1) = (q - 1 + 1 - r - 1) / (r + 1) + 1 := by
          rw [Int.add_ediv_of_dvd_right (Int.dvd_refl _), Int.ediv_self (by omega)]
        have e5 : ((q - 1 + 1 - r - 1) + (r + 1)) % (r + 1) = (q - 1 + 1 - r - 1) % (r + 1) := Int.add_emod_right ..
        rw [e3, e4, e5]
        congr 1
        omega
    · rw [if_neg h2, if_neg h2]
      by_cases h3 : q + 1 ≤ c
      · rw [if_pos h3, if_pos (by omega)]
        congr 1 <;> omega
      · rw [if_neg h3, if_neg (by omega)]
        have e3 : q - 1 + 1 - (c - 1) - 1 = q + 1 - c - 1 := by omega
        rw [e3]; congr 1; omega
variable [Fam]
def condGo : X := .u .not (.o .lt (.v 0) (.v 3))
def nextGo : List X := [.o .add (.v 0) (.o .mul (.v 3) (.i (-1))), .o .add (.v 1) (.t .i (.o .eq (.v 2) (.i 0)) (.i 1) (.i 0)), .t .i (.o .eq (.v 2) (.i 0)) (.v 4) (.o .add (.v 2) (.i (-1))), .i 3072]
/-- What the loop comes to. -/
theorem go_fix {d a b c l r : D} (hd : comps 5 d = [a, b, c, l, r]) (hn : 0 ≤ a.toI) (hr : 0 ≤ r.toI) (hr' : r.toI ≤ 127) (hc : 0 ≤ c.toI) (hc' : c.toI ≤ 127) (hl : 1 ≤ l.toI) :
    ∃ a' b' c' l', comps 4 (fixD condGo nextGo 1 d) = [a', b', c', l'] ∧ goF r.toI a.toI b.toI c.toI l.toI = ⟨a'.toI, b'.toI, c'.toI, l'.toI⟩ := by
  obtain ⟨rs, hq, h⟩ := fix_out (cond := condGo) (next := nextGo) (np := 1)
    (R := fun ds => ∃ a b c l, ds = [a, b, c, l, r] ∧ 0 ≤ a.toI ∧ 0 ≤ c.toI ∧ c.toI ≤ 127 ∧ 1 ≤ l.toI)
    (Q := fun ds rs => ∃ a b c l a' b' c' l', ds = [a, b, c, l, r] ∧ rs = [a', b', c', l', r] ∧ goF r.toI a.toI b.toI c.toI l.toI = ⟨a'.toI, b'.toI, c'.toI, l'.toI⟩)
    (μ := fun ds => (ds.getD 0 .u).toI.toNat) hd ⟨a, b, c, l, rfl, hn, hc, hc', hl⟩
    (by
      rintro ds ⟨a, b, c, l, rfl, h1, h2, h3, h4⟩ hcn
      refine ⟨a, b, c, l, a, b, c, l, rfl, rfl, ?_⟩
      have : (!decide (a.toI < l.toI)) = false := hcn
      have : a.toI < l.toI := by simpa using this
      unfold goF
      rw [if_pos this])
    (by
      rintro ds ⟨a, b, c, l, rfl, h1, h2, h3, h4⟩ hcn
      have hcn : (!decide (a.toI < l.toI)) = true := hcn
      have hcn : l.toI ≤ a.toI := by simpa using hcn
      have e1 : stepD nextGo [a, b, c, l, r] = [.i (a.toI + l.toI * (-1)), .i (b.toI + (bif decide (c.toI = 0) then 1 else 0)), .i (bif decide (c.toI = 0) then r.toI else c.toI + (-1)), .i 3072, r] := rfl
      rw [e1]
      have e2 : (bif decide (c.toI = 0) then r.toI else c.toI + (-1)) = if c.toI = 0 then r.toI else c.toI - 1 := by
        by_cases h : c.toI = 0
        · simp [h]
        · simp [h]; omega
      have e3 : (bif decide (c.toI = 0) then (1 : Int) else 0) = if c.toI = 0 then 1 else 0 := by
        by_cases h : c.toI = 0 <;> simp [h]
      have e4 : a.toI + l.toI * (-1) = a.toI - l.toI := by omega
      rw [e2, e3, e4]
      refine ⟨⟨_, _, _, _, rfl, ?_, ?_, ?_, ?_⟩, ?_, ?_⟩
      · show 0 ≤ a.toI - l.toI; omega
      · show 0 ≤ ite _ _ _; split <;> omega
      · show ite _ _ _ ≤ _; split <;> omega
      · show (1 : Int) ≤ 3072; omega
      · show (a.toI - l.toI).toNat < a.toI.toNat; omega
      · rintro rs ⟨_, _, _, _, a', b', c', l', he, rfl, hg⟩
        simp only [List.cons.injEq, and_true] at he
        obtain ⟨rfl, rfl, rfl, rfl⟩ := he
        refine ⟨a, b, c, l, a', b', c', l', rfl, rfl, ?_⟩
        rw [goF_step hr h2 hcn]
        exact hg)
  obtain ⟨_, _, _, _, a', b', c', l', he, rfl, hg⟩ := hq
  simp only [List.cons.injEq, and_true] at he
  obtain ⟨rfl, rfl, rfl, rfl⟩ := he
  exact ⟨a', b', c', l', h, hg⟩
end Go.Proofs.YtafkhelomlmlpaaGreat
