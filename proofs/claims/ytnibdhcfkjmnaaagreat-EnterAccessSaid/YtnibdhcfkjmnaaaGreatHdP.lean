/-
  Plain laws of going on: in parts it is as at once. Conditions: none.
-/
import Derived.Test.YtnibdhcfkjmnaaaGreatHdC
set_option linter.unusedSectionVars false
set_option linter.unusedVariables false
set_option linter.unusedSimpArgs false
namespace Go.Proofs.YtnibdhcfkjmnaaaGreat
open Go Go.AE Go.SX Go.RowKit
/-- How often over, the counter, what is left. -/
def goV (r n ov c l : Int) : Int × Int × Int := ((goF r n ov c l).ov, (goF r n ov c l).c, (goF r n ov c l).l - (goF r n ov c l).n)
theorem goV_step {r n ov c l : Int} (hr : 0 ≤ r) (hc : 0 ≤ c) (hl : l ≤ n) :
    goV r n ov c l = goV r (n - l) (ov + (if c = 0 then 1 else 0)) (if c = 0 then r else c - 1) 3072 := by
  unfold goV
  rw [goF_step hr hc hl]
theorem goV_lt {r n ov c l : Int} (h : n < l) : goV r n ov c l = (ov, c, l - n) := by
  unfold goV goF
  rw [if_pos h]
theorem goV_add : ∀ (k : Nat) {r n1 n2 ov c l : Int}, n1.toNat < k → 0 ≤ r → 0 ≤ c → 1 ≤ l → 0 ≤ n1 → 0 ≤ n2 →
    goV r (n1 + n2) ov c l = goV r n2 (goV r n1 ov c l).1 (goV r n1 ov c l).2.1 (goV r n1 ov c l).2.2
  | 0, _, _, _, _, _, _, h, _, _, _, _, _ => absurd h (Nat.not_lt_zero _)
  | k + 1, r, n1, n2, ov, c, l, hk, hr, hc, hl, h1, h2 => by
    by_cases h : n1 < l
    · rw [goV_lt h]
      show _ = goV r n2 ov c (l - n1)
      by_cases h3 : n1 + n2 < l
      · rw [goV_lt h3, goV_lt (by omega)]
        congr 2; omega
      · rw [goV_step hr hc (by omega), goV_step (l := l - n1) hr hc (by omega)]
        congr 1; omega
    · rw [goV_step hr hc (by omega : l ≤ n1 + n2), goV_step hr hc (by omega : l ≤ n1)]
      have e1 : n1 + n2 - l = (n1 - l) + n2 := by omega
      rw [e1]
      exact goV_add k (by omega) hr (by split <;> omega) (by omega) (by omega) h2
theorem goV_ov {r n ov c l k : Int} : goV r n (ov + k) c l = ((goV r n ov c l).1 + k, (goV r n ov c l).2.1, (goV r n ov c l).2.2) := by
  unfold goV goF
  by_cases h : n < l
  · simp only [if_pos h]
  · simp only [if_neg h]
    by_cases h1 : (n - l) / 3072 + 1 ≤ c
    · simp only [if_pos h1]
    · simp only [if_neg h1]
      congr 1; omega
theorem goV_ov_nonneg {r n c l : Int} (hr : 0 ≤ r) (hn : 0 ≤ n) (hl : 1 ≤ l) : 0 ≤ (goV r n 0 c l).1 := by
  unfold goV goF
  by_cases h : n < l
  · simp only [if_pos h]; omega
  · simp only [if_neg h]
    by_cases h1 : (n - l) / 3072 + 1 ≤ c
    · simp only [if_pos h1]; omega
    · simp only [if_neg h1]
      have : 0 ≤ ((n - l) / 3072 + 1 - c - 1) / (r + 1) := Int.ediv_nonneg (by omega) (by omega)
      omega
theorem goC_eq {r c l n : Int} (hn : 0 ≤ n) : goC true r c l n = goV r n 0 c l := by
  show ((goF r n 0 c l).ov, (goF r n 0 c l).c, if 0 < (goF r n 0 c l).n then (goF r n 0 c l).l - (goF r n 0 c l).n else (goF r n 0 c l).l) = _
  unfold goV
  congr 2
  have h0 : 0 ≤ (goF r n 0 c l).n := by
    unfold goF
    have := Int.emod_nonneg (n - l) (b := 3072) (by omega)
    split
    · exact hn
    · simp only
      split <;> exact this
  split <;> omega
/-- In parts it is as at once: the timer. -/
theorem goC_add {on : Bool} {r c l n1 n2 : Int} (hr : 0 ≤ r) (hc : 0 ≤ c) (hl : 1 ≤ l) (h1 : 0 ≤ n1) (h2 : 0 ≤ n2) :
    goC on r c l (n1 + n2) = ((goC on r c l n1).1 + (goC on r (goC on r c l n1).2.1 (goC on r c l n1).2.2 n2).1, (goC on r (goC on r c l n1).2.1 (goC on r c l n1).2.2 n2).2) := by
  cases on with
  | false => rfl
  | true =>
    rw [goC_eq (by omega : 0 ≤ n1 + n2), goC_eq h1, goC_eq h2, goV_add (n1.toNat + 1) (by omega) hr hc hl h1 h2]
    have h := goV_ov (r := r) (n := n2) (ov := 0) (c := (goV r n1 0 c l).2.1) (l := (goV r n1 0 c l).2.2) (k := (goV r n1 0 c l).1)
    rw [Int.zero_add] at h
    rw [h]
    refine Prod.ext ?_ rfl
    show _ + _ = _ + _
    omega
theorem goC_zero {on : Bool} {r c l : Int} (hl : 1 ≤ l) : goC on r c l 0 = (0, c, l) := by
  cases on with
  | false => rfl
  | true =>
    rw [goC_eq (Int.le_refl _), goV_lt (by omega)]
    congr 2; omega
/-- In parts it is as at once: the lines. -/
theorem toF_add {L : List (List A)} {t1 t2 : Int} (ht : t1 ≤ t2) : ∀ (k s : Nat) (r : Bool), k = L.length - s →
    toF L t2 k s r = toF L t2 (L.length - (toF L t1 k s r).1) (toF L t1 k s r).1 (toF L t1 k s r).2
  | 0, s, r, h => by
    show (s, r) = toF L t2 (L.length - s) s r
    rw [← h]; rfl
  | k + 1, s, r, h => by
    by_cases hc : s < L.length ∧ stI L s ≤ t1
    · have e1 : toF L t1 (k + 1) s r = toF L t1 k (s + 1) ((lnI L s == 1 && upB L s && !upF L 1 s) || r) := by
        conv => lhs; unfold toF
        rw [if_pos hc]
      have e2 : toF L t2 (k + 1) s r = toF L t2 k (s + 1) ((lnI L s == 1 && upB L s && !upF L 1 s) || r) := by
        conv => lhs; unfold toF
        rw [if_pos ⟨hc.1, by omega⟩]
      rw [e1, e2]
      exact toF_add ht k (s + 1) _ (by omega)
    · have e1 : toF L t1 (k + 1) s r = (s, r) := by
        unfold toF
        rw [if_neg hc]
      rw [e1, h]
end Go.Proofs.YtnibdhcfkjmnaaaGreat
