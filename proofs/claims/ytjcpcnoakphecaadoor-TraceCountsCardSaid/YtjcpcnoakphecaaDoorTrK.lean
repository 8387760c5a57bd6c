/-
  What is counted of accesses, in plain words. Conditions: none.
-/
import Derived.Test.YtjcpcnoakphecaaDoorTrD
set_option linter.unusedSectionVars false
set_option linter.unusedVariables false
set_option linter.unusedSimpArgs false
namespace Go.Proofs.YtjcpcnoakphecaaDoor
open Go Go.AE Go.SX
set_option maxRecDepth 100000
def whF (a : Int) : Int := if a / 8192 % 256 < 128 then 0 else if 248 ≤ a / 8192 % 256 ∧ a / 8192 % 256 ≤ 251 then 1 else if a / 8192 % 256 = 255 ∧ a % 8192 < 6144 then 3 + a % 8192 / 1024 else 2
theorem whF_rg (a : Int) : 0 ≤ whF a ∧ whF a ≤ 8 := by
  unfold whF
  repeat' split
  all_goals omega
def cntA (arr : List (List A)) (k : Int) : Int := IntKind.i64.wrap ((arr.getD k.toNat []).getD 0 (.i 0)).toI
def cnF (sz : Nat) (f : List A → Int) (l : List (List A)) : Nat → List (List A)
  | 0 => List.replicate sz [.i 0]
  | i + 1 => if f (rowN l i) < (sz : Nat) then (cnF sz f l i).set (f (rowN l i)).toNat [.i (cntA (cnF sz f l i) (f (rowN l i)) + 1)] else cnF sz f l i
def cellA (r : List A) : Int := IntKind.i64.wrap (r.getD 0 (.i 0)).toI
theorem cntA_set (arr : List (List A)) (j : Nat) (x : Int) (k : Int) : cntA (arr.set j [.i x]) k = if j = k.toNat ∧ j < arr.length then IntKind.i64.wrap x else cntA arr k := by
  show cellA ((arr.set j [.i x]).getD k.toNat []) = _
  rw [List.getD_eq_getElem?_getD, List.getElem?_set]
  by_cases hj : j = k.toNat
  · rw [if_pos hj]
    by_cases hl : j < arr.length
    · rw [if_pos hl, if_pos ⟨hj, hl⟩]; rfl
    · rw [if_neg hl, if_neg (fun q => hl q.2)]
      show cellA [] = cellA (arr.getD k.toNat [])
      rw [List.getD_eq_getElem?_getD, List.getElem?_eq_none (by omega)]; rfl
  · rw [if_neg hj, if_neg (fun q => hj q.1), ← List.getD_eq_getElem?_getD]; rfl
theorem cn_bnd (sz : Nat) (f : List A → Int) (l : List (List A)) : ∀ (i : Nat) (k : Int), i < 100000 → 0 ≤ cntA (cnF sz f l i) k ∧ cntA (cnF sz f l i) k ≤ i
  | 0, k, _ => by
    have h : cntA (cnF sz f l 0) k = 0 := by
      show cellA ((List.replicate sz [A.i 0]).getD k.toNat []) = 0
      rw [List.getD_eq_getElem?_getD, List.getElem?_replicate]
      split <;> rfl
    rw [h]
    exact ⟨Int.le_refl _, Int.le_refl _⟩
  | i + 1, k, h => by
    have i1 := cn_bnd sz f l i k (by omega)
    have i2 := cn_bnd sz f l i (f (rowN l i)) (by omega)
    unfold cnF
    split
    · rw [cntA_set]
      split
      · rw [wrap64 (by omega) (by omega)]; omega
      · omega
    · omega
def CnP (sz : Nat) (f : List A → Int) (l : List (List A)) (i : Int) (arr : List (List A)) : Prop := 0 ≤ i ∧ i ≤ (l.length : Nat) ∧ arr = cnF sz f l i.toNat
theorem succ_nat {i : Int} (h : 0 ≤ i) : (i + 1).toNat = i.toNat + 1 := by omega
theorem cn_next {sz : Nat} {f : List A → Int} {l : List (List A)} {i : Int} {arr : List (List A)} (h : CnP sz f l i arr) (hl : i < (l.length : Nat)) : CnP sz f l (i + 1) (bif decide (f (rowN l i.toNat) < (sz : Nat)) then arr.set (f (rowN l i.toNat)).toNat [.i (cntA arr (f (rowN l i.toNat)) + 1)] else arr) := by
  obtain ⟨h0, h1, rfl⟩ := h
  refine ⟨by omega, by omega, ?_⟩
  rw [succ_nat h0, Bool.cond_decide]; rfl
theorem cn_end {sz : Nat} {f : List A → Int} {l : List (List A)} {i : Int} {arr : List (List A)} (h : CnP sz f l i arr) (hl : ¬ i < (l.length : Nat)) : arr = cnF sz f l l.length := by
  obtain ⟨h0, h1, rfl⟩ := h
  rw [show i.toNat = l.length from by omega]
def whR (r : List A) : Int := whF (rAd r)
def ofF (l : List (List A)) (w : Int) : Nat → List (List A)
  | 0 => []
  | i + 1 => if whR (rowN l i) = w then ofF l w i ++ [canon (rowN l i)] else ofF l w i
theorem of_len (l : List (List A)) (w : Int) : ∀ i, (ofF l w i).length ≤ i
  | 0 => Nat.le_refl _
  | i + 1 => by
    have := of_len l w i
    unfold ofF
    split
    · rw [List.length_append, List.length_singleton]; omega
    · omega
def OfP (l : List (List A)) (w i : Int) (out : List (List A)) : Prop := 0 ≤ i ∧ i ≤ (l.length : Nat) ∧ out = ofF l w i.toNat
theorem of_next {l : List (List A)} {w i : Int} {out : List (List A)} (h : OfP l w i out) (hl : i < (l.length : Nat)) : OfP l w (i + 1) (if whR (rowN l i.toNat) = w then out ++ [canon (rowN l i.toNat)] else out) := by
  obtain ⟨h0, h1, rfl⟩ := h
  refine ⟨by omega, by omega, ?_⟩
  rw [succ_nat h0]; rfl
theorem of_end {l : List (List A)} {w i : Int} {out : List (List A)} (h : OfP l w i out) (hl : ¬ i < (l.length : Nat)) : out = ofF l w l.length := by
  obtain ⟨h0, h1, rfl⟩ := h
  rw [show i.toNat = l.length from by omega]
def hitB (r : List A) (ad : Int) : Bool := rWr r && decide (rAd r % 2097152 = ad % 2097152)
def laF (l : List (List A)) (ad : Int) : Nat → Int × Bool
  | 0 => (0, false)
  | i + 1 => if hitB (rowN l i) ad = true then (rDa (rowN l i), true) else laF l ad i
theorem la_rg (l : List (List A)) (ad : Int) : ∀ i, 0 ≤ (laF l ad i).1 ∧ (laF l ad i).1 ≤ 255
  | 0 => ⟨Int.le_refl _, by show (0 : Int) ≤ 255; omega⟩
  | i + 1 => by
    have := la_rg l ad i
    unfold laF
    split
    · exact u8_rg _
    · exact this
def LaP (l : List (List A)) (ad i v : Int) (q : Bool) : Prop := 0 ≤ i ∧ i ≤ (l.length : Nat) ∧ (v, q) = laF l ad i.toNat
theorem la_next {l : List (List A)} {ad i v : Int} {q : Bool} (h : LaP l ad i v q) (hl : i < (l.length : Nat)) : LaP l ad (i + 1) (if hitB (rowN l i.toNat) ad = true then rDa (rowN l i.toNat) else v) (hitB (rowN l i.toNat) ad || q) := by
  obtain ⟨h0, h1, h2⟩ := h
  refine ⟨by omega, by omega, ?_⟩
  rw [succ_nat h0]
  unfold laF
  rw [← h2]
  cases hitB (rowN l i.toNat) ad <;> rfl
theorem la_end {l : List (List A)} {ad i v : Int} {q : Bool} (h : LaP l ad i v q) (hl : ¬ i < (l.length : Nat)) : v = (laF l ad l.length).1 ∧ q = (laF l ad l.length).2 := by
  obtain ⟨h0, h1, h2⟩ := h
  rw [show i.toNat = l.length from by omega] at h2
  rw [← h2]; exact ⟨rfl, rfl⟩
def BaP (l : List (List A)) (ad k : Int) : Prop := 0 ≤ k ∧ k ≤ (l.length : Nat) ∧ laF l ad l.length = laF l ad (l.length - k.toNat)
theorem ba_next {l : List (List A)} {ad k : Int} (h : BaP l ad k) (hl : k < (l.length : Nat)) (hh : hitB (rowN l (l.length - 1 - k.toNat)) ad = false) : BaP l ad (k + 1) := by
  obtain ⟨h0, h1, h2⟩ := h
  refine ⟨by omega, by omega, ?_⟩
  rw [h2, show l.length - k.toNat = (l.length - 1 - k.toNat) + 1 from by omega, succ_nat h0, show l.length - (k.toNat + 1) = l.length - 1 - k.toNat from by omega]
  show (if hitB _ ad = true then _ else _) = _
  rw [hh]; rfl
theorem ba_hit {l : List (List A)} {ad k : Int} (h : BaP l ad k) (hl : k < (l.length : Nat)) (hh : hitB (rowN l (l.length - 1 - k.toNat)) ad = true) : laF l ad l.length = (rDa (rowN l (l.length - 1 - k.toNat)), true) := by
  obtain ⟨h0, h1, h2⟩ := h
  rw [h2, show l.length - k.toNat = (l.length - 1 - k.toNat) + 1 from by omega]
  exact if_pos hh
theorem ba_end {l : List (List A)} {ad k : Int} (h : BaP l ad k) (hl : ¬ k < (l.length : Nat)) : laF l ad l.length = (0, false) := by
  obtain ⟨h0, h1, h2⟩ := h
  rw [h2, show l.length - k.toNat = 0 from by omega]; rfl
def riF (l : List (List A)) : Nat → Bool
  | 0 => true
  | 1 => decide (0 ≤ rSt (rowN l 0))
  | i + 2 => riF l (i + 1) && decide (wayF (rSt (rowN l (i + 1)) - rSt (rowN l i)) < 4)
theorem way_d (d : Int) : wayF d < 4 ↔ d = 3 ∨ d = 6 ∨ d = 12 ∨ d = 24 := by
  unfold wayF
  repeat' split
  all_goals omega
theorem ri_pos (l : List (List A)) : ∀ i, riF l (i + 1) = true → 0 ≤ rSt (rowN l i)
  | 0, h => of_decide_eq_true h
  | i + 1, h => by
    have h : (riF l (i + 1) && decide (wayF (rSt (rowN l (i + 1)) - rSt (rowN l i)) < 4)) = true := h
    rw [Bool.and_eq_true, decide_eq_true_eq, way_d] at h
    have := ri_pos l i h.1
    omega
theorem ri_mono (l : List (List A)) (i : Nat) (h : riF l i = false) (hi : 0 < i) : ∀ m, riF l (i + m) = false
  | 0 => h
  | m + 1 => by
    have ih := ri_mono l i h hi m
    obtain ⟨j, rfl⟩ : ∃ j, i = j + 1 := ⟨i - 1, by omega⟩
    rw [show j + 1 + (m + 1) = (j + m) + 2 from by omega, riF, show j + m + 1 = j + 1 + m from by omega, ih]; rfl
def RiP (l : List (List A)) (i : Int) (q : Bool) : Prop := 0 ≤ i ∧ i ≤ (l.length : Nat) ∧ q = riF l i.toNat
def riS (l : List (List A)) (i : Nat) : Bool := match i with
  | 0 => decide (0 ≤ rSt (rowN l 0))
  | i + 1 => decide (wayF (rSt (rowN l (i + 1)) - rSt (rowN l i)) < 4)
theorem ri_next {l : List (List A)} {i : Int} {q : Bool} (h : RiP l i q) (hl : i < (l.length : Nat)) : RiP l (i + 1) (q && riS l i.toNat) := by
  obtain ⟨h0, h1, rfl⟩ := h
  refine ⟨by omega, by omega, ?_⟩
  rw [succ_nat h0]
  cases i.toNat with
  | zero => rfl
  | succ n => rfl
theorem ri_end {l : List (List A)} {i : Int} {q : Bool} (h : RiP l i q) (hl : ¬ i < (l.length : Nat)) : q = riF l l.length := by
  obtain ⟨h0, h1, rfl⟩ := h
  rw [show i.toNat = l.length from by omega]
theorem ri_bad {l : List (List A)} {i : Int} (h : RiP l i true) (hl : i < (l.length : Nat)) (hs : riS l i.toNat = false) : riF l l.length = false := by
  have hi := h.1
  obtain ⟨h0, h1, h2⟩ := ri_next h hl
  rw [hs] at h2
  have := ri_mono l (i + 1).toNat h2.symm (by omega) (l.length - (i + 1).toNat)
  rwa [Nat.add_sub_cancel' (show (i + 1).toNat ≤ l.length from by omega)] at this
def eqR (r s : List A) : Bool := decide (rSt r = rSt s) && (decide (rAd r = rAd s) && (decide (rKd r = rKd s) && ((rWr r == rWr s) && decide (rDa r = rDa s))))
def otB (a b : List (List A)) (i : Nat) : Bool := decide (b.length ≤ i) || !eqR (rowN a i) (rowN b i)
def otF (a b : List (List A)) : Nat → Int
  | 0 => -1
  | i + 1 => if otF a b i < 0 ∧ otB a b i = true then (i : Int) else otF a b i
def otG (a b : List (List A)) : Int := if otF a b a.length < 0 ∧ a.length < b.length then (a.length : Int) else otF a b a.length
theorem ot_rg (a b : List (List A)) : ∀ i, -1 ≤ otF a b i ∧ otF a b i < (i : Int)
  | 0 => ⟨Int.le_refl _, by show (-1 : Int) < 0; omega⟩
  | i + 1 => by
    have := ot_rg a b i
    unfold otF
    split <;> omega
def OtP (a b : List (List A)) (i o : Int) : Prop := 0 ≤ i ∧ i ≤ (a.length : Nat) ∧ o = otF a b i.toNat
theorem ot_next {a b : List (List A)} {i o : Int} (h : OtP a b i o) (hl : i < (a.length : Nat)) : OtP a b (i + 1) (if o < 0 ∧ otB a b i.toNat = true then i else o) := by
  obtain ⟨h0, h1, rfl⟩ := h
  refine ⟨by omega, by omega, ?_⟩
  rw [succ_nat h0]
  show _ = if otF a b i.toNat < 0 ∧ otB a b i.toNat = true then ((i.toNat : Nat) : Int) else otF a b i.toNat
  rw [show ((i.toNat : Nat) : Int) = i from by omega]
theorem ot_stay (a b : List (List A)) (i : Nat) (h : 0 ≤ otF a b i) : ∀ m, otF a b (i + m) = otF a b i
  | 0 => rfl
  | m + 1 => by
    have ih := ot_stay a b i h m
    show otF a b ((i + m) + 1) = _
    rw [otF, ih, if_neg (by omega)]
theorem ot_hit {a b : List (List A)} {i : Int} (h : OtP a b i (-1)) (hl : i < (a.length : Nat)) (hb : otB a b i.toNat = true) : otG a b = i := by
  obtain ⟨h0, h1, h2⟩ := h
  have h3 : otF a b (i.toNat + 1) = i := by
    show (if otF a b i.toNat < 0 ∧ otB a b i.toNat = true then ((i.toNat : Nat) : Int) else _) = _
    rw [if_pos ⟨by omega, hb⟩]; omega
  have h4 := ot_stay a b (i.toNat + 1) (by omega) (a.length - (i.toNat + 1))
  rw [Nat.add_sub_cancel' (by omega)] at h4
  unfold otG
  rw [h4, h3, if_neg (by omega)]
theorem ot_end {a b : List (List A)} {i : Int} (h : OtP a b i (-1)) (hl : ¬ i < (a.length : Nat)) : otG a b = if a.length < b.length then (a.length : Int) else -1 := by
  obtain ⟨h0, h1, h2⟩ := h
  rw [show i.toNat = a.length from by omega] at h2
  unfold otG
  rw [← h2]
  by_cases hq : a.length < b.length
  · rw [if_pos ⟨by omega, hq⟩, if_pos hq]
  · rw [if_neg (fun k => hq k.2), if_neg hq]
end Go.Proofs.YtjcpcnoakphecaaDoor
