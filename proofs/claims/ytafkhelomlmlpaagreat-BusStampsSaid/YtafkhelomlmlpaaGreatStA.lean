/-
  Stamps rise by a cycle or two: what holds of a bus all the way. Conditions: none.
-/
import Derived.Test.YtafkhelomlmlpaaGreatBusG
import Derived.Test.YtafkhelomlmlpaaGreatNew
set_option linter.unusedSectionVars false
set_option linter.unusedVariables false
set_option linter.unusedSimpArgs false
namespace Go.Proofs.YtafkhelomlmlpaaGreat
open Go Go.AE Go.SX Go.RowKit
set_option maxRecDepth 1000000
/-! Plain: rows of stamps. -/
def bpt (s : D) (i : Nat) : D := (comps 11 s).getD i .u
def isGap (d : Int) : Prop := d = 3 ∨ d = 6 ∨ d = 12 ∨ d = 24
def stR (r : List A) : Int := (r.getD 0 (.i 0)).toI
def adR (r : List A) : Int := (r.getD 1 (.i 0)).toI
def stT (l : List (List A)) (i : Nat) : Int := stR (l.getD i [])
def adT (l : List (List A)) (i : Nat) : Int := adR (l.getD i [])
structure RowsOk (l : List (List A)) (now : Int) : Prop where
  ad : ∀ i, i < l.length → 0 ≤ adT l i ∧ adT l i < 2097152
  le : ∀ i, i < l.length → stT l i ≤ 24 * (i : Nat)
  ge : ∀ i, i < l.length → 0 ≤ stT l i
  fst : 0 < l.length → stT l 0 = 0
  gap : ∀ i, i + 1 < l.length → isGap (stT l (i + 1) - stT l i)
  nil : l.length = 0 → now = 0
  last : ∀ i, i + 1 = l.length → isGap (now - stT l i)
theorem getD_app1 (l : List (List A)) (r : List A) (i : Nat) (h : i < l.length) : (l ++ [r]).getD i [] = l.getD i [] := by
  rw [List.getD_eq_getElem?_getD, List.getD_eq_getElem?_getD, List.getElem?_append_left h]
theorem getD_app2 (l : List (List A)) (r : List A) : (l ++ [r]).getD l.length [] = r := by
  rw [List.getD_eq_getElem?_getD, List.getElem?_append_right (Nat.le_refl _), Nat.sub_self]; rfl
theorem rows_le {l : List (List A)} {now : Int} (h : RowsOk l now) : 0 ≤ now ∧ now ≤ 24 * (l.length : Nat) := by
  rcases Nat.eq_zero_or_pos l.length with h0 | h0
  · have := h.nil h0; omega
  · have h1 := h.last (l.length - 1) (by omega)
    have h2 := h.le (l.length - 1) (by omega)
    have h3 := h.ge (l.length - 1) (by omega)
    unfold isGap at h1
    omega
/-- One access more. -/
theorem rows_snoc {l : List (List A)} {now d : Int} {r : List A} (h : RowsOk l now) (hs : stR r = now) (h0 : 0 ≤ adR r) (h1 : adR r < 2097152) (hd : isGap d) : RowsOk (l ++ [r]) (now + d) := by
  have hn := rows_le h
  have at_ : ∀ i, i < l.length → stT (l ++ [r]) i = stT l i ∧ adT (l ++ [r]) i = adT l i := fun i hi => by
    unfold stT adT
    rw [getD_app1 l r i hi]; exact ⟨rfl, rfl⟩
  have e1 : stT (l ++ [r]) l.length = now := by unfold stT; rw [getD_app2, hs]
  have e2 : adT (l ++ [r]) l.length = adR r := by unfold adT; rw [getD_app2]
  have hl : (l ++ [r]).length = l.length + 1 := by simp
  refine ⟨fun i hi => ?_, fun i hi => ?_, fun i hi => ?_, fun hi => ?_, fun i hi => ?_, fun hi => by omega, fun i hi => ?_⟩
  · rcases Nat.lt_or_ge i l.length with hl' | hl'
    · rw [(at_ i hl').2]; exact h.ad i hl'
    · obtain rfl : i = l.length := by omega
      rw [e2]; exact ⟨h0, h1⟩
  · rcases Nat.lt_or_ge i l.length with hl' | hl'
    · rw [(at_ i hl').1]; exact h.le i hl'
    · obtain rfl : i = l.length := by omega
      rw [e1]; exact hn.2
  · rcases Nat.lt_or_ge i l.length with hl' | hl'
    · rw [(at_ i hl').1]; exact h.ge i hl'
    · obtain rfl : i = l.length := by omega
      rw [e1]; exact hn.1
  · rcases Nat.eq_zero_or_pos l.length with h' | h'
    · have e3 : stT (l ++ [r]) 0 = now := by rw [← e1, h']
      rw [e3]; exact h.nil h'
    · rw [(at_ 0 h').1]; exact h.fst h'
  · rcases Nat.lt_or_ge (i + 1) l.length with hl' | hl'
    · rw [(at_ (i + 1) hl').1, (at_ i (by omega)).1]; exact h.gap i hl'
    · have e3 : i + 1 = l.length := by omega
      rw [e3, e1, (at_ i (by omega)).1]
      exact h.last i e3
  · have e3 : i = l.length := by omega
    rw [e3, e1]
    have : now + d - now = d := by omega
    rw [this]; exact hd
/-! The same of a bus. -/
structure StOk (s : D) (n b : Int) : Prop where
  n0 : 0 ≤ n
  b0 : 0 ≤ b
  len : (((bpt s 9).toR.length : Nat) : Int) = if n < b then n else b
  left : (bpt s 7).toI = b - (((bpt s 9).toR.length : Nat) : Int)
  rows : RowsOk (bpt s 9).toR (bpt s 0).toI
theorem pt_pack [HF] {l : List D} (h : l.length = 11) (i : Nat) : bpt (packD l) i = l.getD i .u := by unfold bpt; rw [pack11 h]
open Classical in
class SOk [HF] : Prop where
  h48 : ∀ d, Fam.Φ 48 d = .b (decide (StOk d.fst d.snd.fst.toI d.snd.snd.toI))
variable [HF] [HOk1] [HOk2] [HOk3] [ROk] [BOk] [BOk2] [SOk]
def stOX (s n b : X) : X := .ap 48 (.o .pair s (.o .pair n b))
theorem stOX_iff (e : En) (s n b : X) : (stOX s n b).B e = true ↔ StOk (s.den e) (n.I e) (b.I e) := by
  show (Fam.Φ 48 (.p (s.den e) (.p (n.den e) (b.den e)))).toB = true ↔ _
  rw [SOk.h48]
  exact @decide_eq_true_iff _ (_)
/-! One access. -/
theorem rd_at {k : Nat} {s : D} {l : List D} (hk : l.length = k) (i : Nat) (hi : i < 11) : (envOf (comps 11 s ++ l)).ρ i = bpt s i := by
  show (comps 11 s ++ l).getD i .u = _
  unfold bpt
  rw [List.getD_eq_getElem?_getD, List.getD_eq_getElem?_getD, List.getElem?_append_left (by rw [comps_len]; exact hi)]
/-- What an access that is made changes of what stamps tell. -/
structure Goes (e : En) (s t : D) : Prop where
  gap : ∃ d, isGap d ∧ (bpt t 0).toI = (bpt s 0).toI + d
  left : (bpt t 7).toI = (bpt s 7).toI - 1
  row : ∃ r, stR r = (bpt s 0).toI ∧ adR r = (adN.I e) ∧ (bpt t 9).toR = (bpt s 9).toR ++ [r]
theorem toA_I (d : D) : d.toA.toI = d.toI := by cases d <;> rfl
theorem gap_len (ext : Bool) (e : En) : isGap ((lenB ext).I e) := by
  cases ext with
  | true =>
    show isGap (bif (e.ρ 1).toB then 6 else 24)
    cases (e.ρ 1).toB
    · exact .inr (.inr (.inr rfl))
    · exact .inr (.inl rfl)
  | false =>
    show isGap (bif (e.ρ 1).toB then 3 else 12)
    cases (e.ρ 1).toB
    · exact .inr (.inr (.inl rfl))
    · exact .inl rfl
theorem goOn_goes {k : Nat} {s : D} {l : List D} (hk : l.length = k) (ext : Bool) (kind v : X) (w : Bool) (page : X) (more : List (Nat × X)) (hm : more = [] ∨ ∃ x, more = [(5, x)]) :
    Goes (envOf (comps 11 s ++ l)) s (packD ((goOn ext kind v w page more).map (X.den (envOf (comps 11 s ++ l))))) := by
  have h0 := rd_at (s := s) hk 0 (by omega)
  have h7 := rd_at (s := s) hk 7 (by omega)
  have h9 := rd_at (s := s) hk 9 (by omega)
  have key : ∀ i, bpt (packD ((goOn ext kind v w page more).map (X.den (envOf (comps 11 s ++ l))))) i = ((goOn ext kind v w page more).map (X.den (envOf (comps 11 s ++ l)))).getD i .u := fun i => pt_pack (by rcases hm with rfl | ⟨x, rfl⟩ <;> rfl) i
  refine ⟨⟨_, gap_len ext (envOf (comps 11 s ++ l)), ?_⟩, ?_, ⟨(((rowX kind v w).den (envOf (comps 11 s ++ l))).toR).getD 0 [], ?_, ?_, ?_⟩⟩
  · rw [key, ← h0]
    rcases hm with rfl | ⟨x, rfl⟩ <;> rfl
  · rw [key, ← h7]
    rcases hm with rfl | ⟨x, rfl⟩ <;> rfl
  · rw [← h0]; exact toA_I _
  · exact toA_I (adN.den (envOf (comps 11 s ++ l)))
  · rw [key, ← h9]
    rcases hm with rfl | ⟨x, rfl⟩ <;> rfl
theorem st_goes {s t : D} {n b : Int} {e : En} (h : StOk s n b) (hl : 0 < (bpt s 7).toI) (hg : Goes e s t) : StOk t (n + 1) b := by
  obtain ⟨⟨d, hd, hn⟩, hlf, r, hr1, hr2, hr3⟩ := hg
  have h1 := h.len
  have h2 := h.left
  have h3 := h.n0
  have hlen : (bpt t 9).toR.length = (bpt s 9).toR.length + 1 := by rw [hr3]; simp
  have hnb : n < b := by
    split at h1
    · assumption
    · omega
  rw [if_pos hnb] at h1
  refine ⟨by omega, h.b0, ?_, ?_, ?_⟩
  · rw [hlen]; split <;> omega
  · rw [hlf, hlen]; omega
  · rw [hr3, hn]
    have ha : adN.I e = (X.v 11).I e % 2097152 := rfl
    exact rows_snoc h.rows hr1 (by rw [hr2, ha]; omega) (by rw [hr2, ha]; omega) hd
/-- Where nothing of this changes. -/
theorem st_same {s t : D} {n b : Int} (h : StOk s n b) (h0 : (bpt t 0).toI = (bpt s 0).toI) (h7 : (bpt t 7).toI = (bpt s 7).toI) (h9 : (bpt t 9).toR = (bpt s 9).toR) : StOk t n b :=
  ⟨h.n0, h.b0, by rw [h9]; exact h.len, by rw [h7, h9]; exact h.left, by rw [h9, h0]; exact h.rows⟩
theorem st_over {s t : D} {n b : Int} (h : StOk s n b) (hl : (bpt s 7).toI ≤ 0) (h0 : (bpt t 0).toI = (bpt s 0).toI) (h7 : (bpt t 7).toI = (bpt s 7).toI) (h9 : (bpt t 9).toR = (bpt s 9).toR) : StOk t (n + 1) b := by
  have h1 := h.len
  have h2 := h.left
  refine ⟨by have := h.n0; omega, h.b0, ?_, by rw [h7, h9]; exact h.left, by rw [h9, h0]; exact h.rows⟩
  rw [h9]
  split at h1 <;> split <;> omega
theorem row_cases {l : List BRow} (hl : l.length = 7) (e : En) : selB l e = rowAt l 0 ∧ (X.v 7).I e ≤ 0 ∨ 0 < (X.v 7).I e ∧ ∃ i, 1 ≤ i ∧ i < 7 ∧ selB l e = rowAt l i := by
  unfold selB rowB
  split
  · rename_i h; exact .inl ⟨rfl, h⟩
  · right
    refine ⟨by omega, ?_⟩
    repeat' split
    · exact ⟨1, by omega, by omega, rfl⟩
    · exact ⟨2, by omega, by omega, rfl⟩
    · exact ⟨3, by omega, by omega, rfl⟩
    · exact ⟨4, by omega, by omega, rfl⟩
    · exact ⟨5, by omega, by omega, rfl⟩
    · exact ⟨6, by omega, by omega, rfl⟩
theorem st_rd {s a k : D} {n b : Int} (h : StOk s n b) : StOk (brSD (.p s (.p a k))) (n + 1) b := by
  have he : eB 2 (.p s (.p a k)) = envOf (comps 11 s ++ [a, k]) := eB_pack (l := [a, k]) rfl
  unfold brSD
  rw [he]
  have h7 := rd_at (s := s) (l := [a, k]) rfl 7 (by omega)
  have e7 : (X.v 7).I (envOf (comps 11 s ++ [a, k])) = (bpt s 7).toI := congrArg D.toI h7
  rcases row_cases (l := busRd) rfl (envOf (comps 11 s ++ [a, k])) with ⟨hr, h0⟩ | ⟨h0, i, hi1, hi2, hr⟩
  · rw [hr]
    refine st_over h (by rw [← e7]; exact h0) ?_ ?_ ?_ <;> rw [pt_pack rfl]
    · rw [← rd_at (s := s) (l := [a, k]) rfl 0 (by omega)]; rfl
    · rw [← h7]; rfl
    · rw [← rd_at (s := s) (l := [a, k]) rfl 9 (by omega)]; rfl
  · rw [hr]
    refine st_goes (e := envOf (comps 11 s ++ [a, k])) h (by rw [← e7]; exact h0) ?_
    rcases (by omega : i = 1 ∨ i = 2 ∨ i = 3 ∨ i = 4 ∨ i = 5 ∨ i = 6) with rfl | rfl | rfl | rfl | rfl | rfl
    · exact goOn_goes rfl false _ _ _ _ [] (.inl rfl)
    · exact goOn_goes rfl false _ _ _ _ [] (.inl rfl)
    · exact goOn_goes rfl false _ _ _ _ [] (.inl rfl)
    · exact goOn_goes rfl false _ _ _ _ [] (.inl rfl)
    · exact goOn_goes rfl true _ _ _ _ [] (.inl rfl)
    · exact goOn_goes rfl false _ _ _ _ [] (.inl rfl)
theorem st_wr {s a v k : D} {n b : Int} (h : StOk s n b) : StOk (bwSD (.p s (.p a (.p v k)))) (n + 1) b := by
  have he : eB 3 (.p s (.p a (.p v k))) = envOf (comps 11 s ++ [a, v, k]) := eB_pack (l := [a, v, k]) rfl
  unfold bwSD
  rw [he]
  have h7 := rd_at (s := s) (l := [a, v, k]) rfl 7 (by omega)
  have e7 : (X.v 7).I (envOf (comps 11 s ++ [a, v, k])) = (bpt s 7).toI := congrArg D.toI h7
  rcases row_cases (l := busWr) rfl (envOf (comps 11 s ++ [a, v, k])) with ⟨hr, h0⟩ | ⟨h0, i, hi1, hi2, hr⟩
  · rw [hr]
    refine st_over h (by rw [← e7]; exact h0) ?_ ?_ ?_ <;> rw [pt_pack rfl]
    · rw [← rd_at (s := s) (l := [a, v, k]) rfl 0 (by omega)]; rfl
    · rw [← h7]; rfl
    · rw [← rd_at (s := s) (l := [a, v, k]) rfl 9 (by omega)]; rfl
  · rw [hr]
    refine st_goes (e := envOf (comps 11 s ++ [a, v, k])) h (by rw [← e7]; exact h0) ?_
    rcases (by omega : i = 1 ∨ i = 2 ∨ i = 3 ∨ i = 4 ∨ i = 5 ∨ i = 6) with rfl | rfl | rfl | rfl | rfl | rfl
    · exact goOn_goes rfl false _ _ _ _ [] (.inl rfl)
    · exact goOn_goes rfl false _ _ _ _ _ (.inr ⟨_, rfl⟩)
    · exact goOn_goes rfl false _ _ _ _ [] (.inl rfl)
    · exact goOn_goes rfl false _ _ _ _ [] (.inl rfl)
    · exact goOn_goes rfl true _ _ _ _ [] (.inl rfl)
    · exact goOn_goes rfl false _ _ _ _ [] (.inl rfl)
theorem st_ask {s f : D} {n b : Int} (h : StOk s n b) : StOk (askSD (.p s f)) n b := by
  have he : eB 1 (.p s f) = envOf (comps 11 s ++ [f]) := eB_pack (l := [f]) rfl
  unfold askSD
  rw [he]
  refine st_same h ?_ ?_ ?_ <;> rw [pt_pack rfl]
  · rw [← rd_at (s := s) (l := [f]) rfl 0 (by omega)]; rfl
  · rw [← rd_at (s := s) (l := [f]) rfl 7 (by omega)]; rfl
  · rw [← rd_at (s := s) (l := [f]) rfl 9 (by omega)]; rfl
theorem st_turn {s : D} {n b : Int} (h : StOk s n b) : StOk (turnSD s) n b := by
  unfold turnSD
  refine st_same h ?_ ?_ ?_ <;> rw [pt_pack rfl]
  · rw [← rd_at (s := s) (l := []) rfl 0 (by omega)]; rfl
  · rw [← rd_at (s := s) (l := []) rfl 7 (by omega)]; rfl
  · rw [← rd_at (s := s) (l := []) rfl 9 (by omega)]; rfl
end Go.Proofs.YtafkhelomlmlpaaGreat
