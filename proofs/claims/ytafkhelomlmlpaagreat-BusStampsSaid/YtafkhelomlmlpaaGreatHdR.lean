/-
  What holds of a page's state all the way: its parts are in their ranges, and its time and its feeds are not far. Conditions: none.
-/
import Derived.Test.YtafkhelomlmlpaaGreatHdQ
set_option linter.unusedSectionVars false
set_option linter.unusedVariables false
set_option linter.unusedSimpArgs false
namespace Go.Proofs.YtafkhelomlmlpaaGreat
open Go Go.AE Go.SX Go.RowKit
set_option maxRecDepth 1000000
variable [HF]
def prt (x : D) (i : Nat) : D := (comps 19 x).getD i .u
structure NearSt (x : D) (k : Int) : Prop where
  k0 : 0 ≤ k
  k1 : k ≤ 1000
  now : (prt x 18).toI ≤ 1000001 * k
  f0 : (prt x 10).toI ≤ k
  f1 : (prt x 12).toI ≤ k
  f2 : (prt x 14).toI ≤ k
variable [HOk1] [HOk2] [HOk3]
theorem rd_row (w : Int) (h0 : 0 ≤ w) (h1 : w ≤ 8) : rowOf rdTab w ∈ rdTab ∧ (rowOf rdTab w).lo ≤ w ∧ w ≤ (rowOf rdTab w).hi := by
  rcases (by omega : w = 0 ∨ w = 1 ∨ w = 2 ∨ w = 3 ∨ w = 4 ∨ w = 5 ∨ w = 6 ∨ w = 7 ∨ w = 8) with rfl | rfl | rfl | rfl | rfl | rfl | rfl | rfl | rfl <;>
    exact ⟨by simp [rowOf, rdTab], by decide, by decide⟩
theorem wr_row (w : Int) (h0 : 0 ≤ w) (h1 : w ≤ 8) : rowOf wrTab w ∈ wrTab ∧ (rowOf wrTab w).lo ≤ w ∧ w ≤ (rowOf wrTab w).hi := by
  rcases (by omega : w = 0 ∨ w = 1 ∨ w = 2 ∨ w = 3 ∨ w = 4 ∨ w = 5 ∨ w = 6 ∨ w = 7 ∨ w = 8) with rfl | rfl | rfl | rfl | rfl | rfl | rfl | rfl | rfl <;>
    exact ⟨by simp [rowOf, wrTab], by decide, by decide⟩
theorem wr_inv_tab : wrTab.all (fun r => tmInv 12 ⟨21, fsPage ++ (cs r.lo r.hi :: fsWr), asPage ++ []⟩ tm1 (packX r.sp) && Nat.beq r.sp.length 19) = true := by kernel_rfl
/-! Ranges of parts. -/
theorem ev_part {k : Nat} {x a : D} {i : Nat} (hi : i < 19) : (eP k (.p x a)).ρ i = prt x i := by
  show (comps 19 x ++ comps k a).getD i .u = (comps 19 x).getD i .u
  rw [List.getD_eq_getElem?_getD, List.getD_eq_getElem?_getD, List.getElem?_append_left (by rw [comps_len]; exact hi)]
theorem ev_arg {x a : D} : (eP 1 (.p x a)).ρ 19 = a := by
  show (comps 19 x ++ [a]).getD 19 .u = a
  rw [List.getD_eq_getElem?_getD, List.getElem?_append_right (by rw [comps_len]; exact Nat.le_refl _), comps_len]; rfl
/-- Which parts an access may change: time stays, and feeds go on by one. -/
def stays (sp : List X) (i : Nat) : Bool := eqX (sp.getD i .nil) (.v i)
theorem stays_ok {sp : List X} {i : Nat} (h : stays sp i = true) (e : En) : (sp.getD i .nil).den e = e.ρ i := by rw [eqX_eq h]; rfl
theorem pack_prt {l : List D} (h : l.length = 19) (i : Nat) : prt (packD l) i = l.getD i .u := by unfold prt; rw [pack_comps h]
theorem map_prt {sp : List X} (h : sp.length = 19) (e : En) {i : Nat} (hi : i < 19) : prt (packD (sp.map (X.den e))) i = (sp.getD i .nil).den e := by
  rw [pack_prt (by rw [List.length_map]; exact h), List.getD_eq_getElem?_getD, List.getD_eq_getElem?_getD, List.getElem?_map, List.getElem?_eq_getElem (by omega)]; rfl
theorem wr_stays_tab : wrTab.all (fun r => stays r.sp 10 && (stays r.sp 12 && (stays r.sp 14 && stays r.sp 18))) = true := by kernel_rfl
theorem wr_parts (x a : D) : prt (wrSD (.p x a)) 10 = prt x 10 ∧ prt (wrSD (.p x a)) 12 = prt x 12 ∧ prt (wrSD (.p x a)) 14 = prt x 14 ∧ prt (wrSD (.p x a)) 18 = prt x 18 := by
  have hw := whI_rg (aX.I (eP 2 (.p x a)))
  obtain ⟨h1, _, _⟩ := wr_row (whP (eP 2 (.p x a))) hw.1 hw.2
  have h4 := List.all_eq_true.1 wr_inv_tab _ h1
  rw [Bool.and_eq_true] at h4
  have hl := Nat.eq_of_beq_eq_true h4.2
  have h5 := List.all_eq_true.1 wr_stays_tab _ h1
  simp only [Bool.and_eq_true] at h5
  unfold wrSD
  refine ⟨?_, ?_, ?_, ?_⟩
  · rw [map_prt hl _ (by omega), stays_ok h5.1, ev_part (by omega)]
  · rw [map_prt hl _ (by omega), stays_ok h5.2.1, ev_part (by omega)]
  · rw [map_prt hl _ (by omega), stays_ok h5.2.2.1, ev_part (by omega)]
  · rw [map_prt hl _ (by omega), stays_ok h5.2.2.2, ev_part (by omega)]
theorem to_parts (x a : D) : prt (toSD (.p x a)) 10 = prt x 10 ∧ prt (toSD (.p x a)) 12 = prt x 12 ∧ prt (toSD (.p x a)) 14 = prt x 14 ∧ (prt (toSD (.p x a)) 18).toI = if (prt x 18).toI < a.toI then a.toI else (prt x 18).toI := by
  have h : prt (toSD (.p x a)) 18 = .i (bif decide ((prt x 18).toI < a.toI) then a.toI else (prt x 18).toI) := by
    unfold toSD
    rw [map_prt rfl _ (by omega)]
    show D.i (bif decide (((eP 1 (.p x a)).ρ 18).toI < ((eP 1 (.p x a)).ρ 19).toI) then ((eP 1 (.p x a)).ρ 19).toI else ((eP 1 (.p x a)).ρ 18).toI) = _
    rw [ev_part (by omega), ev_arg]
  refine ⟨?_, ?_, ?_, ?_⟩
  · unfold toSD; rw [map_prt rfl _ (by omega), stays_ok rfl, ev_part (by omega)]
  · unfold toSD; rw [map_prt rfl _ (by omega), stays_ok rfl, ev_part (by omega)]
  · unfold toSD; rw [map_prt rfl _ (by omega), stays_ok rfl, ev_part (by omega)]
  · rw [h]
    show (bif decide _ then a.toI else _) = _
    rw [cond_eq_ite]; simp only [decide_eq_true_eq]
theorem rd_parts (x a : D) : (prt (rdSD (.p x a)) 10).toI ≤ (prt x 10).toI + 1 ∧ (prt (rdSD (.p x a)) 12).toI ≤ (prt x 12).toI + 1 ∧ (prt (rdSD (.p x a)) 14).toI ≤ (prt x 14).toI + 1 ∧ prt (rdSD (.p x a)) 18 = prt x 18 := by
  have hw := whI_rg (aX.I (eP 1 (.p x a)))
  obtain ⟨h1, _, _⟩ := rd_row (whP (eP 1 (.p x a))) hw.1 hw.2
  have key : ∀ r ∈ rdTab, ∀ e : En, r.sp.length = 19 ∧ ((r.sp.getD 10 .nil).den e).toI ≤ (e.ρ 10).toI + 1 ∧ ((r.sp.getD 12 .nil).den e).toI ≤ (e.ρ 12).toI + 1 ∧ ((r.sp.getD 14 .nil).den e).toI ≤ (e.ρ 14).toI + 1 ∧ (r.sp.getD 18 .nil).den e = e.ρ 18 := by
    refine all_cons' ?_ (all_cons' ?_ (all_cons' ?_ (all_cons' ?_ (all_cons' ?_ (all_cons' ?_ (all_cons' ?_ all_nil'))))))
    · intro e; exact ⟨rfl, by show (e.ρ 10).toI ≤ _; omega, by show (e.ρ 12).toI ≤ _; omega, by show (e.ρ 14).toI ≤ _; omega, rfl⟩
    · intro e; exact ⟨rfl, by show (e.ρ 10).toI ≤ _; omega, Int.le_refl _, by show (e.ρ 14).toI ≤ _; omega, rfl⟩
    · intro e; exact ⟨rfl, by show (e.ρ 10).toI ≤ _; omega, by show (e.ρ 12).toI ≤ _; omega, Int.le_refl _, rfl⟩
    · intro e; exact ⟨rfl, by show (e.ρ 10).toI ≤ _; omega, by show (e.ρ 12).toI ≤ _; omega, by show (e.ρ 14).toI ≤ _; omega, rfl⟩
    · intro e; exact ⟨rfl, by show (e.ρ 10).toI ≤ _; omega, by show (e.ρ 12).toI ≤ _; omega, by show (e.ρ 14).toI ≤ _; omega, rfl⟩
    · intro e
      refine ⟨rfl, ?_, by show (e.ρ 12).toI ≤ _; omega, by show (e.ρ 14).toI ≤ _; omega, rfl⟩
      show (e.ρ 10).toI + (bif _ then (0 : Int) else 1) ≤ _
      rw [cond_eq_ite]
      split <;> omega
    · intro e; exact ⟨rfl, by show (e.ρ 10).toI ≤ _; omega, by show (e.ρ 12).toI ≤ _; omega, by show (e.ρ 14).toI ≤ _; omega, rfl⟩
  obtain ⟨hl, q1, q2, q3, q4⟩ := key _ h1 (eP 1 (.p x a))
  rw [ev_part (by omega)] at q1 q2 q3 q4
  unfold rdSD
  rw [map_prt hl _ (by omega), map_prt hl _ (by omega), map_prt hl _ (by omega), map_prt hl _ (by omega)]
  exact ⟨q1, q2, q3, q4⟩
/-! One step. -/
end Go.Proofs.YtafkhelomlmlpaaGreat
