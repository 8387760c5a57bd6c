/-
  The cases of the law about what is open. Conditions: none.
-/
import Derived.Test.YtmjapmghihalpaaGreatHdO
set_option linter.unusedSectionVars false
set_option linter.unusedVariables false
set_option linter.unusedSimpArgs false
namespace Go.Proofs.YtmjapmghihalpaaGreat
open Go Go.AE Go.SX Go.RowKit
set_option maxRecDepth 1000000
/-! Where nothing is, nothing changes. -/
theorem open_parts {sp : List X} (h : sp = chg []) (e : En) {i : Nat} (hi : i < 19) : (sp.getD i .nil).den e = e.ρ i := by
  subst h
  have h1 : (List.range 19).all (fun i => stays (chg []) i) = true := by kernel_rfl
  exact stays_ok (List.all_eq_true.1 h1 i (List.mem_range.2 hi)) e
theorem whP1 (x a : D) : whP (eP 1 (.p x a)) = whI (a.toI % 8192 + 2088960) := by
  show whI (((eP 1 (.p x a)).ρ 19).toI % 8192 + 2088960) = _
  rw [ev_arg]
theorem whP2 (x a b : D) : whP (eP 2 (.p x (.p a b))) = whI (a.toI % 8192 + 2088960) := by
  have e1 : (eP 2 (.p x (.p a b))).ρ 19 = a := by
    show (comps 19 x ++ [a, b]).getD 19 .u = a
    rw [List.getD_eq_getElem?_getD, List.getElem?_append_right (by rw [comps_len]; exact Nat.le_refl _), comps_len]; rfl
  show whI (((eP 2 (.p x (.p a b))).ρ 19).toI % 8192 + 2088960) = _
  rw [e1]
theorem wh_io (n : Int) : 2 ≤ whI (n % 8192 + 2088960) := by
  unfold whI
  repeat' split
  all_goals omega
theorem wr_open {x a b : D} (h : whI (a.toI % 8192 + 2088960) ≤ 4) {i : Nat} (hi : i < 19) : prt (wrSD (.p x (.p a b))) i = prt x i := by
  have hw : whP (eP 2 (.p x (.p a b))) = whI (a.toI % 8192 + 2088960) := whP2 x a b
  have h0 := (whI_rg (a.toI % 8192 + 2088960)).1
  unfold wrSD
  rw [hw]
  have hr : rowOf wrTab (whI (a.toI % 8192 + 2088960)) = ⟨0, 4, .nil, chg []⟩ := by
    generalize whI (a.toI % 8192 + 2088960) = w at h h0 ⊢
    rcases (by omega : w = 0 ∨ w = 1 ∨ w = 2 ∨ w = 3 ∨ w = 4) with rfl | rfl | rfl | rfl | rfl <;> rfl
  rw [hr, map_prt rfl _ hi, open_parts rfl _ hi, ev_part hi]
theorem rd_open {x a : D} (h : whI (a.toI % 8192 + 2088960) ≤ 2) : (∀ {i : Nat}, i < 19 → prt (rdSD (.p x a)) i = prt x i) ∧ rdVD (.p x a) = .i 255 := by
  have hw : whP (eP 1 (.p x a)) = whI (a.toI % 8192 + 2088960) := whP1 x a
  have h0 := (whI_rg (a.toI % 8192 + 2088960)).1
  have hr : rowOf rdTab (whI (a.toI % 8192 + 2088960)) = ⟨0, 2, .i 255, chg []⟩ := by
    generalize whI (a.toI % 8192 + 2088960) = w at h h0 ⊢
    rcases (by omega : w = 0 ∨ w = 1 ∨ w = 2) with rfl | rfl | rfl <;> rfl
  constructor
  · intro i hi
    unfold rdSD
    rw [hw, hr, map_prt rfl _ hi, open_parts rfl _ hi, ev_part hi]
  · unfold rdVD
    rw [hw, hr]; rfl
theorem fsRd_ok {x a : D} {k : Int} (h : GoodSt x k) (hk : k < 1000) (h0 : 0 ≤ a.toI) (h1 : a.toI ≤ 65535) : ∀ f ∈ fsRd, f.r.has (f.e.I (eP 1 (.p x a))) := by
  obtain ⟨hi, hn⟩ := h
  have hb : ∀ i : Nat, i < 19 → (prt x i).toI ≤ k → (Rg.mk none (some (big - 1))).has ((X.v i).I (eP 1 (.p x a))) := fun i hi hk' => by
    show (Rg.mk none (some (big - 1))).has ((eP 1 (.p x a)).ρ i).toI
    rw [ev_part hi]
    refine ⟨fun _ h => (by cases h), fun y hy => ?_⟩
    cases hy
    show _ ≤ (2305843009213693952 : Int) - 1
    omega
  refine all_cons' ?_ (all_cons' (hb 10 (by omega) hn.f0) (all_cons' (hb 12 (by omega) hn.f1) (all_cons' (hb 14 (by omega) hn.f2) all_nil')))
  show (Rg.mk (some 0) (some 65535)).has ((eP 1 (.p x a)).ρ 19).toI
  rw [ev_arg]; exact hasM h0 h1
/-- A device of the page tells what the buffer then holds. -/
theorem rd_tells {x a : D} {k : Int} (h : GoodSt x k) (hk : k < 1000) (h0 : 0 ≤ a.toI) (h1 : a.toI ≤ 65535) (h5 : 5 ≤ whI (a.toI % 8192 + 2088960)) : (prt (rdSD (.p x a)) 0).toI = (rdVD (.p x a)).toI := by
  have hw : whP (eP 1 (.p x a)) = whI (a.toI % 8192 + 2088960) := whP1 x a
  have hg := whI_rg (a.toI % 8192 + 2088960)
  have h4 : 5 ≤ whP (eP 1 (.p x a)) := by omega
  obtain ⟨hr, hlo, hhi⟩ := rd_row (whP (eP 1 (.p x a))) (by omega) (by omega)
  have hall := List.all_eq_true.1 rd_rg _ hr
  rw [Bool.and_eq_true] at hall
  have hl := Nat.eq_of_beq_eq_true hall.2
  have hsame : ((rowOf rdTab (whP (eP 1 (.p x a)))).sp.getD 0 .nil) = (rowOf rdTab (whP (eP 1 (.p x a)))).val := by
    generalize whP (eP 1 (.p x a)) = w at h4 hw ⊢
    rcases (by omega : w = 5 ∨ w = 6 ∨ w = 7 ∨ w = 8) with rfl | rfl | rfl | rfl <;> rfl
  have hfs := fsRd_ok h hk h0 h1
  obtain ⟨g1, g2⟩ := rng_in (e := eP 1 (.p x a)) hall.1 fun f hfm => by
    rcases List.mem_append.1 hfm with hfm | hfm
    · exact inv_app h.1 f hfm
    · rcases List.mem_cons.1 hfm with rfl | hfm
      · exact cs_has hlo hhi
      · exact hfs f hfm
  unfold rdSD rdVD
  rw [map_prt hl _ (by omega), hsame, clampI_eq g1 g2]
  rfl
/-! The cases. -/
def nilX : X := .o .rtake .nil (.i 0)
def NQ : X := gen.newX (.v 2) (.v 0) (.v 1) nilX
def PQ : X := plX NQ (.v 3)
def TQ : X := .ap 23 (.o .pair PQ (.o .pair (.v 4) (.v 5)))
def UQ : X := .ap 22 (.o .pair TQ (.v 4))
def VQ : X := .ap 21 (.o .pair TQ (.v 4))
def WQ : X := .ap 3 (.o .add (.o .emod (.v 4) (.i 8192)) (.i 2088960))
def cq (x : X) (i : Nat) : X := (compX 19 x).getD i .nil
def allX : List X → X
  | [] => .b true
  | [x] => x
  | x :: y :: l => .o .and x (allX (y :: l))
theorem allX_ok {e : En} : ∀ {l : List X}, (∀ x ∈ l, x.B e = true) → (allX l).B e = true
  | [], _ => rfl
  | [x], h => h x List.mem_cons_self
  | x :: y :: l, h => and_B (h x List.mem_cons_self) (allX_ok fun z hz => h z (List.mem_cons_of_mem _ hz))
def qI : List Nat := [0, 1, 2, 5, 7, 4, 12, 14, 10]
def qB : List Nat := [3, 6, 17]
def sameX (a b : X) : List X := qI.map (fun i => .o .eq (cq a i) (cq b i)) ++ qB.map fun i => .o .beq (cq a i) (cq b i)
theorem sameX_ok {a b : X} {e : En} (h : ∀ {i : Nat}, i < 19 → prt (a.den e) i = prt (b.den e) i) : ∀ x ∈ sameX a b, x.B e = true := by
  intro x hx
  rcases List.mem_append.1 hx with hx | hx
  · obtain ⟨i, hi, rfl⟩ := List.mem_map.1 hx
    have hi : i < 19 := of_decide_eq_true (List.all_eq_true.1 (show qI.all (fun i => decide (i < 19)) = true by rfl) i hi)
    refine decide_eq_true ?_
    show ((cq a i).den e).toI = ((cq b i).den e).toI
    unfold cq
    rw [comp_den e _ i hi, comp_den e _ i hi, h hi]
  · obtain ⟨i, hi, rfl⟩ := List.mem_map.1 hx
    have hi : i < 19 := of_decide_eq_true (List.all_eq_true.1 (show qB.all (fun i => decide (i < 19)) = true by rfl) i hi)
    show (((cq a i).den e).toB == ((cq b i).den e).toB) = true
    unfold cq
    rw [comp_den e _ i hi, comp_den e _ i hi, h hi]
    exact beq_self_eq_true _
def lowQ (i : Nat) : X := .u .not (.o .lt (.i 2305843009213693951) (cq TQ i))
def ap8q : X := .u .not (.o .lt (.ap 8 nilX) (.i 0))
def baseQ : List X := [.u .not (.o .lt (.i 10000) (.u .len (.v 0))), .u .not (.o .lt (.i 10000) (.u .len (.v 1))), .u .not (.o .lt (.i 10000) (.u .len (.v 2))), ap8q, .ap 4 (.v 3), gdX NQ (.i 0), .u .not (.o .lt (.i 60) (.u .rlen (.v 3))), lowQ 10, lowQ 12, lowQ 14]
def isW (k : Int) : X := .o .eq WQ (.i k)
def q2 : X := allX (baseQ ++ (isW 2 :: .o .eq VQ (.i 255) :: (sameX TQ PQ ++ sameX UQ TQ)))
def q3 : X := allX (baseQ ++ (isW 3 :: sameX TQ PQ))
def q4 : X := allX (baseQ ++ (isW 4 :: sameX TQ PQ))
def q5 : X := allX (baseQ ++ [.u .not (.o .lt WQ (.i 5)), .o .eq (cq UQ 0) VQ])
theorem nq_good {e : En} (h0 : ¬ (10000 : Int) < (((e.ρ 0).toS.length : Nat) : Int)) (h1 : ¬ (10000 : Int) < (((e.ρ 1).toS.length : Nat) : Int)) (h2 : ¬ (10000 : Int) < (((e.ρ 2).toS.length : Nat) : Int)) : GoodSt (NQ.den e) 0 := by
  have h := gen_good (e := envOf [e.ρ 0, e.ρ 1, e.ρ 2, .r []]) h0 h1 h2 (by show ¬ (1000 : Int) < 0; omega) (by
    show decide ((Fam.Φ 8 (.r [])).toI < 0) = false
    rw [HOk4.h8]
    rfl)
  exact h
theorem ap8q_ok (e : En) : ap8q.B e = true := by
  show (!decide ((Fam.Φ 8 (.r [])).toI < 0)) = true
  rw [HOk4.h8]
  rfl
theorem quiet_cover (e : En) (a0 : 0 ≤ (e.ρ 4).toI) (a1 : (e.ρ 4).toI ≤ 65535) (b0 : 0 ≤ (e.ρ 5).toI) (b1 : (e.ρ 5).toI ≤ 255) : gen.longX.B e = true ∨ (X.u .not (.ap 4 (.v 3))).B e = true ∨ q2.B e = true ∨ q3.B e = true ∨ q4.B e = true ∨ q5.B e = true := by
  cases h4 : (X.ap 4 (.v 3)).B e with
  | false => exact .inr (.inl (not_B h4))
  | true =>
  cases hb : gen.longX.B e with
  | true => exact .inl rfl
  | false =>
  right; right
  have hb : (decide ((10000 : Int) < (((e.ρ 0).toS.length : Nat) : Int)) || (decide ((10000 : Int) < (((e.ρ 1).toS.length : Nat) : Int)) || decide ((10000 : Int) < (((e.ρ 2).toS.length : Nat) : Int)))) = false := hb
  simp only [Bool.or_eq_false_iff, decide_eq_false_iff_not] at hb
  obtain ⟨c0, c1, c2⟩ := hb
  have hn := nq_good c0 c1 c2
  have n3 : nearL (e.ρ 3).toR = true := by
    have h4 : (Fam.Φ 4 (e.ρ 3)).toB = true := h4
    rw [HOk5.h4] at h4
    exact h4
  have l3 := nearL_len n3
  have hp : GoodSt (PQ.den e) 60 := play_good hn n3 (by omega)
  have tE : TQ.den e = wrSD (.p (PQ.den e) (.p (e.ρ 4) (e.ρ 5))) := by
    show Fam.Φ 23 (.p (PQ.den e) (.p (e.ρ 4) (e.ρ 5))) = _
    rw [HOk3.h23]
  have uE : UQ.den e = rdSD (.p (TQ.den e) (e.ρ 4)) := by
    show Fam.Φ 22 (.p (TQ.den e) (e.ρ 4)) = _
    rw [HOk3.h22]
  have vE : VQ.den e = rdVD (.p (TQ.den e) (e.ρ 4)) := by
    show Fam.Φ 21 (.p (TQ.den e) (e.ρ 4)) = _
    rw [HOk3.h21]
  have wE : WQ.I e = whI ((e.ρ 4).toI % 8192 + 2088960) := by
    show (Fam.Φ 3 (.i ((e.ρ 4).toI % 8192 + 2088960))).toI = _
    rw [HOk1.h3]; rfl
  have ht : GoodSt (TQ.den e) 61 := by
    rw [tE]; exact good_wr hp (by omega) a0 a1 b0 b1
  have low : ∀ i : Nat, i < 19 → (prt (TQ.den e) i).toI ≤ 61 → (lowQ i).B e = true := fun i hi h => by
    refine not_B (decide_eq_false ?_)
    show ¬ (2305843009213693951 : Int) < ((cq TQ i).den e).toI
    unfold cq
    rw [comp_den e _ i hi]
    omega
  have hbase : ∀ x ∈ baseQ, x.B e = true := all_cons' (not_B (decide_eq_false c0)) (all_cons' (not_B (decide_eq_false c1)) (all_cons' (not_B (decide_eq_false c2)) (all_cons' (ap8q_ok e) (all_cons' h4 (all_cons' ((gdX_iff e _ _).2 hn) (all_cons' (not_B (decide_eq_false (by show ¬ (60 : Int) < (((e.ρ 3).toR.length : Nat) : Int); omega))) (all_cons' (low 10 (by omega) ht.2.f0) (all_cons' (low 12 (by omega) ht.2.f1) (all_cons' (low 14 (by omega) ht.2.f2) all_nil')))))))))
  have app : ∀ l : List X, (∀ x ∈ l, x.B e = true) → (allX (baseQ ++ l)).B e = true := fun l h => allX_ok fun x hx => by
    rcases List.mem_append.1 hx with hx | hx
    · exact hbase x hx
    · exact h x hx
  have w2 := wh_io (e.ρ 4).toI
  have wIs : ∀ k : Int, whI ((e.ρ 4).toI % 8192 + 2088960) = k → (isW k).B e = true := fun k h => decide_eq_true (wE.trans h)
  have sT : whI ((e.ρ 4).toI % 8192 + 2088960) ≤ 4 → ∀ x ∈ sameX TQ PQ, x.B e = true := fun h => sameX_ok fun {i} hi => by rw [tE]; exact wr_open h hi
  by_cases e2 : whI ((e.ρ 4).toI % 8192 + 2088960) = 2
  · left
    have h := rd_open (x := TQ.den e) (a := e.ρ 4) (by omega)
    refine app _ (all_cons' (wIs 2 e2) (all_cons' (decide_eq_true ?_) fun x hx => ?_))
    · show (VQ.den e).toI = 255
      rw [vE, h.2]; rfl
    · rcases List.mem_append.1 hx with hx | hx
      · exact sT (by omega) x hx
      · exact sameX_ok (fun {i} hi => by rw [uE]; exact h.1 hi) x hx
  right
  by_cases e3 : whI ((e.ρ 4).toI % 8192 + 2088960) = 3
  · left; exact app _ (all_cons' (wIs 3 e3) (sT (by omega)))
  right
  by_cases e4 : whI ((e.ρ 4).toI % 8192 + 2088960) = 4
  · left; exact app _ (all_cons' (wIs 4 e4) (sT (by omega)))
  right
  refine app _ (all_cons' (not_B (decide_eq_false ?_)) (all_cons' (decide_eq_true ?_) all_nil'))
  · show ¬ WQ.I e < 5
    rw [wE]; omega
  · show ((cq UQ 0).den e).toI = (VQ.den e).toI
    unfold cq
    rw [comp_den e _ 0 (by omega), uE, vE]
    exact rd_tells ht (by omega) a0 a1 (by omega)
end Go.Proofs.YtmjapmghihalpaaGreat
