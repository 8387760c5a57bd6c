/-
  What holds of a page's state all the way: its parts are in their ranges, and its time and its feeds are not far. Conditions: none.
-/
import Derived.Test.YtnibdhcfkjmnaaaGreatHdQ
set_option linter.unusedSectionVars false
set_option linter.unusedVariables false
set_option linter.unusedSimpArgs false
namespace Go.Proofs.YtnibdhcfkjmnaaaGreat
open Go Go.AE Go.SX Go.RowKit
set_option maxRecDepth 1000000
variable [HF]
def prt (x : D) (i : Nat) : D := (comps 19 x).getD i .u
structure NearSt (x : D) (k : Int) : Prop where
  k0 : 0 ≤ k
  k1 : k ≤ 1000
  now : (prt x 18).toI ≤ 1000001 * k
  f0 : (prt x 10).toI ≤ k
  f1 : (prt x 12).toI ≤ k
  f2 : (prt x 14).toI ≤ k
def GoodSt (x : D) (k : Int) : Prop := tm1.inv x ∧ NearSt x k
theorem pc_den (e : En) (n i : Nat) (hi : i < 19) : (pc n i).den e = prt (e.ρ n) i := by
  unfold pc prt
  rw [← show (compX 19 (.v n)).map (X.den e) = comps 19 (e.ρ n) from compX_den e 19 (.v n)]
  rw [List.getD_eq_getElem?_getD, List.getD_eq_getElem?_getD, List.getElem?_map, List.getElem?_eq_getElem (by rw [compX_len]; exact hi)]
  rfl
variable [HOk1] [HOk2] [HOk3]
theorem tm1_ok : tm1.ok = true := HOk2.tm1.1
/-- The parts of a state, and what is handed over. -/
theorem inv_as {d : D} {qs : List D} (h : tm1.inv d) : ∀ c ∈ asPage, c.B (envOf (comps 19 d ++ qs)) = true := by
  intro f hf
  have h1 := h.2 f hf
  have hsc : f.sc 19 = true := List.all_eq_true.1 (show asPage.all (X.sc 19) = true by kernel_rfl) f hf
  have ha : Agv 19 (envOf (comps 19 d)) (envOf (comps 19 d ++ qs)) := fun k hk => by
    show (comps 19 d ++ qs).getD k .u = (comps 19 d).getD k .u
    rw [List.getD_eq_getElem?_getD, List.getD_eq_getElem?_getD, List.getElem?_append_left (by rw [comps_len]; exact hk)]
  have e1 : f.B (envOf (comps 19 d ++ qs)) = f.B (envOf (comps 19 d)) := by simp only [X.B, X.sc_den ha hsc]
  rw [e1]
  exact h1
theorem inv_to {d : D} {k n : Nat} {a : D} {sp : List X} {fs : List Fact} {xs : List X} (hl : sp.length = 19) (h : tmInv 12 ⟨n, fsPage ++ fs, asPage ++ xs⟩ tm1 (packX sp) = true) (hd : tm1.inv d) (hf : ∀ f ∈ fs, f.r.has (f.e.I (eP k (.p d a)))) (ha : ∀ x ∈ xs, x.B (eP k (.p d a)) = true) : tm1.inv (packD (sp.map (X.den (eP k (.p d a))))) := by
  have hg : (⟨n, fsPage ++ fs, asPage ++ xs⟩ : Gm).ok (eP k (.p d a)) := ⟨fun f hf' => by
    rcases List.mem_append.1 hf' with hf' | hf'
    · exact inv_app hd f hf'
    · exact hf f hf', fun x hx => by
    rcases List.mem_append.1 hx with hx | hx
    · exact inv_as hd x hx
    · exact ha x hx⟩
  have := tmInv_ok hg tm1_ok h
  rwa [packX_eq] at this
theorem row_mem {l : List Row} : ∀ {w : Int}, (∃ r ∈ l, r.lo ≤ w ∧ w ≤ r.hi) → rowOf l w ∈ l ∧ (rowOf l w).lo ≤ w ∧ w ≤ (rowOf l w).hi := by
  intro w h
  induction l with
  | nil => obtain ⟨r, hr, _⟩ := h; cases hr
  | cons x l ih =>
    unfold rowOf
    by_cases hx : x.lo ≤ w ∧ w ≤ x.hi
    · rw [if_pos hx]; exact ⟨List.mem_cons_self, hx⟩
    · rw [if_neg hx]
      obtain ⟨r, hr, h1⟩ := h
      rcases List.mem_cons.1 hr with rfl | hr
      · exact (hx h1).elim
      · obtain ⟨h2, h3⟩ := ih ⟨r, hr, h1⟩
        exact ⟨List.mem_cons_of_mem _ h2, h3⟩
theorem rd_row (w : Int) (h0 : 0 ≤ w) (h1 : w ≤ 8) : rowOf rdTab w ∈ rdTab ∧ (rowOf rdTab w).lo ≤ w ∧ w ≤ (rowOf rdTab w).hi := by
  rcases (by omega : w = 0 ∨ w = 1 ∨ w = 2 ∨ w = 3 ∨ w = 4 ∨ w = 5 ∨ w = 6 ∨ w = 7 ∨ w = 8) with rfl | rfl | rfl | rfl | rfl | rfl | rfl | rfl | rfl <;>
    exact ⟨by simp [rowOf, rdTab], by decide, by decide⟩
theorem wr_row (w : Int) (h0 : 0 ≤ w) (h1 : w ≤ 8) : rowOf wrTab w ∈ wrTab ∧ (rowOf wrTab w).lo ≤ w ∧ w ≤ (rowOf wrTab w).hi := by
  rcases (by omega : w = 0 ∨ w = 1 ∨ w = 2 ∨ w = 3 ∨ w = 4 ∨ w = 5 ∨ w = 6 ∨ w = 7 ∨ w = 8) with rfl | rfl | rfl | rfl | rfl | rfl | rfl | rfl | rfl <;>
    exact ⟨by simp [rowOf, wrTab], by decide, by decide⟩
theorem cs_has {e : En} {lo hi : Int} (h1 : lo ≤ whP e) (h2 : whP e ≤ hi) : (cs lo hi).r.has ((cs lo hi).e.I e) := by
  have h0 : (cs lo hi).e.I e = whP e := by
    show (Fam.Φ 3 (aX.den e)).toI = _
    rw [HOk1.h3]; rfl
  rw [h0]
  exact hasM h1 h2
theorem rd_inv_tab : rdTab.all (fun r => tmInv 12 ⟨20, fsPage ++ (cs r.lo r.hi :: fsRd), asPage ++ []⟩ tm1 (packX r.sp) && Nat.beq r.sp.length 19) = true := by kernel_rfl
theorem wr_inv_tab : wrTab.all (fun r => tmInv 12 ⟨21, fsPage ++ (cs r.lo r.hi :: fsWr), asPage ++ []⟩ tm1 (packX r.sp) && Nat.beq r.sp.length 19) = true := by kernel_rfl
theorem to_inv_tab : tmInv 12 ⟨20, fsPage ++ fsTo, asPage ++ [axTo]⟩ tm1 (packX spTo) = true := by kernel_rfl
theorem en_inv_tab : tmInv 12 ⟨20, fsPage ++ [⟨.v 19, ⟨some 0, some 255⟩⟩], asPage ++ []⟩ tm1 (packX spEn) = true := by kernel_rfl
theorem rd_inv {x a : D} (h : tm1.inv x) (hf : ∀ f ∈ fsRd, f.r.has (f.e.I (eP 1 (.p x a)))) : tm1.inv (rdSD (.p x a)) := by
  have hw := whI_rg (aX.I (eP 1 (.p x a)))
  obtain ⟨h1, h2, h3⟩ := rd_row (whP (eP 1 (.p x a))) hw.1 hw.2
  have h4 := List.all_eq_true.1 rd_inv_tab _ h1
  rw [Bool.and_eq_true] at h4
  exact inv_to (Nat.eq_of_beq_eq_true h4.2) h4.1 h (fun f hf' => by
    rcases List.mem_cons.1 hf' with rfl | hf'
    · exact cs_has h2 h3
    · exact hf f hf') fun x hx => by cases hx
theorem wr_inv {x a : D} (h : tm1.inv x) (hf : ∀ f ∈ fsWr, f.r.has (f.e.I (eP 2 (.p x a)))) : tm1.inv (wrSD (.p x a)) := by
  have hw := whI_rg (aX.I (eP 2 (.p x a)))
  obtain ⟨h1, h2, h3⟩ := wr_row (whP (eP 2 (.p x a))) hw.1 hw.2
  have h4 := List.all_eq_true.1 wr_inv_tab _ h1
  rw [Bool.and_eq_true] at h4
  exact inv_to (Nat.eq_of_beq_eq_true h4.2) h4.1 h (fun f hf' => by
    rcases List.mem_cons.1 hf' with rfl | hf'
    · exact cs_has h2 h3
    · exact hf f hf') fun x hx => by cases hx
theorem to_inv {x a : D} (h : tm1.inv x) (hf : ∀ f ∈ fsTo, f.r.has (f.e.I (eP 1 (.p x a)))) : tm1.inv (toSD (.p x a)) :=
  inv_to rfl to_inv_tab h hf fun y hy => by obtain rfl := List.mem_singleton.1 hy; exact axTo_ok _
theorem en_inv {x a : D} (h : tm1.inv x) (hf : ∀ f ∈ [(⟨.v 19, ⟨some 0, some 255⟩⟩ : Fact)], f.r.has (f.e.I (eP 1 (.p x a)))) : tm1.inv (enSD (.p x a)) :=
  inv_to rfl en_inv_tab h hf fun y hy => by cases hy
/-! Ranges of parts. -/
theorem ev_part {k : Nat} {x a : D} {i : Nat} (hi : i < 19) : (eP k (.p x a)).ρ i = prt x i := by
  show (comps 19 x ++ comps k a).getD i .u = (comps 19 x).getD i .u
  rw [List.getD_eq_getElem?_getD, List.getD_eq_getElem?_getD, List.getElem?_append_left (by rw [comps_len]; exact hi)]
theorem ev_arg {x a : D} : (eP 1 (.p x a)).ρ 19 = a := by
  show (comps 19 x ++ [a]).getD 19 .u = a
  rw [List.getD_eq_getElem?_getD, List.getElem?_append_right (by rw [comps_len]; exact Nat.le_refl _), comps_len]; rfl
theorem inv_rg {x : D} (h : tm1.inv x) {i : Nat} {lo hi : Int} (hi19 : i < 19) (hm : (⟨.v i, ⟨some lo, some hi⟩⟩ : Fact) ∈ fsPage) : lo ≤ (prt x i).toI ∧ (prt x i).toI ≤ hi := by
  obtain ⟨h1, h2⟩ := h.1 _ hm
  exact ⟨h1 _ rfl, h2 _ rfl⟩
theorem inv_pt {x : D} (h : tm1.inv x) : (ptOf x).Ok (relOf x) (edOf x) ∧ 0 ≤ (ptOf x).now := by
  have h1 := inv_rg h (i := 1) (lo := 0) (hi := 127) (by omega) (by simp [fsPage])
  have h2 := inv_rg h (i := 2) (lo := 0) (hi := 127) (by omega) (by simp [fsPage])
  have h4 := inv_rg h (i := 4) (lo := 1) (hi := 3072) (by omega) (by simp [fsPage])
  have h16 := inv_rg h (i := 16) (lo := 0) (hi := 1000) (by omega) (by simp [fsPage])
  have h18 := inv_rg h (i := 18) (lo := 0) (hi := big) (by omega) (by simp [fsPage])
  obtain ⟨_, hl⟩ := h.1 ⟨.u .rlen (.v 15), ⟨some 0, some 1000⟩⟩ (by show _ ∈ fsPage; simp [fsPage])
  have hl : (((prt x 15).toR.length : Nat) : Int) ≤ 1000 := hl _ rfl
  have hs : (!decide ((((prt x 15).toR.length : Nat) : Int) < (prt x 16).toI)) = true := h.2 (.u .not (.o .lt (.u .rlen (.v 15)) (.v 16))) (by show _ ∈ asPage; simp [asPage])
  simp only [Bool.not_eq_true', decide_eq_false_iff_not] at hs
  exact ⟨⟨h2.1, h2.2, h4.1, h4.2, h16.1, (by show (prt x 16).toI ≤ (((prt x 15).toR.length : Nat) : Int); omega), h1.1, h1.2, hl⟩, h18.1⟩
/-- Which parts an access may change: time stays, and feeds go on by one. -/
def stays (sp : List X) (i : Nat) : Bool := eqX (sp.getD i .nil) (.v i)
theorem stays_ok {sp : List X} {i : Nat} (h : stays sp i = true) (e : En) : (sp.getD i .nil).den e = e.ρ i := by rw [eqX_eq h]; rfl
theorem pack_prt {l : List D} (h : l.length = 19) (i : Nat) : prt (packD l) i = l.getD i .u := by unfold prt; rw [pack_comps h]
theorem map_prt {sp : List X} (h : sp.length = 19) (e : En) {i : Nat} (hi : i < 19) : prt (packD (sp.map (X.den e))) i = (sp.getD i .nil).den e := by
  rw [pack_prt (by rw [List.length_map]; exact h), List.getD_eq_getElem?_getD, List.getD_eq_getElem?_getD, List.getElem?_map, List.getElem?_eq_getElem (by omega)]; rfl
theorem wr_stays_tab : wrTab.all (fun r => stays r.sp 10 && (stays r.sp 12 && (stays r.sp 14 && stays r.sp 18))) = true := by kernel_rfl
theorem wr_parts (x a : D) : prt (wrSD (.p x a)) 10 = prt x 10 ∧ prt (wrSD (.p x a)) 12 = prt x 12 ∧ prt (wrSD (.p x a)) 14 = prt x 14 ∧ prt (wrSD (.p x a)) 18 = prt x 18 := by
  have hw := whI_rg (aX.I (eP 2 (.p x a)))
  obtain ⟨h1, _, _⟩ := wr_row (whP (eP 2 (.p x a))) hw.1 hw.2
  have h4 := List.all_eq_true.1 wr_inv_tab _ h1
  rw [Bool.and_eq_true] at h4
  have hl := Nat.eq_of_beq_eq_true h4.2
  have h5 := List.all_eq_true.1 wr_stays_tab _ h1
  simp only [Bool.and_eq_true] at h5
  unfold wrSD
  refine ⟨?_, ?_, ?_, ?_⟩
  · rw [map_prt hl _ (by omega), stays_ok h5.1, ev_part (by omega)]
  · rw [map_prt hl _ (by omega), stays_ok h5.2.1, ev_part (by omega)]
  · rw [map_prt hl _ (by omega), stays_ok h5.2.2.1, ev_part (by omega)]
  · rw [map_prt hl _ (by omega), stays_ok h5.2.2.2, ev_part (by omega)]
theorem en_parts (x a : D) : prt (enSD (.p x a)) 10 = prt x 10 ∧ prt (enSD (.p x a)) 12 = prt x 12 ∧ prt (enSD (.p x a)) 14 = prt x 14 ∧ prt (enSD (.p x a)) 18 = prt x 18 := by
  unfold enSD
  refine ⟨?_, ?_, ?_, ?_⟩ <;> rw [map_prt rfl _ (by omega), stays_ok rfl, ev_part (by omega)]
theorem to_parts (x a : D) : prt (toSD (.p x a)) 10 = prt x 10 ∧ prt (toSD (.p x a)) 12 = prt x 12 ∧ prt (toSD (.p x a)) 14 = prt x 14 ∧ (prt (toSD (.p x a)) 18).toI = if (prt x 18).toI < a.toI then a.toI else (prt x 18).toI := by
  have h : prt (toSD (.p x a)) 18 = .i (bif decide ((prt x 18).toI < a.toI) then a.toI else (prt x 18).toI) := by
    unfold toSD
    rw [map_prt rfl _ (by omega)]
    show D.i (bif decide (((eP 1 (.p x a)).ρ 18).toI < ((eP 1 (.p x a)).ρ 19).toI) then ((eP 1 (.p x a)).ρ 19).toI else ((eP 1 (.p x a)).ρ 18).toI) = _
    rw [ev_part (by omega), ev_arg]
  refine ⟨?_, ?_, ?_, ?_⟩
  · unfold toSD; rw [map_prt rfl _ (by omega), stays_ok rfl, ev_part (by omega)]
  · unfold toSD; rw [map_prt rfl _ (by omega), stays_ok rfl, ev_part (by omega)]
  · unfold toSD; rw [map_prt rfl _ (by omega), stays_ok rfl, ev_part (by omega)]
  · rw [h]
    show (bif decide _ then a.toI else _) = _
    rw [cond_eq_ite]; simp only [decide_eq_true_eq]
theorem rd_parts (x a : D) : (prt (rdSD (.p x a)) 10).toI ≤ (prt x 10).toI + 1 ∧ (prt (rdSD (.p x a)) 12).toI ≤ (prt x 12).toI + 1 ∧ (prt (rdSD (.p x a)) 14).toI ≤ (prt x 14).toI + 1 ∧ prt (rdSD (.p x a)) 18 = prt x 18 := by
  have hw := whI_rg (aX.I (eP 1 (.p x a)))
  obtain ⟨h1, _, _⟩ := rd_row (whP (eP 1 (.p x a))) hw.1 hw.2
  have key : ∀ r ∈ rdTab, ∀ e : En, r.sp.length = 19 ∧ ((r.sp.getD 10 .nil).den e).toI ≤ (e.ρ 10).toI + 1 ∧ ((r.sp.getD 12 .nil).den e).toI ≤ (e.ρ 12).toI + 1 ∧ ((r.sp.getD 14 .nil).den e).toI ≤ (e.ρ 14).toI + 1 ∧ (r.sp.getD 18 .nil).den e = e.ρ 18 := by
    refine all_cons' ?_ (all_cons' ?_ (all_cons' ?_ (all_cons' ?_ (all_cons' ?_ (all_cons' ?_ (all_cons' ?_ all_nil'))))))
    · intro e; exact ⟨rfl, by show (e.ρ 10).toI ≤ _; omega, by show (e.ρ 12).toI ≤ _; omega, by show (e.ρ 14).toI ≤ _; omega, rfl⟩
    · intro e; exact ⟨rfl, by show (e.ρ 10).toI ≤ _; omega, Int.le_refl _, by show (e.ρ 14).toI ≤ _; omega, rfl⟩
    · intro e; exact ⟨rfl, by show (e.ρ 10).toI ≤ _; omega, by show (e.ρ 12).toI ≤ _; omega, Int.le_refl _, rfl⟩
    · intro e; exact ⟨rfl, by show (e.ρ 10).toI ≤ _; omega, by show (e.ρ 12).toI ≤ _; omega, by show (e.ρ 14).toI ≤ _; omega, rfl⟩
    · intro e; exact ⟨rfl, by show (e.ρ 10).toI ≤ _; omega, by show (e.ρ 12).toI ≤ _; omega, by show (e.ρ 14).toI ≤ _; omega, rfl⟩
    · intro e
      refine ⟨rfl, ?_, by show (e.ρ 12).toI ≤ _; omega, by show (e.ρ 14).toI ≤ _; omega, rfl⟩
      show (e.ρ 10).toI + (bif _ then (0 : Int) else 1) ≤ _
      rw [cond_eq_ite]
      split <;> omega
    · intro e; exact ⟨rfl, by show (e.ρ 10).toI ≤ _; omega, by show (e.ρ 12).toI ≤ _; omega, by show (e.ρ 14).toI ≤ _; omega, rfl⟩
  obtain ⟨hl, q1, q2, q3, q4⟩ := key _ h1 (eP 1 (.p x a))
  rw [ev_part (by omega)] at q1 q2 q3 q4
  unfold rdSD
  rw [map_prt hl _ (by omega), map_prt hl _ (by omega), map_prt hl _ (by omega), map_prt hl _ (by omega)]
  exact ⟨q1, q2, q3, q4⟩
/-! One step. -/
theorem good_rd {x a : D} {k : Int} (h : GoodSt x k) (hk : k < 1000) (h0 : 0 ≤ a.toI) (h1 : a.toI ≤ 65535) : GoodSt (rdSD (.p x a)) (k + 1) := by
  obtain ⟨hi, hn⟩ := h
  obtain ⟨q1, q2, q3, q4⟩ := rd_parts x a
  refine ⟨rd_inv hi ?_, by have := hn.k0; omega, by omega, by rw [q4]; have := hn.now; omega, by have := hn.f0; omega, by have := hn.f1; omega, by have := hn.f2; omega⟩
  have hb : ∀ i : Nat, i < 19 → (prt x i).toI ≤ k → (Rg.mk none (some (big - 1))).has ((X.v i).I (eP 1 (.p x a))) := fun i hi hk' => by
    show (Rg.mk none (some (big - 1))).has ((eP 1 (.p x a)).ρ i).toI
    rw [ev_part hi]
    refine ⟨fun _ h => (by cases h), fun y hy => ?_⟩
    cases hy
    show _ ≤ (2305843009213693952 : Int) - 1
    omega
  refine all_cons' ?_ (all_cons' (hb 10 (by omega) hn.f0) (all_cons' (hb 12 (by omega) hn.f1) (all_cons' (hb 14 (by omega) hn.f2) all_nil')))
  show (Rg.mk (some 0) (some 65535)).has ((eP 1 (.p x a)).ρ 19).toI
  rw [ev_arg]; exact hasM h0 h1
theorem good_wr {x a b : D} {k : Int} (h : GoodSt x k) (hk : k < 1000) (h0 : 0 ≤ a.toI) (h1 : a.toI ≤ 65535) (h2 : 0 ≤ b.toI) (h3 : b.toI ≤ 255) : GoodSt (wrSD (.p x (.p a b))) (k + 1) := by
  obtain ⟨hi, hn⟩ := h
  obtain ⟨q1, q2, q3, q4⟩ := wr_parts x (.p a b)
  refine ⟨wr_inv hi ?_, by have := hn.k0; omega, by omega, by rw [q4]; have := hn.now; omega, by rw [q1]; have := hn.f0; omega, by rw [q2]; have := hn.f1; omega, by rw [q3]; have := hn.f2; omega⟩
  have e1 : (eP 2 (.p x (.p a b))).ρ 19 = a := by
    show (comps 19 x ++ [a, b]).getD 19 .u = a
    rw [List.getD_eq_getElem?_getD, List.getElem?_append_right (by rw [comps_len]; exact Nat.le_refl _), comps_len]; rfl
  have e2 : (eP 2 (.p x (.p a b))).ρ 20 = b := by
    show (comps 19 x ++ [a, b]).getD 20 .u = b
    rw [List.getD_eq_getElem?_getD, List.getElem?_append_right (by rw [comps_len]; omega), comps_len]; rfl
  refine all_cons' ?_ (all_cons' ?_ all_nil')
  · show (Rg.mk (some 0) (some 65535)).has ((eP 2 (.p x (.p a b))).ρ 19).toI
    rw [e1]; exact hasM h0 h1
  · show (Rg.mk (some 0) (some 255)).has ((eP 2 (.p x (.p a b))).ρ 20).toI
    rw [e2]; exact hasM h2 h3
theorem good_en {x a : D} {k : Int} (h : GoodSt x k) (hk : k < 1000) (h0 : 0 ≤ a.toI) (h1 : a.toI ≤ 255) : GoodSt (enSD (.p x a)) (k + 1) := by
  obtain ⟨hi, hn⟩ := h
  obtain ⟨q1, q2, q3, q4⟩ := en_parts x a
  refine ⟨en_inv hi ?_, by have := hn.k0; omega, by omega, by rw [q4]; have := hn.now; omega, by rw [q1]; have := hn.f0; omega, by rw [q2]; have := hn.f1; omega, by rw [q3]; have := hn.f2; omega⟩
  refine all_cons' ?_ all_nil'
  show (Rg.mk (some 0) (some 255)).has ((eP 1 (.p x a)).ρ 19).toI
  rw [ev_arg]; exact hasM h0 h1
theorem fsTo_ok {x a : D} (h0 : 0 ≤ a.toI) (h1 : a.toI ≤ big) (h2 : a.toI - (prt x 18).toI ≤ 281474976710656) : ∀ f ∈ fsTo, f.r.has (f.e.I (eP 1 (.p x a))) := by
  refine all_cons' ?_ (all_cons' ?_ all_nil')
  · show (Rg.mk (some 0) (some big)).has ((eP 1 (.p x a)).ρ 19).toI
    rw [ev_arg]; exact hasM h0 h1
  · show (Rg.mk none (some 281474976710656)).has (((eP 1 (.p x a)).ρ 18).toI * -1 + ((eP 1 (.p x a)).ρ 19).toI)
    rw [ev_arg, ev_part (by omega)]
    refine ⟨fun _ h => (by cases h), fun y hy => ?_⟩
    cases hy
    omega
theorem good_to {x a : D} {k n : Int} (h : GoodSt x k) (hk : k < 1000) (ha : a.toI = (prt x 18).toI + n) (h0 : 0 ≤ n) (h1 : n ≤ 1000000) : GoodSt (toSD (.p x a)) (k + 1) := by
  obtain ⟨hi, hn⟩ := h
  obtain ⟨q1, q2, q3, q4⟩ := to_parts x a
  have h18 := inv_rg hi (i := 18) (lo := 0) (hi := big) (by omega) (by simp [fsPage])
  have hb := hn.now
  refine ⟨to_inv hi (fsTo_ok (by omega) (by show _ ≤ (2305843009213693952 : Int); omega) (by omega)), by have := hn.k0; omega, by omega, ?_, by rw [q1]; have := hn.f0; omega, by rw [q2]; have := hn.f1; omega, by rw [q3]; have := hn.f2; omega⟩
  rw [q4]
  split <;> omega
end Go.Proofs.YtnibdhcfkjmnaaaGreat
