/-
  Gone on in parts: what holds all the way. Conditions: none.
-/
import Derived.Test.YtmjapmghihalpaaGreatHdL
set_option linter.unusedSectionVars false
set_option linter.unusedVariables false
set_option linter.unusedSimpArgs false
namespace Go.Proofs.YtmjapmghihalpaaGreat
open Go Go.AE Go.SX Go.RowKit
set_option maxRecDepth 1000000
variable [HF]
/-- Another one that went on by parts, behind i of them, at s. -/
structure SameP (q p : D) (s i : Int) : Prop where
  inv : tm1.inv p
  i0 : 0 ≤ i
  i1 : i ≤ 1000
  far : (prt p 18).toI ≤ 1000001000
  s0 : (prt p 18).toI ≤ s
  s1 : s ≤ (prt p 18).toI + 4294967296 * i
  same : SameSt q (toSD (.p p (.i s)))
open Classical in
class HOk7 : Prop where
  h29 : ∀ d, Fam.Φ 29 d = .b (decide (SameP d.fst d.snd.fst d.snd.snd.fst.toI d.snd.snd.snd.toI))
variable [HOk1] [HOk2] [HOk3] [HOk4] [HOk5] [HOk6] [HOk7]
def gpX (q p s i : X) : X := .ap 29 (.o .pair q (.o .pair p (.o .pair s i)))
theorem gpX_iff (e : En) (q p s i : X) : (gpX q p s i).B e = true ↔ SameP (q.den e) (p.den e) (s.I e) (i.I e) := by
  show (Fam.Φ 29 (.p (q.den e) (.p (p.den e) (.p (s.den e) (i.den e))))).toB = true ↔ _
  rw [HOk7.h29]
  exact @decide_eq_true_iff _ (_)
theorem same_int {x y : D} (h : SameSt x y) (i : Nat) (hi : i = 0 ∨ i = 1 ∨ i = 2 ∨ i = 4 ∨ i = 5 ∨ i = 7 ∨ i = 10 ∨ i = 12 ∨ i = 14 ∨ i = 16 ∨ i = 18) : (prt x i).toI = (prt y i).toI := by
  obtain ⟨h1, h2⟩ := h
  have h1 : PT.mk (prt x 2).toI (prt x 4).toI (prt x 6).toB (prt x 16).toI (prt x 17).toB (prt x 18).toI = PT.mk (prt y 2).toI (prt y 4).toI (prt y 6).toB (prt y 16).toI (prt y 17).toB (prt y 18).toI := h1
  have h2 : [prt x 0, prt x 1, prt x 3, prt x 5, prt x 7, prt x 8, prt x 9, prt x 10, prt x 11, prt x 12, prt x 13, prt x 14, prt x 15] = [prt y 0, prt y 1, prt y 3, prt y 5, prt y 7, prt y 8, prt y 9, prt y 10, prt y 11, prt y 12, prt y 13, prt y 14, prt y 15] := h2
  simp only [PT.mk.injEq] at h1
  simp only [List.cons.injEq, and_true] at h2
  obtain ⟨a1, a2, a3, a4, a5, a6⟩ := h1
  obtain ⟨b0, b1, b3, b5, b7, b8, b9, b10, b11, b12, b13, b14, b15⟩ := h2
  rcases hi with rfl | rfl | rfl | rfl | rfl | rfl | rfl | rfl | rfl | rfl | rfl
  · rw [b0]
  · rw [b1]
  · exact a1
  · exact a2
  · rw [b5]
  · rw [b7]
  · rw [b10]
  · rw [b12]
  · rw [b14]
  · exact a4
  · exact a6
theorem same_bool {x y : D} (h : SameSt x y) (i : Nat) (hi : i = 3 ∨ i = 6 ∨ i = 17) : (prt x i).toB = (prt y i).toB := by
  obtain ⟨h1, h2⟩ := h
  have h1 : PT.mk (prt x 2).toI (prt x 4).toI (prt x 6).toB (prt x 16).toI (prt x 17).toB (prt x 18).toI = PT.mk (prt y 2).toI (prt y 4).toI (prt y 6).toB (prt y 16).toI (prt y 17).toB (prt y 18).toI := h1
  have h2 : [prt x 0, prt x 1, prt x 3, prt x 5, prt x 7, prt x 8, prt x 9, prt x 10, prt x 11, prt x 12, prt x 13, prt x 14, prt x 15] = [prt y 0, prt y 1, prt y 3, prt y 5, prt y 7, prt y 8, prt y 9, prt y 10, prt y 11, prt y 12, prt y 13, prt y 14, prt y 15] := h2
  simp only [PT.mk.injEq] at h1
  simp only [List.cons.injEq, and_true] at h2
  rcases hi with rfl | rfl | rfl
  · rw [h2.2.2.1]
  · exact h1.2.2.1
  · exact h1.2.2.2.2.1
theorem same_row {x y : D} (h : SameSt x y) : prt x 15 = prt y 15 := by
  have h2 : [prt x 0, prt x 1, prt x 3, prt x 5, prt x 7, prt x 8, prt x 9, prt x 10, prt x 11, prt x 12, prt x 13, prt x 14, prt x 15] = [prt y 0, prt y 1, prt y 3, prt y 5, prt y 7, prt y 8, prt y 9, prt y 10, prt y 11, prt y 12, prt y 13, prt y 14, prt y 15] := h.2
  simp only [List.cons.injEq, and_true] at h2
  obtain ⟨b0, b1, b3, b5, b7, b8, b9, b10, b11, b12, b13, b14, b15⟩ := h2
  exact b15
/-- Who is entered, by the parts alone. -/
def chP (L : List (List A)) (n : Int) (r due : Bool) (dis : Int) (mk : Bool) : Int :=
  clampI 0 5 (bif upF L 0 n.toNat then 1 else bif r then 2 else bif due && (!mk && decide (dis / 4 = 0)) then 3 else bif upF L 2 n.toNat && (!mk && decide (dis / 2 % 2 = 0)) then 4 else bif upF L 3 n.toNat && (!mk && decide (dis % 2 = 0)) then 5 else 0)
theorem chVD_eq (x a : D) : chVD (.p x a) = .i (chP (prt x 15).toR (prt x 16).toI (prt x 17).toB (prt x 6).toB (prt x 5).toI a.toB) := by
  have hu : ∀ k : Int, (Fam.Φ 0 (.p (prt x 15) (.p (prt x 16) (.i k)))).toB = upF (prt x 15).toR k (prt x 16).toI.toNat := fun k => by rw [HOk1.h0]; rfl
  unfold chVD
  have e15 : (eP 1 (.p x a)).ρ 15 = prt x 15 := ev_part (by omega)
  have e16 : (eP 1 (.p x a)).ρ 16 = prt x 16 := ev_part (by omega)
  have e17 : (eP 1 (.p x a)).ρ 17 = prt x 17 := ev_part (by omega)
  have e6 : (eP 1 (.p x a)).ρ 6 = prt x 6 := ev_part (by omega)
  have e5 : (eP 1 (.p x a)).ρ 5 = prt x 5 := ev_part (by omega)
  have e19 : (eP 1 (.p x a)).ρ 19 = a := ev_arg
  show D.i (clampI 0 5 (bif (Fam.Φ 0 (.p ((eP 1 (.p x a)).ρ 15) (.p ((eP 1 (.p x a)).ρ 16) (.i 0)))).toB then 1 else bif ((eP 1 (.p x a)).ρ 17).toB then 2 else bif ((eP 1 (.p x a)).ρ 6).toB && (!((eP 1 (.p x a)).ρ 19).toB && decide (((eP 1 (.p x a)).ρ 5).toI / 4 = 0)) then 3 else bif (Fam.Φ 0 (.p ((eP 1 (.p x a)).ρ 15) (.p ((eP 1 (.p x a)).ρ 16) (.i 2)))).toB && (!((eP 1 (.p x a)).ρ 19).toB && decide (((eP 1 (.p x a)).ρ 5).toI / 2 % 2 = 0)) then 4 else bif (Fam.Φ 0 (.p ((eP 1 (.p x a)).ρ 15) (.p ((eP 1 (.p x a)).ρ 16) (.i 3)))).toB && (!((eP 1 (.p x a)).ρ 19).toB && decide (((eP 1 (.p x a)).ρ 5).toI % 2 = 0)) then 5 else 0)) = _
  rw [e15, e16, e17, e6, e5, e19, hu, hu, hu]
  rfl
theorem same_ch {x y : D} (h : SameSt x y) (a : D) : chVD (.p x a) = chVD (.p y a) := by
  rw [chVD_eq, chVD_eq, same_row h, same_int h 16 (by simp), same_bool h 17 (by simp), same_bool h 6 (by simp), same_int h 5 (by simp)]
theorem comp_den (e : En) (x : X) (i : Nat) (hi : i < 19) : ((compX 19 x).getD i .nil).den e = prt (x.den e) i := by
  unfold prt
  rw [← compX_den e 19 x, List.getD_eq_getElem?_getD, List.getD_eq_getElem?_getD, List.getElem?_map, List.getElem?_eq_getElem (by rw [compX_len]; exact hi)]
  rfl
/-! What is used in the loop over the parts: how many, where one is, the page that goes by parts. -/
def PX : X := plX (newX0 (.v 0)) (.v 1)
def GP : X := gpX (.v 5) PX (.v 4) (.v 3)
def sN : X := .o .add (.v 4) (.u (.wrap .u32) (.o (.rI 0) (.v 2) (.v 3)))
def toP : X := .ap 20 (.o .pair PX (.v 4))
def impX (a b : X) : X := .u .not (.o .and a (.u .not b))
def pA (i : Nat) : X := (compX 19 toP).getD i .nil
def pQ (i : Nat) : X := (compX 19 (.v 5)).getD i .nil
def eqI' (i : Nat) : X := impX GP (.o .eq (pA i) (pQ i))
def eqB' (i : Nat) : X := impX GP (.o .beq (pA i) (pQ i))
def nx29 : X := impX (.o .and GP (.o .lt (.v 3) (.i 1000))) (gpX (.ap 20 (.o .pair (.v 5) sN)) PX sN (.o .add (.v 3) (.i 1)))
def lemP : List X := [.u .not (.o .and GP (.o .lt (.v 4) (.i 0))), .u .not (.o .and GP (.o .lt (.i 8796093022208) (.v 4))), .u .not (.o .and GP (.o .lt (nowX (.v 5)) (.i 0))), .u .not (.o .and GP (.o .lt (nowX PX) (.i 0))), nx29,
  eqI' 0, eqI' 1, eqI' 2, eqI' 5, eqI' 7, eqI' 4, eqI' 12, eqI' 14, eqI' 10, eqI' 18, eqB' 3, eqB' 6, eqB' 17, impX GP (.o .eq (.ap 26 (.o .pair toP (.b false))) (.ap 26 (.o .pair (.v 5) (.b false))))]
theorem imp_ok {a b : X} {e : En} (h : a.B e = true → b.B e = true) : (impX a b).B e = true := by
  show (!(a.B e && !b.B e)) = true
  cases ha : a.B e with
  | false => rfl
  | true => rw [h ha]; rfl
theorem GP_iff (e : En) : GP.B e = true ↔ SameP (e.ρ 5) (PX.den e) (e.ρ 4).toI (e.ρ 3).toI := gpX_iff e _ _ _ _
theorem to_den (e : En) : toP.den e = toSD (.p (PX.den e) (e.ρ 4)) := by
  show Fam.Φ 20 (.p (PX.den e) (e.ρ 4)) = _
  rw [HOk3.h20]
theorem toSD_i (p s : D) : toSD (.p p (.i s.toI)) = toSD (.p p s) := by
  have h : ∀ s : D, (eP 1 (.p p s)) = envOf (comps 19 p ++ [s]) := fun _ => rfl
  obtain ⟨a0, a1, a2, a3, a4, a5, a6, a7, a8, a9, a10, a11, a12, a13, a14, a15, a16, a17, a18, hx⟩ := parts19 p
  have e1 := toSD_comps (t := D.i s.toI) hx
  have e2 := toSD_comps (t := s) hx
  have e3 : comps 19 (toSD (.p p (.i s.toI))) = comps 19 (toSD (.p p s)) := by
    rw [e1, e2]; rfl
  have pk : ∀ d : D, toSD d = packD (comps 19 (toSD d)) := fun d => by
    unfold toSD
    rw [pack_comps rfl]
  rw [pk (.p p (.i s.toI)), pk (.p p s), e3]
theorem eqI_ok (i : Nat) (hi : i < 19) (h : i = 0 ∨ i = 1 ∨ i = 2 ∨ i = 4 ∨ i = 5 ∨ i = 7 ∨ i = 10 ∨ i = 12 ∨ i = 14 ∨ i = 16 ∨ i = 18) (e : En) : (eqI' i).B e = true := by
  refine imp_ok fun hg => ?_
  have hg := (GP_iff e).1 hg
  refine decide_eq_true ?_
  show ((pA i).den e).toI = ((pQ i).den e).toI
  unfold pA pQ
  rw [comp_den e _ i hi, comp_den e _ i hi, to_den, ← toSD_i]
  exact (same_int hg.same i h).symm
theorem eqB_ok (i : Nat) (hi : i < 19) (h : i = 3 ∨ i = 6 ∨ i = 17) (e : En) : (eqB' i).B e = true := by
  refine imp_ok fun hg => ?_
  have hg := (GP_iff e).1 hg
  show (((pA i).den e).toB == ((pQ i).den e).toB) = true
  unfold pA pQ
  rw [comp_den e _ i hi, comp_den e _ i hi, to_den, ← toSD_i]
  have : (prt (e.ρ 5) i).toB = (prt (toSD (.p (PX.den e) (.i (e.ρ 4).toI))) i).toB := same_bool hg.same i h
  rw [← this]
  show ((prt (e.ρ 5) i).toB == (prt (e.ρ 5) i).toB) = true
  exact beq_self_eq_true _
theorem now_ge {p : D} (h : tm1.inv p) : 0 ≤ (prt p 18).toI := (inv_pt h).2
theorem lemP_ok : ∀ x ∈ lemP, ∀ e : En, x.B e = true := by
  refine all_cons' (fun e => not_and fun h => ?_) (all_cons' (fun e => not_and fun h => ?_) (all_cons' (fun e => not_and fun h => ?_) (all_cons' (fun e => not_and fun h => ?_) (all_cons' (fun e => ?_)
    (all_cons' (eqI_ok 0 (by omega) (by simp)) (all_cons' (eqI_ok 1 (by omega) (by simp)) (all_cons' (eqI_ok 2 (by omega) (by simp)) (all_cons' (eqI_ok 5 (by omega) (by simp)) (all_cons' (eqI_ok 7 (by omega) (by simp)) (all_cons' (eqI_ok 4 (by omega) (by simp)) (all_cons' (eqI_ok 12 (by omega) (by simp)) (all_cons' (eqI_ok 14 (by omega) (by simp)) (all_cons' (eqI_ok 10 (by omega) (by simp)) (all_cons' (eqI_ok 18 (by omega) (by simp)) (all_cons' (eqB_ok 3 (by omega) (by simp)) (all_cons' (eqB_ok 6 (by omega) (by simp)) (all_cons' (eqB_ok 17 (by omega) (by simp)) (all_cons' (fun e => ?_) all_nil'))))))))))))))))))
  · have h := (GP_iff e).1 h
    refine decide_eq_false ?_
    show ¬ (e.ρ 4).toI < (0 : Int)
    have := now_ge h.inv
    have := h.s0
    omega
  · have h := (GP_iff e).1 h
    refine decide_eq_false ?_
    show ¬ (8796093022208 : Int) < (e.ρ 4).toI
    have := h.far
    have := h.s1
    have := h.i1
    omega
  · have h := (GP_iff e).1 h
    refine decide_eq_false ?_
    show ¬ ((nowX (.v 5)).den e).toI < (0 : Int)
    unfold nowX
    rw [comp_den e _ 18 (by omega)]
    have h1 : (prt (e.ρ 5) 18).toI = (prt (toSD (.p (PX.den e) (.i (e.ρ 4).toI))) 18).toI := same_int h.same 18 (by simp)
    have h2 := (to_parts (PX.den e) (.i (e.ρ 4).toI)).2.2.2
    have h3 := now_ge h.inv
    have h4 := h.s0
    show ¬ (prt (e.ρ 5) 18).toI < 0
    rw [h1, h2]
    show ¬ (if (prt (PX.den e) 18).toI < (e.ρ 4).toI then (e.ρ 4).toI else (prt (PX.den e) 18).toI) < 0
    split <;> omega
  · have h := (GP_iff e).1 h
    refine decide_eq_false ?_
    show ¬ ((nowX PX).den e).toI < (0 : Int)
    unfold nowX
    rw [comp_den e _ 18 (by omega)]
    have := now_ge h.inv
    omega
  · refine imp_ok fun h => ?_
    have h : (GP.B e && decide ((e.ρ 3).toI < 1000)) = true := h
    rw [Bool.and_eq_true] at h
    obtain ⟨h1, h2⟩ := h
    have h1 := (GP_iff e).1 h1
    have h2 := of_decide_eq_true h2
    refine (gpX_iff e _ _ _ _).2 ?_
    have hn : 0 ≤ IntKind.u32.wrap ((((e.ρ 2).toR).getD (e.ρ 3).toI.toNat []).getD 0 (.i 0)).toI ∧ IntKind.u32.wrap ((((e.ρ 2).toR).getD (e.ρ 3).toI.toNat []).getD 0 (.i 0)).toI ≤ 4294967295 := ⟨(wrap_rg .u32 _).1 _ rfl, (wrap_rg .u32 _).2 _ rfl⟩
    generalize hN : IntKind.u32.wrap ((((e.ρ 2).toR).getD (e.ρ 3).toI.toNat []).getD 0 (.i 0)).toI = N at hn
    have hs : sN.den e = .i ((e.ρ 4).toI + N) := by rw [← hN]; rfl
    have hq : (X.ap 20 (.o .pair (.v 5) sN)).den e = toSD (.p (e.ρ 5) (.i ((e.ρ 4).toI + N))) := by
      show Fam.Φ 20 (.p (e.ρ 5) (sN.den e)) = _
      rw [HOk3.h20, hs]
    have hsI : sN.I e = (e.ρ 4).toI + N := by show (sN.den e).toI = _; rw [hs]; rfl
    rw [hq, hsI]
    have g1 := h1.i0
    have g2 := h1.s0
    have g3 := h1.s1
    have g4 := h1.far
    refine ⟨h1.inv, ?_, ?_, h1.far, by omega, ?_, ?_⟩
    · show 0 ≤ (e.ρ 3).toI + 1; omega
    · show (e.ρ 3).toI + 1 ≤ 1000; omega
    · show _ ≤ _ + 4294967296 * ((e.ρ 3).toI + 1); omega
    · exact parts_step (inv_pt h1.inv).1 h1.same (by show (prt (PX.den e) 18).toI ≤ (e.ρ 4).toI; omega) (by show (e.ρ 4).toI ≤ (e.ρ 4).toI + N; omega) (by show (e.ρ 4).toI + N - (prt (PX.den e) 18).toI ≤ 281474976710656; omega)
  · refine imp_ok fun h => decide_eq_true ?_
    have h := (GP_iff e).1 h
    show (Fam.Φ 26 (.p (toP.den e) (.b false))).toI = (Fam.Φ 26 (.p (e.ρ 5) (.b false))).toI
    rw [HOk3.h26, HOk3.h26, to_den, ← toSD_i, same_ch h.same]
/-! The page behind all steps. -/
theorem play_good {x L : D} {k : Int} (h : GoodSt x k) (hn : nearL L.toR = true) (hk : k + 60 ≤ 1000) : GoodSt (Fam.Φ 30 (.p (.i 0) (.p x L))).snd (k + 60) := by
  rw [HOk6.h17]
  have hl := nearL_len hn
  obtain ⟨rs, ⟨a, y, rfl, _, hq⟩, h2⟩ := fix_out (cond := cond17) (next := next17) (np := 1) (d := .p (.i 0) (.p x L)) (ds := [.i 0, x, L])
    (R := fun ds => ∃ a y, ds = [a, y, L] ∧ 0 ≤ a.toI ∧ a.toI ≤ (L.toR.length : Nat) ∧ GoodSt y (k + a.toI))
    (Q := fun ds rs => ∃ a y, rs = [a, y, L] ∧ True ∧ GoodSt y (k + 60))
    (μ := fun ds => L.toR.length - (ds.getD 0 .u).toI.toNat) rfl ⟨.i 0, x, rfl, Int.le_refl _, Int.natCast_nonneg _, by show GoodSt x (k + 0); rw [Int.add_zero]; exact h⟩
    (by
      rintro ds ⟨a, y, rfl, h0, h1, hg⟩ _
      exact ⟨a, y, rfl, trivial, good_le hg (by omega) hk⟩)
    (by
      rintro ds ⟨a, y, rfl, h0, h1, hg⟩ hc
      have hc : decide (a.toI < ((L.toR.length : Nat) : Int)) = true := hc
      have hc := of_decide_eq_true hc
      have e1 : stepD next17 [a, y, L] = [.i (a.toI + 1), (stepX (.v 2) (.v 0) (.v 1)).den (envOf [a, y, L]), L] := rfl
      rw [e1]
      refine ⟨⟨_, _, rfl, by show 0 ≤ a.toI + 1; omega, by show a.toI + 1 ≤ _; omega, ?_⟩, ?_, fun rs h => h⟩
      · have := step_good (e := envOf [a, y, L]) (l := .v 2) (i := .v 0) (x := .v 1) (k := k + a.toI) hg (by omega) hn
        have e2 : k + a.toI + 1 = k + (a.toI + 1) := by omega
        rw [e2] at this
        exact this
      · show L.toR.length - (a.toI + 1).toNat < L.toR.length - a.toI.toNat
        omega)
  have h2 : [(fixD cond17 next17 1 (.p (.i 0) (.p x L))).fst, (fixD cond17 next17 1 (.p (.i 0) (.p x L))).snd] = [a, y] := h2
  simp only [List.cons.injEq, and_true] at h2
  rw [h2.2]
  exact hq
end Go.Proofs.YtmjapmghihalpaaGreat
