/-
  What the names stand for. Conditions: none.
-/
import Derived.Test.YtmjapmghihalpaaGreatHdM
import Derived.Test.YtmjapmghihalpaaGreatHdY
set_option linter.unusedSectionVars false
set_option linter.unusedVariables false
set_option linter.unusedSimpArgs false
namespace Go.Proofs.YtmjapmghihalpaaGreat
open Go Go.AE Go.SX Go.RowKit
set_option maxRecDepth 1000000
def phi0 : Nat → D → D
  | 0, d => upD d
  | 1, d => toD d
  | 2, d => goD d
  | 3, d => .i (whI d.toI)
  | 4, d => .b (nearL d.toR)
  | 7, d => .b (okL d.toR)
  | 8, d => .i ((badF d.toR d.toR.length 0 0 : Nat) : Int)
  | _, _ => .u
theorem whI_rg' (a : Int) : 0 ≤ whI a ∧ whI a ≤ 8 := by
  unfold whI
  repeat' split
  all_goals omega
theorem rg_of {Φ : Nat → D → D} (h : ∀ j, j < 10 → Φ j = phi0 j) : ∀ f p d, (rgH f p).has ((Φ f d).proj p).toI := by
  intro f p d
  unfold rgH
  split
  · rw [h 1 (by omega)]
    show (Rg.mk (some 0) (some 1000)).has (clampI 0 (min 1000 (d.fst.toR.length : Nat)) _)
    have h1 := clampI_has (lo := 0) (hi := min 1000 ((d.fst.toR.length : Nat) : Int)) (n := ((toF d.fst.toR d.snd.snd.snd.toI (d.fst.toR.length - d.snd.fst.toI.toNat) d.snd.fst.toI.toNat d.snd.snd.fst.toB).1 : Nat)) (by omega)
    refine hasM (h1.1 _ rfl) ?_
    have := h1.2 _ rfl
    omega
  · rw [h 2 (by omega)]; exact clampI_has (by omega)
  · rw [h 2 (by omega)]; exact clampI_has (by omega)
  · rw [h 2 (by omega)]; exact clampI_has (by omega)
  · rw [h 3 (by omega)]
    have := whI_rg' d.toI
    exact hasM this.1 this.2
  · exact hasT _
theorem sh_of {Φ : Nat → D → D} (h : ∀ j, j < 10 → Φ j = phi0 j) : ∀ f d d', (shH f).like d d' → Φ f d = Φ f d' := by
  intro f d d' hl
  unfold shH at hl
  split at hl
  · rw [h 0 (by omega)]
    obtain ⟨h1, h2, h3⟩ := hl
    have h1 : d.fst = d'.fst := h1
    have h2 : d.snd.fst.toI = d'.snd.fst.toI := h2
    have h3 : d.snd.snd.toI = d'.snd.snd.toI := h3
    show upD d = upD d'
    unfold upD
    rw [h1, h2, h3]
  · rw [h 1 (by omega)]
    obtain ⟨h1, h2, h3, h4⟩ := hl
    have h1 : d.fst = d'.fst := h1
    have h2 : d.snd.fst.toI = d'.snd.fst.toI := h2
    have h3 : d.snd.snd.fst.toB = d'.snd.snd.fst.toB := h3
    have h4 : d.snd.snd.snd.toI = d'.snd.snd.snd.toI := h4
    show toD d = toD d'
    unfold toD
    rw [h1, h2, h3, h4]
  · rw [h 2 (by omega)]
    obtain ⟨h1, h2, h3, h4, h5⟩ := hl
    have h1 : d.fst.toI = d'.fst.toI := h1
    have h2 : d.snd.fst.toI = d'.snd.fst.toI := h2
    have h3 : d.snd.snd.fst.toB = d'.snd.snd.fst.toB := h3
    have h4 : d.snd.snd.snd.fst.toI = d'.snd.snd.snd.fst.toI := h4
    have h5 : d.snd.snd.snd.snd.toI = d'.snd.snd.snd.snd.toI := h5
    show goD d = goD d'
    unfold goD
    rw [h1, h2, h3, h4, h5]
  · rw [h 3 (by omega)]
    have hl : d.toI = d'.toI := hl
    show D.i (whI d.toI) = D.i (whI d'.toI)
    rw [hl]
  · have hl : d = d' := hl
    rw [hl]
@[reducible] def H0 : HF := ⟨phi0, fun _ _ => noOb, rg_of fun _ _ => rfl, sh_of fun _ _ => rfl⟩
abbrev F0 : Fam := @famH H0
open Classical in
noncomputable def phi1 : Nat → D → D
  | 10, d => @fixD F0 condGo nextGo 1 d
  | 11, d => @fixD F0 cond11 next11 3 d
  | 12, d => @fixD F0 cond12 next12 2 d
  | 13, d => @fixD F0 cond13 next13 2 d
  | 14, d => @fixD F0 cond14 next14 1 d
  | 15, d => @fixD F0 cond15 next15 1 d
  | 16, d => @fixD F0 cond16 next16 1 d
  | 20, d => @toSD F0 d
  | 21, d => @rdVD F0 d
  | 22, d => @rdSD F0 d
  | 23, d => @wrSD F0 d
  | 24, d => @enSD F0 d
  | 26, d => @chVD F0 d
  | 28, d => .b (decide (@GoodSt H0 d.fst d.snd.toI))
  | 29, d => .b (decide (@SameP H0 d.fst d.snd.fst d.snd.snd.fst.toI d.snd.snd.snd.toI))
  | n, d => phi0 n d
theorem lt10 {j : Nat} (h : j < 10) : j = 0 ∨ j = 1 ∨ j = 2 ∨ j = 3 ∨ j = 4 ∨ j = 5 ∨ j = 6 ∨ j = 7 ∨ j = 8 ∨ j = 9 := by omega
theorem phi1_lt (j : Nat) (h : j < 10) : phi1 j = phi0 j := by
  rcases lt10 h with rfl | rfl | rfl | rfl | rfl | rfl | rfl | rfl | rfl | rfl <;> rfl
@[reducible] noncomputable def H1 : HF := ⟨phi1, fun _ _ => noOb, rg_of phi1_lt, sh_of phi1_lt⟩
noncomputable abbrev F1 : Fam := @famH H1
open Classical in
noncomputable def phi2 (n : Nat) (d : D) : D := if n = 30 then @fixD F1 cond17 next17 1 d else if n = 31 then .b (decide (@GoodSt H0 d.fst (d.snd.toI + 60))) else phi1 n d
theorem phi2_lt (j : Nat) (h : j < 30) : phi2 j = phi1 j := by
  funext d
  unfold phi2
  rw [if_neg (by omega), if_neg (by omega)]
theorem phi2_lt0 (j : Nat) (h : j < 10) : phi2 j = phi0 j := (phi2_lt j (by omega)).trans (phi1_lt j h)
noncomputable def ob2 : Nat → D → Ob
  | 1, d => obT Tryz.prog (@denM F0 (envOf (comps tm1.n d)) tm1.mem) (@Tm.inv F0 tm1 d)
  | 2, d => obT Tryz.prog (@denM F0 (envOf (comps tm2.n d)) tm2.mem) (@Tm.inv F0 tm2 d)
  | _, _ => noOb
@[reducible] noncomputable def H2 : HF := ⟨phi2, ob2, rg_of phi2_lt0, sh_of phi2_lt0⟩
noncomputable abbrev F2 : Fam := @famH H2
theorem ag0 : ∀ j, j < 10 → F0.Φ j = F2.Φ j := fun j h => (phi2_lt0 j h).symm
theorem ag1 : ∀ j, j < 30 → F1.Φ j = F2.Φ j := fun j h => (phi2_lt j h).symm
theorem at2 {n : Nat} (h : n < 30) (d : D) : @Fam.Φ F2 n d = phi1 n d := congrFun (phi2_lt n h) d
theorem dec_congr {p q : Prop} (h : p = q) : @decide p (Classical.propDecidable p) = @decide q (Classical.propDecidable q) := by subst h; rfl
theorem inv0 (d : D) : @Tm.inv F0 tm1 d = @Tm.inv F2 tm1 d := inv_lt ag0 (by kernel_rfl) d
theorem good0 (x : D) (k : Int) : @GoodSt H0 x k = @GoodSt H2 x k := by
  unfold GoodSt
  rw [inv0]
theorem samep0 (q p : D) (s i : Int) : @SameP H0 q p s i = @SameP H2 q p s i := by
  refine propext ⟨fun h => ?_, fun h => ?_⟩
  · obtain ⟨h1, h2, h3, h4, h5, h6, h7⟩ := h
    exact @SameP.mk H2 q p s i (inv0 p ▸ h1) h2 h3 h4 h5 h6 (toSD_lt ag0 _ ▸ h7)
  · obtain ⟨h1, h2, h3, h4, h5, h6, h7⟩ := h
    exact @SameP.mk H0 q p s i ((inv0 p).symm ▸ h1) h2 h3 h4 h5 h6 ((toSD_lt ag0 _).symm ▸ h7)
noncomputable instance : HF := H2
instance : HOk1 := {
  h0 := fun d => (at2 (by omega) d).trans rfl
  h1 := fun d => (at2 (by omega) d).trans rfl
  h2 := fun d => (at2 (by omega) d).trans rfl
  h3 := fun d => (at2 (by omega) d).trans rfl
  h7 := fun d => (at2 (by omega) d).trans rfl
  h10 := fun d => (at2 (by omega) d).trans (fixD_lt ag0 rfl rfl 1 d)
  h11 := fun d => (at2 (by omega) d).trans (fixD_lt ag0 rfl rfl 3 d)
  h12 := fun d => (at2 (by omega) d).trans (fixD_lt ag0 rfl rfl 2 d)
  h13 := fun d => (at2 (by omega) d).trans (fixD_lt ag0 rfl rfl 2 d) }
instance : HOk2 := {
  tm1 := ⟨by kernel_rfl, fun d => by
    show obT Tryz.prog (@denM F0 (envOf (comps tm1.n d)) tm1.mem) (@Tm.inv F0 tm1 d) = _
    rw [denM_lt ag0 _ _ (by kernel_rfl), inv_lt ag0 (by kernel_rfl)]⟩
  tm2 := ⟨by kernel_rfl, fun d => by
    show obT Tryz.prog (@denM F0 (envOf (comps tm2.n d)) tm2.mem) (@Tm.inv F0 tm2 d) = _
    rw [denM_lt ag0 _ _ (by kernel_rfl), inv_lt ag0 (by kernel_rfl)]⟩ }
instance : HOk3 := {
  h20 := fun d => (at2 (by omega) d).trans (toSD_lt ag0 d)
  h21 := fun d => (at2 (by omega) d).trans (rdVD_lt ag0 d)
  h22 := fun d => (at2 (by omega) d).trans (rdSD_lt ag0 d)
  h23 := fun d => (at2 (by omega) d).trans (wrSD_lt ag0 d)
  h24 := fun d => (at2 (by omega) d).trans (enSD_lt ag0 d)
  h26 := fun d => (at2 (by omega) d).trans (chVD_lt ag0 d) }
instance : HOk4 := {
  h8 := fun d => (at2 (by omega) d).trans rfl
  h14 := fun d => (at2 (by omega) d).trans (fixD_lt ag0 rfl rfl 1 d)
  h15 := fun d => (at2 (by omega) d).trans (fixD_lt ag0 rfl rfl 1 d) }
instance : HOk5 := {
  h4 := fun d => (at2 (by omega) d).trans rfl
  h16 := fun d => (at2 (by omega) d).trans (fixD_lt ag0 rfl rfl 1 d) }
instance : HOk6 := {
  h28 := fun d => (at2 (by omega) d).trans (congrArg D.b (dec_congr (good0 _ _)))
  h17 := fun d => by
    show phi2 30 d = _
    unfold phi2
    rw [if_pos rfl]
    exact fixD_lt ag1 (by kernel_rfl) (by kernel_rfl) 1 d }
/-- The same, sixty steps later. -/
theorem h31 (d : D) : @Fam.Φ F2 31 d = .b (@decide (GoodSt d.fst (d.snd.toI + 60)) (Classical.propDecidable _)) := by
  show phi2 31 d = _
  unfold phi2
  rw [if_neg (by omega), if_pos rfl]
  exact congrArg D.b (dec_congr (good0 _ _))
instance : HOk7 := {
  h29 := fun d => (at2 (by omega) d).trans (congrArg D.b (dec_congr (samep0 _ _ _ _))) }
end Go.Proofs.YtmjapmghihalpaaGreat
