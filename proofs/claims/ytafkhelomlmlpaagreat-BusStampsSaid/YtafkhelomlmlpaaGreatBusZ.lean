/-
  What the names stand for: devices, work memory, bus. Conditions: none.
-/
import Derived.Test.YtafkhelomlmlpaaGreatHdY
import Derived.Test.YtafkhelomlmlpaaGreatNew
import Derived.Test.YtafkhelomlmlpaaGreatEnt
import Derived.Test.YtafkhelomlmlpaaGreatBusG
import Derived.Test.YtafkhelomlmlpaaGreatStA
set_option linter.unusedSectionVars false
set_option linter.unusedVariables false
set_option linter.unusedSimpArgs false
namespace Go.Proofs.YtafkhelomlmlpaaGreat
open Go Go.AE Go.SX Go.RowKit
set_option maxRecDepth 1000000
def phi0 : Nat → D → D
  | 0, d => upD d
  | 1, d => toD d
  | 2, d => goD d
  | 3, d => .i (whI d.toI)
  | 7, d => .b (okL d.toR)
  | 8, d => .i ((badF d.toR d.toR.length 0 0 : Nat) : Int)
  | 50, d => phD d
  | 60, _ => .s (List.replicate 8192 0)
  | _, _ => .u
theorem phD_rg (d : D) : 0 ≤ (phD d).toI ∧ (phD d).toI ≤ 2097151 := by
  have h := clampI_has (lo := 0) (hi := 2097151) (n := ((((comps 9 d).take 8).getD ((((comps 9 d).getD 8 .u).toI) / 8192).toNat .u).toI * 8192 + (((comps 9 d).getD 8 .u).toI) % 8192)) (by omega)
  exact ⟨h.1 _ rfl, h.2 _ rfl⟩
theorem whI_rg' (a : Int) : 0 ≤ whI a ∧ whI a ≤ 8 := by
  unfold whI
  repeat' split
  all_goals omega
/-- The ranges of the names that come later. -/
structure RgOk (Φ : Nat → D → D) : Prop where
  lt : ∀ j, j < 10 → Φ j = phi0 j
  r21 : ∀ d, 0 ≤ (Φ 21 d).toI ∧ (Φ 21 d).toI ≤ 255
  r26 : ∀ d, 0 ≤ (Φ 26 d).toI ∧ (Φ 26 d).toI ≤ 5
  r41 : ∀ d, 0 ≤ (Φ 41 d).toI ∧ (Φ 41 d).toI ≤ 255
  r43 : ∀ d, 0 ≤ (Φ 43 d).toI ∧ (Φ 43 d).toI ≤ 255
  r50 : ∀ d, 0 ≤ (Φ 50 d).toI ∧ (Φ 50 d).toI ≤ 2097151
theorem rg_of {Φ : Nat → D → D} (h : RgOk Φ) : ∀ f p d, (rgH f p).has ((Φ f d).proj p).toI := by
  intro f p d
  unfold rgH
  split
  · rw [h.lt 1 (by omega)]
    show (Rg.mk (some 0) (some 1000)).has (clampI 0 (min 1000 (d.fst.toR.length : Nat)) _)
    have h1 := clampI_has (lo := 0) (hi := min 1000 ((d.fst.toR.length : Nat) : Int)) (n := ((toF d.fst.toR d.snd.snd.snd.toI (d.fst.toR.length - d.snd.fst.toI.toNat) d.snd.fst.toI.toNat d.snd.snd.fst.toB).1 : Nat)) (by omega)
    refine hasM (h1.1 _ rfl) ?_
    have := h1.2 _ rfl
    omega
  · rw [h.lt 2 (by omega)]; exact clampI_has (by omega)
  · rw [h.lt 2 (by omega)]; exact clampI_has (by omega)
  · rw [h.lt 2 (by omega)]; exact clampI_has (by omega)
  · rw [h.lt 3 (by omega)]
    have := whI_rg' d.toI
    exact hasM this.1 this.2
  · exact hasM (h.r21 d).1 (h.r21 d).2
  · exact hasM (h.r26 d).1 (h.r26 d).2
  · exact hasM (h.r41 d).1 (h.r41 d).2
  · exact hasM (h.r43 d).1 (h.r43 d).2
  · exact hasM (h.r50 d).1 (h.r50 d).2
  · exact hasT _
theorem sh_of {Φ : Nat → D → D} (h : ∀ j, j < 10 → Φ j = phi0 j) : ∀ f d d', (shH f).like d d' → Φ f d = Φ f d' := by
  intro f d d' hl
  unfold shH at hl
  split at hl
  · rw [h 0 (by omega)]
    obtain ⟨h1, h2, h3⟩ := hl
    have h1 : d.fst = d'.fst := h1
    have h2 : d.snd.fst.toI = d'.snd.fst.toI := h2
    have h3 : d.snd.snd.toI = d'.snd.snd.toI := h3
    show upD d = upD d'
    unfold upD
    rw [h1, h2, h3]
  · rw [h 1 (by omega)]
    obtain ⟨h1, h2, h3, h4⟩ := hl
    have h1 : d.fst = d'.fst := h1
    have h2 : d.snd.fst.toI = d'.snd.fst.toI := h2
    have h3 : d.snd.snd.fst.toB = d'.snd.snd.fst.toB := h3
    have h4 : d.snd.snd.snd.toI = d'.snd.snd.snd.toI := h4
    show toD d = toD d'
    unfold toD
    rw [h1, h2, h3, h4]
  · rw [h 2 (by omega)]
    obtain ⟨h1, h2, h3, h4, h5⟩ := hl
    have h1 : d.fst.toI = d'.fst.toI := h1
    have h2 : d.snd.fst.toI = d'.snd.fst.toI := h2
    have h3 : d.snd.snd.fst.toB = d'.snd.snd.fst.toB := h3
    have h4 : d.snd.snd.snd.fst.toI = d'.snd.snd.snd.fst.toI := h4
    have h5 : d.snd.snd.snd.snd.toI = d'.snd.snd.snd.snd.toI := h5
    show goD d = goD d'
    unfold goD
    rw [h1, h2, h3, h4, h5]
  · rw [h 3 (by omega)]
    have hl : d.toI = d'.toI := hl
    show D.i (whI d.toI) = D.i (whI d'.toI)
    rw [hl]
  · have hl : d = d' := hl
    rw [hl]
theorem u_rg {a b : Int} (h1 : a ≤ 0) (h2 : 0 ≤ b) : a ≤ D.u.toI ∧ D.u.toI ≤ b := ⟨h1, h2⟩
theorem rgOk0 : RgOk phi0 := ⟨fun _ _ => rfl, fun _ => u_rg (by omega) (by omega), fun _ => u_rg (by omega) (by omega), fun _ => u_rg (by omega) (by omega), fun _ => u_rg (by omega) (by omega), phD_rg⟩
@[reducible] def H0 : HF := ⟨phi0, fun _ _ => noOb, rg_of rgOk0, sh_of fun _ _ => rfl⟩
abbrev F0 : Fam := @famH H0
noncomputable def phi1 : Nat → D → D
  | 10, d => @fixD F0 condGo nextGo 1 d
  | 11, d => @fixD F0 cond11 next11 3 d
  | 12, d => @fixD F0 cond12 next12 2 d
  | 13, d => @fixD F0 cond13 next13 2 d
  | 14, d => @fixD F0 cond14 next14 1 d
  | 15, d => @fixD F0 cond15 next15 1 d
  | 20, d => @toSD F0 d
  | 21, d => @rdVD F0 d
  | 22, d => @rdSD F0 d
  | 23, d => @wrSD F0 d
  | 24, d => @enSD F0 d
  | 26, d => @chVD F0 d
  | n, d => phi0 n d
theorem lt10 {j : Nat} (h : j < 10) : j = 0 ∨ j = 1 ∨ j = 2 ∨ j = 3 ∨ j = 4 ∨ j = 5 ∨ j = 6 ∨ j = 7 ∨ j = 8 ∨ j = 9 := by omega
theorem phi1_lt (j : Nat) (h : j < 10) : phi1 j = phi0 j := by
  rcases lt10 h with rfl | rfl | rfl | rfl | rfl | rfl | rfl | rfl | rfl | rfl <;> rfl
theorem cl_rg {lo hi n : Int} (h : lo ≤ hi) : lo ≤ (D.i (clampI lo hi n)).toI ∧ (D.i (clampI lo hi n)).toI ≤ hi := by
  have := clampI_has (n := n) h
  exact ⟨this.1 _ rfl, this.2 _ rfl⟩
theorem rgOk1 : RgOk phi1 := ⟨phi1_lt, fun _ => cl_rg (by omega), fun _ => cl_rg (by omega), fun _ => u_rg (by omega) (by omega), fun _ => u_rg (by omega) (by omega), phD_rg⟩
@[reducible] noncomputable def H1 : HF := ⟨phi1, fun _ _ => noOb, rg_of rgOk1, sh_of phi1_lt⟩
noncomputable abbrev F1 : Fam := @famH H1
open Classical in
noncomputable def phi2 : Nat → D → D
  | 48, d => .b (decide (StOk d.fst d.snd.fst.toI d.snd.snd.toI))
  | 41, d => @brVD F1 d
  | 42, d => @brSD F1 d
  | 43, d => @pkVD F1 d
  | 44, d => @bwSD F1 d
  | 45, d => @askSD F1 d
  | 46, d => @turnSD F1 d
  | 47, d => @entSD F1 d
  | n, d => phi1 n d
theorem phi2_lt (j : Nat) (h : j < 30) : phi2 j = phi1 j := by
  funext d
  unfold phi2
  split <;> first | omega | rfl
theorem phi2_lt0 (j : Nat) (h : j < 10) : phi2 j = phi0 j := (phi2_lt j (by omega)).trans (phi1_lt j h)
theorem rgOk2 : RgOk phi2 := ⟨phi2_lt0, rgOk1.r21, rgOk1.r26, fun _ => cl_rg (by omega), fun _ => cl_rg (by omega), phD_rg⟩
noncomputable def obA : Nat → D → Ob
  | 1, d => obT Tryz.prog (@denM F0 (envOf (comps tm1.n d)) tm1.mem) (@Tm.inv F0 tm1 d)
  | 2, d => obT Tryz.prog (@denM F0 (envOf (comps tm2.n d)) tm2.mem) (@Tm.inv F0 tm2 d)
  | 3, d => ramOb d.toS
  | _, _ => noOb
@[reducible] noncomputable def HG : HF := ⟨phi2, obA, rg_of rgOk2, sh_of phi2_lt0⟩
noncomputable abbrev FG : Fam := @famH HG
noncomputable def obB : Nat → D → Ob
  | 4, d => obT Tryz.prog (@denM FG (envOf (comps tm4.n d)) tm4.mem) (@Tm.inv FG tm4 d)
  | 5, d => obT Tryz.prog (@denM FG (envOf (comps tm5.n d)) tm5.mem) (@Tm.inv FG tm5 d)
  | 6, d => obT Tryz.prog (@denM FG (envOf (comps tm6.n d)) tm6.mem) (@Tm.inv FG tm6 d)
  | n, d => obA n d
theorem obB_lt (j : Nat) (h : j < 4) : obB j = obA j := by
  funext d
  unfold obB
  split <;> first | omega | rfl
@[reducible] noncomputable def H2 : HF := ⟨phi2, obB, rg_of rgOk2, sh_of phi2_lt0⟩
noncomputable abbrev F2 : Fam := @famH H2
/-! A memory with objects in it. -/
def ltC2 (k q : Nat) : SC → Bool
  | .ob j x => Nat.blt j q && apLt k x
  | c => ltC k c
def ltM2 (k q : Nat) (m : SMem) : Bool := m.all fun b => match b with
  | some b => ltC2 k q b.c
  | none => true
theorem denM_lt2 {A B : Fam} {k q : Nat} (h : ∀ j, j < k → A.Φ j = B.Φ j) (hv : A.vis = B.vis) (ho : ∀ j, j < q → A.ob j = B.ob j) (e : En) (m : SMem) (hm : ltM2 k q m = true) : @denM A e m = @denM B e m := by
  show m.map (fun b => b.map (@SBlk.den A e)) = m.map (fun b => b.map (@SBlk.den B e))
  refine List.map_congr_left fun b hb => ?_
  have h1 := List.all_eq_true.1 hm b hb
  cases b with
  | none => rfl
  | some b =>
    have h1 : ltC2 k q b.c = true := h1
    have e12 : @SC.den A e b.c = @SC.den B e b.c ∧ @SC.obj A e b.c = @SC.obj B e b.c := by
      generalize b.c = c at h1
      cases c with
      | ob j x =>
        have h1 : (Nat.blt j q && apLt k x) = true := h1
        rw [Bool.and_eq_true, Nat.blt_eq] at h1
        refine ⟨?_, ?_⟩
        · show (A.vis j).map (VC.val (@X.den A e x)) = (B.vis j).map (VC.val (@X.den B e x))
          rw [den_lt h e x h1.2, hv]
        · show some (A.ob j (@X.den A e x)) = some (B.ob j (@X.den B e x))
          rw [den_lt h e x h1.2, ho j h1.1]
      | cs l => exact SC_lt h e _ h1
      | «by» x => exact SC_lt h e _ h1
      | rw ks x => exact SC_lt h e _ h1
    show some (ABlk.mk (@SC.den A e b.c) b.elem b.w b.ex (@SC.obj A e b.c)) = some (ABlk.mk (@SC.den B e b.c) b.elem b.w b.ex (@SC.obj B e b.c))
    rw [e12.1, e12.2]
theorem ag0 : ∀ j, j < 10 → F0.Φ j = F2.Φ j := fun j h => (phi2_lt0 j h).symm
theorem ag1 : ∀ j, j < 30 → F1.Φ j = F2.Φ j := fun j h => (phi2_lt j h).symm
theorem agG : ∀ j, j < 100 → FG.Φ j = F2.Φ j := fun _ _ => rfl
theorem agO : ∀ j, j < 4 → FG.ob j = F2.ob j := fun j h => (obB_lt j h).symm
theorem at2 {n : Nat} (h : n < 30) (d : D) : @Fam.Φ F2 n d = phi1 n d := congrFun (phi2_lt n h) d
theorem rows_lt {l : List BRow} (hl : l.all (fun r => apLt 30 r.val && r.sp.all (apLt 30)) = true) {r : BRow} (hr : r ∈ l) (e : En) : @X.den F1 e r.val = @X.den F2 e r.val ∧ r.sp.map (@X.den F1 e) = r.sp.map (@X.den F2 e) := by
  have h := List.all_eq_true.1 hl r hr
  rw [Bool.and_eq_true] at h
  haveI : Fam := F1
  exact ⟨den_lt ag1 e _ h.1, map_lt ag1 e _ h.2⟩
theorem rowAt_mem {l : List BRow} {i : Nat} (h : i < l.length) : rowAt l i ∈ l := by
  unfold rowAt
  rw [List.getD_eq_getElem?_getD, List.getElem?_eq_getElem h]
  exact List.getElem_mem _
theorem rowB_mem {l : List BRow} (hl : l.length = 7) (a b c : Int) : rowB l a b c ∈ l := by
  unfold rowB
  repeat' split
  all_goals exact rowAt_mem (by omega)
theorem rowP_mem (a : Int) : rowP busPk a ∈ busPk := by
  unfold rowP
  repeat' split
  all_goals exact rowAt_mem (by show _ < 3; omega)
noncomputable instance : HF := H2
instance : HOk1 := {
  h0 := fun d => (at2 (by omega) d).trans rfl
  h1 := fun d => (at2 (by omega) d).trans rfl
  h2 := fun d => (at2 (by omega) d).trans rfl
  h3 := fun d => (at2 (by omega) d).trans rfl
  h7 := fun d => (at2 (by omega) d).trans rfl
  h10 := fun d => (at2 (by omega) d).trans (fixD_lt ag0 rfl rfl 1 d)
  h11 := fun d => (at2 (by omega) d).trans (fixD_lt ag0 rfl rfl 3 d)
  h12 := fun d => (at2 (by omega) d).trans (fixD_lt ag0 rfl rfl 2 d)
  h13 := fun d => (at2 (by omega) d).trans (fixD_lt ag0 rfl rfl 2 d) }
instance : HOk2 := {
  tm1 := ⟨by kernel_rfl, fun d => by
    show obT Tryz.prog (@denM F0 (envOf (comps tm1.n d)) tm1.mem) (@Tm.inv F0 tm1 d) = _
    rw [denM_lt ag0 _ _ (by kernel_rfl), inv_lt ag0 (by kernel_rfl)]⟩
  tm2 := ⟨by kernel_rfl, fun d => by
    show obT Tryz.prog (@denM F0 (envOf (comps tm2.n d)) tm2.mem) (@Tm.inv F0 tm2 d) = _
    rw [denM_lt ag0 _ _ (by kernel_rfl), inv_lt ag0 (by kernel_rfl)]⟩ }
instance : HOk3 := {
  h20 := fun d => (at2 (by omega) d).trans (toSD_lt ag0 d)
  h21 := fun d => (at2 (by omega) d).trans (rdVD_lt ag0 d)
  h22 := fun d => (at2 (by omega) d).trans (rdSD_lt ag0 d)
  h23 := fun d => (at2 (by omega) d).trans (wrSD_lt ag0 d)
  h24 := fun d => (at2 (by omega) d).trans (enSD_lt ag0 d)
  h26 := fun d => (at2 (by omega) d).trans (chVD_lt ag0 d) }
instance : HOk4 := {
  h8 := fun d => (at2 (by omega) d).trans rfl
  h14 := fun d => (at2 (by omega) d).trans (fixD_lt ag0 rfl rfl 1 d)
  h15 := fun d => (at2 (by omega) d).trans (fixD_lt ag0 rfl rfl 1 d) }
instance : ROk := ⟨fun d => rfl, fun d => rfl⟩
instance : PhOk := ⟨fun d => rfl⟩
instance : BOk := {
  tm4 := ⟨by kernel_rfl, fun d => by
    show obT Tryz.prog (@denM FG (envOf (comps tm4.n d)) tm4.mem) (@Tm.inv FG tm4 d) = _
    rw [denM_lt2 agG rfl agO _ _ (by kernel_rfl), inv_lt agG (by kernel_rfl)]⟩
  tm5 := ⟨by kernel_rfl, fun d => by
    show obT Tryz.prog (@denM FG (envOf (comps tm5.n d)) tm5.mem) (@Tm.inv FG tm5 d) = _
    rw [denM_lt2 agG rfl agO _ _ (by kernel_rfl), inv_lt agG (by kernel_rfl)]⟩
  tm6 := ⟨by kernel_rfl, fun d => by
    show obT Tryz.prog (@denM FG (envOf (comps tm6.n d)) tm6.mem) (@Tm.inv FG tm6 d) = _
    rw [denM_lt2 agG rfl agO _ _ (by kernel_rfl), inv_lt agG (by kernel_rfl)]⟩ }
theorem busRd_lt : busRd.all (fun r => apLt 30 r.val && r.sp.all (apLt 30)) = true := by kernel_rfl
theorem busWr_lt : busWr.all (fun r => apLt 30 r.val && r.sp.all (apLt 30)) = true := by kernel_rfl
theorem busPk_lt : busPk.all (fun r => apLt 30 r.val && r.sp.all (apLt 30)) = true := by kernel_rfl
instance : BOk2 := {
  h41 := fun d => by
    show D.i (clampI 0 255 (@X.den F1 (eB 2 d) (@selB F2 busRd (eB 2 d)).val).toI) = D.i (clampI 0 255 (@X.den F2 (eB 2 d) (@selB F2 busRd (eB 2 d)).val).toI)
    have hm : @selB F2 busRd (eB 2 d) ∈ busRd := rowB_mem rfl _ _ _
    rw [(rows_lt busRd_lt hm _).1]
  h42 := fun d => by
    show packD ((@selB F2 busRd (eB 2 d)).sp.map (@X.den F1 (eB 2 d))) = packD ((@selB F2 busRd (eB 2 d)).sp.map (@X.den F2 (eB 2 d)))
    have hm : @selB F2 busRd (eB 2 d) ∈ busRd := rowB_mem rfl _ _ _
    rw [(rows_lt busRd_lt hm _).2]
  h43 := fun d => by
    show D.i (clampI 0 255 (@X.den F1 (eB 1 d) (@selP F2 busPk (eB 1 d)).val).toI) = D.i (clampI 0 255 (@X.den F2 (eB 1 d) (@selP F2 busPk (eB 1 d)).val).toI)
    have hm : @selP F2 busPk (eB 1 d) ∈ busPk := rowP_mem _
    rw [(rows_lt busPk_lt hm _).1]
  h44 := fun d => by
    show packD ((@selB F2 busWr (eB 3 d)).sp.map (@X.den F1 (eB 3 d))) = packD ((@selB F2 busWr (eB 3 d)).sp.map (@X.den F2 (eB 3 d)))
    have hm : @selB F2 busWr (eB 3 d) ∈ busWr := rowB_mem rfl _ _ _
    rw [(rows_lt busWr_lt hm _).2]
  h45 := fun d => by
    show packD (spAsk.map (@X.den F1 (eB 1 d))) = packD (spAsk.map (@X.den F2 (eB 1 d)))
    rw [map_lt ag1 _ _ (by kernel_rfl)]
  h46 := fun d => by
    show packD (spTurn.map (@X.den F1 (envOf (comps 11 d ++ [])))) = packD (spTurn.map (@X.den F2 (envOf (comps 11 d ++ []))))
    rw [map_lt ag1 _ _ (by kernel_rfl)]
  h47 := fun d => by
    show packD (spEnt.map (@X.den F1 (eB 1 d))) = packD (spEnt.map (@X.den F2 (eB 1 d)))
    rw [map_lt ag1 _ _ (by kernel_rfl)] }
instance : SOk := ⟨fun d => rfl⟩
end Go.Proofs.YtafkhelomlmlpaaGreat
