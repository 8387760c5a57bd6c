/-
  Names of functions, layer by layer: what a memory stands for. Conditions: none.
-/
import Derived.Test.YtafkhelomlmlpaaGreatHdR
set_option linter.unusedSectionVars false
set_option linter.unusedVariables false
set_option linter.unusedSimpArgs false
namespace Go.Proofs.YtafkhelomlmlpaaGreat
open Go Go.AE Go.SX Go.RowKit
set_option maxRecDepth 1000000
def ltS0 (k : Nat) : S0 → Bool
  | .b x => apLt k x
  | .i _ x => apLt k x
  | .s x => apLt k x
  | .p _ x _ _ => apLt k x
  | .sl _ x _ _ n c => apLt k x && (apLt k n && apLt k c)
  | _ => true
def ltSS (k : Nat) : SS → Bool
  | .z x => ltS0 k x
  | .fn _ _ _ => false
  | _ => true
def ltC (k : Nat) : SC → Bool
  | .cs l => l.all (ltSS k)
  | .by x => apLt k x
  | .rw _ x => apLt k x
  | .ob _ _ => false
def ltM (k : Nat) (m : SMem) : Bool := m.all fun b => match b with
  | some b => ltC k b.c
  | none => true
section
variable {F1 F2 : Fam} {k : Nat} (h : ∀ j, j < k → F1.Φ j = F2.Φ j)
include h
theorem S0_lt (e : En) (x : S0) (hx : ltS0 k x = true) : @S0.den F1 e x = @S0.den F2 e x := by
  cases x with
  | b x => show Value.bool (@X.den F1 e x).toB = Value.bool (@X.den F2 e x).toB; rw [den_lt h e x hx]
  | i q x => show Value.int q (@X.den F1 e x).toI = Value.int q (@X.den F2 e x).toI; rw [den_lt h e x hx]
  | s x => show Value.string ⟨⟨(@X.den F1 e x).toS⟩⟩ = Value.string ⟨⟨(@X.den F2 e x).toS⟩⟩; rw [den_lt h e x hx]
  | p j x w c => show Value.pointer (some ⟨j, (@X.den F1 e x).toI.toNat * w + c, none⟩) = Value.pointer (some ⟨j, (@X.den F2 e x).toI.toNat * w + c, none⟩); rw [den_lt h e x hx]
  | sl j x w c n m =>
    have hx : (apLt k x && (apLt k n && apLt k m)) = true := hx
    rw [Bool.and_eq_true, Bool.and_eq_true] at hx
    show Value.slice (some ⟨j, (@X.den F1 e x).toI.toNat * w + c, none⟩) (@X.den F1 e n).toI.toNat (@X.den F1 e m).toI.toNat = Value.slice (some ⟨j, (@X.den F2 e x).toI.toNat * w + c, none⟩) (@X.den F2 e n).toI.toNat (@X.den F2 e m).toI.toNat
    rw [den_lt h e x hx.1, den_lt h e n hx.2.1, den_lt h e m hx.2.2]
  | p0 => rfl
  | sl0 => rfl
theorem SS_lt (e : En) (x : SS) (hx : ltSS k x = true) : @SS.den F1 e x = @SS.den F2 e x := by
  cases x with
  | z x => exact S0_lt h e x hx
  | fn _ _ _ => cases hx
  | nf => rfl
  | ni => rfl
  | top => rfl
theorem SC_lt (e : En) (x : SC) (hx : ltC k x = true) : @SC.den F1 e x = @SC.den F2 e x ∧ @SC.obj F1 e x = @SC.obj F2 e x := by
  cases x with
  | cs l =>
    refine ⟨?_, rfl⟩
    show l.map (@SS.den F1 e) = l.map (@SS.den F2 e)
    exact List.map_congr_left fun y hy => SS_lt h e y (List.all_eq_true.1 hx y hy)
  | «by» x => exact ⟨by show ((@X.den F1 e x).toS).map Byt = ((@X.den F2 e x).toS).map Byt; rw [den_lt h e x hx], rfl⟩
  | rw ks x => exact ⟨by show ((@X.den F1 e x).toR).flatMap (rowV ks) = ((@X.den F2 e x).toR).flatMap (rowV ks); rw [den_lt h e x hx], rfl⟩
  | ob _ _ => cases hx
theorem denM_lt (e : En) (m : SMem) (hm : ltM k m = true) : @denM F1 e m = @denM F2 e m := by
  show m.map (fun b => b.map (@SBlk.den F1 e)) = m.map (fun b => b.map (@SBlk.den F2 e))
  refine List.map_congr_left fun b hb => ?_
  have h1 := List.all_eq_true.1 hm b hb
  cases b with
  | none => rfl
  | some b =>
    obtain ⟨e1, e2⟩ := SC_lt h e b.c h1
    show some (ABlk.mk (@SC.den F1 e b.c) b.elem b.w b.ex (@SC.obj F1 e b.c)) = some (ABlk.mk (@SC.den F2 e b.c) b.elem b.w b.ex (@SC.obj F2 e b.c))
    rw [e1, e2]
theorem inv_lt {t : Tm} (ht : ((t.fs.all fun f => apLt k f.e) && t.as.all (apLt k)) = true) (d : D) : @Tm.inv F1 t d = @Tm.inv F2 t d := by
  rw [Bool.and_eq_true] at ht
  unfold Tm.inv
  refine propext ⟨fun ⟨h1, h2⟩ => ⟨fun f hf => ?_, fun c hc => ?_⟩, fun ⟨h1, h2⟩ => ⟨fun f hf => ?_, fun c hc => ?_⟩⟩
  · have := h1 f hf
    simp only [X.I] at this ⊢
    rwa [den_lt h _ f.e (List.all_eq_true.1 ht.1 f hf)] at this
  · have := h2 c hc
    simp only [X.B] at this ⊢
    rwa [den_lt h _ c (List.all_eq_true.1 ht.2 c hc)] at this
  · have := h1 f hf
    simp only [X.I] at this ⊢
    rwa [← den_lt h _ f.e (List.all_eq_true.1 ht.1 f hf)] at this
  · have := h2 c hc
    simp only [X.B] at this ⊢
    rwa [← den_lt h _ c (List.all_eq_true.1 ht.2 c hc)] at this
theorem map_lt (e : En) (l : List X) (hl : l.all (apLt k) = true) : l.map (@X.den F1 e) = l.map (@X.den F2 e) := List.map_congr_left fun x hx => den_lt h e x (List.all_eq_true.1 hl x hx)
end
theorem row_sp {l : List Row} (hl : l.all (fun r => r.sp.all (apLt 10)) = true) (w : Int) : (rowOf l w).sp.all (apLt 10) = true := by
  induction l with
  | nil => show (varsX 19).all (apLt 10) = true; rfl
  | cons r l ih =>
    rw [List.all_cons, Bool.and_eq_true] at hl
    unfold rowOf
    split
    · exact hl.1
    · exact ih hl.2
/-! The page's functions, in families that agree below 10. -/
section
variable {F1 F2 : Fam} (h : ∀ j, j < 10 → F1.Φ j = F2.Φ j)
include h
theorem whP_lt (e : En) : @whP F1 e = @whP F2 e := by
  show whI (@X.den F1 e aX).toI = whI (@X.den F2 e aX).toI
  rw [den_lt h e aX rfl]
theorem rdVD_lt (d : D) : @rdVD F1 d = @rdVD F2 d := by
  unfold rdVD
  rw [whP_lt h]
  have hr : ∀ w, apLt 10 (rowOf rdTab w).val = true := by
    intro w
    have key : ∀ l : List Row, l.all (fun r => apLt 10 r.val) = true → ∀ w, apLt 10 (rowOf l w).val = true := by
      intro l
      induction l with
      | nil => intro _ _; rfl
      | cons r l ih =>
        intro hl w
        rw [List.all_cons, Bool.and_eq_true] at hl
        unfold rowOf
        split
        · exact hl.1
        · exact ih hl.2 w
    exact key rdTab (by kernel_rfl) w
  simp only [X.I, den_lt h _ _ (hr _)]
theorem rdSD_lt (d : D) : @rdSD F1 d = @rdSD F2 d := by
  unfold rdSD
  rw [whP_lt h, map_lt h _ _ (row_sp (by kernel_rfl) _)]
theorem wrSD_lt (d : D) : @wrSD F1 d = @wrSD F2 d := by
  unfold wrSD
  rw [whP_lt h, map_lt h _ _ (row_sp (by kernel_rfl) _)]
theorem toSD_lt (d : D) : @toSD F1 d = @toSD F2 d := by
  unfold toSD
  rw [map_lt h _ _ (by kernel_rfl)]
theorem enSD_lt (d : D) : @enSD F1 d = @enSD F2 d := by
  unfold enSD
  rw [map_lt h _ _ (by kernel_rfl)]
theorem chVD_lt (d : D) : @chVD F1 d = @chVD F2 d := by
  unfold chVD
  simp only [X.I, den_lt h _ chV rfl]
end
end Go.Proofs.YtafkhelomlmlpaaGreat
