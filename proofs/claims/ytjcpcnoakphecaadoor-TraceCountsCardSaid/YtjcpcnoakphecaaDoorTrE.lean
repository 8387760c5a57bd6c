/-
  What the names stand for, for the laws on traces. Conditions: none.
-/
import Derived.Test.YtjcpcnoakphecaaDoorBase
import Derived.Test.YtjcpcnoakphecaaDoorTrD
import Derived.Test.YtjcpcnoakphecaaDoorTrK
set_option linter.unusedSectionVars false
set_option linter.unusedVariables false
set_option linter.unusedSimpArgs false
namespace Go.Proofs.YtjcpcnoakphecaaDoor
open Go Go.AE Go.SX Go.RowKit
set_option maxRecDepth 1000000
def rgT : Nat → List Bool → Rg
  | 70, [] => ⟨some 0, some 4⟩
  | 73, [] => ⟨some 0, none⟩
  | 74, [false] => ⟨some 0, some 1125899906842624⟩
  | 74, [true, false] => ⟨some 0, some 2097151⟩
  | 74, [true, true, false] => ⟨some 0, some 7⟩
  | 74, [true, true, true, true, false] => ⟨some 0, some 255⟩
  | 74, [true, true, true, true, true] => ⟨some 0, some 13⟩
  | 83, [] => ⟨some 0, some 8⟩
  | 87, [false] => ⟨some 0, some 255⟩
  | 89, [] => ⟨some (-1), none⟩
  | _, _ => .top
def shT : Nat → Sh
  | 70 => .i
  | 71 => .p .i (.p .i .i)
  | 72 => .p .x .i
  | 74 => .p .x (.p .i .i)
  | 83 => .i
  | 86 => .p .x .i
  | 87 => .p .x .i
  | _ => .x
open Classical in
noncomputable def phiT : Nat → D → D
  | 70, d => .i (wayF d.toI)
  | 71, d => .b (mayF d.fst.toI d.snd.fst.toI d.snd.snd.toI)
  | 72, d => .s (pkF d.fst.toR d.snd.toI.toNat)
  | 73, d => .i ((faF d.toR : Nat) : Int)
  | 74, d => rdD (d.fst.toS.drop d.snd.fst.toI.toNat) d.snd.snd.toI
  | 75, d => .r (urF d.toS)
  | 76, d => .b (okU d.toS)
  | 78, d => .b (decide (PkP d.fst.toR d.snd.fst.toI d.snd.snd.fst.toI d.snd.snd.snd.toS))
  | 81, d => .i (if d.toR.length ≤ faF d.toR then 1 else 0)
  | 82, d => .i (if okU d.toS = true then 1 else 0)
  | 79, d => .b (decide (UpP d.fst.toS d.snd.fst.toI d.snd.snd.fst.toI d.snd.snd.snd.toR))
  | 83, d => .i (whF d.toI)
  | 84, d => .r (cnF 8 rKd d.toR d.toR.length)
  | 85, d => .r (cnF 9 whR d.toR d.toR.length)
  | 86, d => .r (ofF d.fst.toR d.snd.toI d.fst.toR.length)
  | 87, d => .p (.i (laF d.fst.toR d.snd.toI d.fst.toR.length).1) (.b (laF d.fst.toR d.snd.toI d.fst.toR.length).2)
  | 88, d => .b (riF d.toR d.toR.length)
  | 89, d => .i (otG d.fst.toR d.snd.toR)
  | 90, d => .b (decide (CnP 8 rKd d.fst.toR d.snd.fst.toI d.snd.snd.toR))
  | 91, d => .b (decide (CnP 9 whR d.fst.toR d.snd.fst.toI d.snd.snd.toR))
  | 92, d => .b (decide (OfP d.fst.toR d.snd.fst.toI d.snd.snd.fst.toI d.snd.snd.snd.toR))
  | 93, d => .b (decide (LaP d.fst.toR d.snd.fst.toI d.snd.snd.fst.toI d.snd.snd.snd.fst.toI d.snd.snd.snd.snd.toB))
  | 94, d => .b (decide (RiP d.fst.toR d.snd.fst.toI d.snd.snd.toB))
  | 95, d => .b (decide (OtP d.fst.toR d.snd.fst.toR d.snd.snd.fst.toI d.snd.snd.snd.toI))
  | 96, d => .b (decide (BaP d.fst.toR d.snd.fst.toI d.snd.snd.toI))
  | _, _ => .u
theorem otG_rg (a b : List (List A)) : -1 ≤ otG a b := by
  have := ot_rg a b a.length
  unfold otG
  split <;> omega
theorem phiT_ok : ∀ f p d, (rgT f p).has ((phiT f d).proj p).toI := by
  intro f p d
  unfold rgT
  split
  · have := wayF_rg d.toI
    exact hasM (by show (0 : Int) ≤ wayF d.toI; omega) (by show wayF d.toI ≤ 4; omega)
  · exact ⟨fun x hx => (by cases hx; exact Int.natCast_nonneg _), fun x hx => (by cases hx)⟩
  · have h := (rd_rg (d.fst.toS.drop d.snd.fst.toI.toNat) d.snd.snd.toI).1
    exact hasM h.1 h.2
  · have h := (rd_rg (d.fst.toS.drop d.snd.fst.toI.toNat) d.snd.snd.toI).2.1
    exact hasM h.1 h.2
  · have h := (rd_rg (d.fst.toS.drop d.snd.fst.toI.toNat) d.snd.snd.toI).2.2.1
    exact hasM h.1 h.2
  · have h := (rd_rg (d.fst.toS.drop d.snd.fst.toI.toNat) d.snd.snd.toI).2.2.2.1
    exact hasM h.1 h.2
  · have h := (rd_rg (d.fst.toS.drop d.snd.fst.toI.toNat) d.snd.snd.toI).2.2.2.2
    exact hasM h.1 h.2
  · have h := whF_rg d.toI
    exact hasM h.1 h.2
  · have h := la_rg d.fst.toR d.snd.toI d.fst.toR.length
    exact hasM h.1 h.2
  · exact ⟨fun x hx => (by cases hx; exact otG_rg _ _), fun x hx => (by cases hx)⟩
  · exact hasT _
theorem phiT_sh : ∀ f d d', (shT f).like d d' → phiT f d = phiT f d' := by
  intro f d d' hl
  unfold shT at hl
  split at hl
  · have h : d.toI = d'.toI := hl
    show D.i (wayF d.toI) = D.i (wayF d'.toI)
    rw [h]
  · obtain ⟨h1, h2, h3⟩ := hl
    have h1 : d.fst.toI = d'.fst.toI := h1
    have h2 : d.snd.fst.toI = d'.snd.fst.toI := h2
    have h3 : d.snd.snd.toI = d'.snd.snd.toI := h3
    show D.b (mayF d.fst.toI d.snd.fst.toI d.snd.snd.toI) = D.b (mayF d'.fst.toI d'.snd.fst.toI d'.snd.snd.toI)
    rw [h1, h2, h3]
  · obtain ⟨h1, h2⟩ := hl
    have h1 : d.fst = d'.fst := h1
    have h2 : d.snd.toI = d'.snd.toI := h2
    show D.s (pkF d.fst.toR d.snd.toI.toNat) = D.s (pkF d'.fst.toR d'.snd.toI.toNat)
    rw [h1, h2]
  · obtain ⟨h1, h2, h3⟩ := hl
    have h1 : d.fst = d'.fst := h1
    have h2 : d.snd.fst.toI = d'.snd.fst.toI := h2
    have h3 : d.snd.snd.toI = d'.snd.snd.toI := h3
    show rdD (d.fst.toS.drop d.snd.fst.toI.toNat) d.snd.snd.toI = rdD (d'.fst.toS.drop d'.snd.fst.toI.toNat) d'.snd.snd.toI
    rw [h1, h2, h3]
  · have h : d.toI = d'.toI := hl
    show D.i (whF d.toI) = D.i (whF d'.toI)
    rw [h]
  · obtain ⟨h1, h2⟩ := hl
    have h1 : d.fst = d'.fst := h1
    have h2 : d.snd.toI = d'.snd.toI := h2
    show D.r (ofF d.fst.toR d.snd.toI d.fst.toR.length) = D.r (ofF d'.fst.toR d'.snd.toI d'.fst.toR.length)
    rw [h1, h2]
  · obtain ⟨h1, h2⟩ := hl
    have h1 : d.fst = d'.fst := h1
    have h2 : d.snd.toI = d'.snd.toI := h2
    show D.p (.i (laF d.fst.toR d.snd.toI d.fst.toR.length).1) (.b (laF d.fst.toR d.snd.toI d.fst.toR.length).2) = D.p (.i (laF d'.fst.toR d'.snd.toI d'.fst.toR.length).1) (.b (laF d'.fst.toR d'.snd.toI d'.fst.toR.length).2)
    rw [h1, h2]
  · have h : d = d' := hl
    rw [h]
noncomputable instance famT : Fam := ⟨phiT, fun _ _ => noOb, rgT, phiT_ok, fun _ => false, fun _ _ h => (by cases h), fun _ => [], shT, phiT_sh⟩
def impS (a b : X) : X := .u .not (.o .and a (.u .not b))
theorem impS_ok {a b : X} {e : En} (h : a.B e = true → b.B e = true) : (impS a b).B e = true := by
  show (!(a.B e && !b.B e)) = true
  cases ha : a.B e with
  | false => rfl
  | true => rw [h ha]; rfl
theorem and_B {a b : X} {e : En} (h1 : a.B e = true) (h2 : b.B e = true) : (X.o .and a b).B e = true := by
  show (a.B e && b.B e) = true
  rw [h1, h2]; rfl
theorem and_out {a b : X} {e : En} (h : (X.o .and a b).B e = true) : a.B e = true ∧ b.B e = true := by
  have h : (a.B e && b.B e) = true := h
  rwa [Bool.and_eq_true] at h
theorem lt_out {a b : X} {e : En} (h : (X.o .lt a b).B e = true) : a.I e < b.I e := of_decide_eq_true h
theorem nlt_out {a b : X} {e : En} (h : (X.u .not (.o .lt a b)).B e = true) : ¬ a.I e < b.I e := by
  have h : (!decide (a.I e < b.I e)) = true := h
  rwa [Bool.not_eq_true', decide_eq_false_iff_not] at h
theorem nlt_in {a b : X} {e : En} (h : ¬ a.I e < b.I e) : (X.u .not (.o .lt a b)).B e = true := by
  show (!decide (a.I e < b.I e)) = true
  rw [decide_eq_false h]; rfl
theorem eq_in {a b : X} {e : En} (h : a.I e = b.I e) : (X.o .eq a b).B e = true := decide_eq_true h
theorem eq_out {a b : X} {e : En} (h : (X.o .eq a b).B e = true) : a.I e = b.I e := of_decide_eq_true h
theorem not_out {a : X} {e : En} (h : (X.u .not a).B e = true) : a.B e = false := by
  have h : (!a.B e) = true := h
  rwa [Bool.not_eq_true'] at h
theorem not_in {a : X} {e : En} (h : a.B e = false) : (X.u .not a).B e = true := by
  show (!a.B e) = true
  rw [h]; rfl
def noT : Tms := fun _ => none
theorem noT_ok : TmsOk Tryd.prog noT := fun _ _ h => by cases h
def wyX (d : X) : X := .ap 70 d
def whX (a : X) : X := .ap 83 a
def kkX (l : X) : X := .ap 84 l
def plX (l : X) : X := .ap 85 l
def ofX (l w : X) : X := .ap 86 (.o .pair l w)
def laX (l a : X) : X := .ap 87 (.o .pair l a)
def riX (l : X) : X := .ap 88 l
def otX (a b : X) : X := .ap 89 (.o .pair a b)
def kiPX (l i r : X) : X := .ap 90 (.o .pair l (.o .pair i r))
def plPX (l i r : X) : X := .ap 91 (.o .pair l (.o .pair i r))
def ofPX (l w i o : X) : X := .ap 92 (.o .pair l (.o .pair w (.o .pair i o)))
def laPX (l a i v q : X) : X := .ap 93 (.o .pair l (.o .pair a (.o .pair i (.o .pair v q))))
def riPX (l i q : X) : X := .ap 94 (.o .pair l (.o .pair i q))
def otPX (a b i o : X) : X := .ap 95 (.o .pair a (.o .pair b (.o .pair i o)))
def baPX (l a k : X) : X := .ap 96 (.o .pair l (.o .pair a k))
theorem kiP_iff (e : En) (l i r : X) : (kiPX l i r).B e = true ↔ CnP 8 rKd (l.R e) (i.I e) (r.R e) := @decide_eq_true_iff _ (_)
theorem plP_iff (e : En) (l i r : X) : (plPX l i r).B e = true ↔ CnP 9 whR (l.R e) (i.I e) (r.R e) := @decide_eq_true_iff _ (_)
theorem ofP_iff (e : En) (l w i o : X) : (ofPX l w i o).B e = true ↔ OfP (l.R e) (w.I e) (i.I e) (o.R e) := @decide_eq_true_iff _ (_)
theorem laP_iff (e : En) (l a i v q : X) : (laPX l a i v q).B e = true ↔ LaP (l.R e) (a.I e) (i.I e) (v.I e) (q.B e) := @decide_eq_true_iff _ (_)
theorem riP_iff (e : En) (l i q : X) : (riPX l i q).B e = true ↔ RiP (l.R e) (i.I e) (q.B e) := @decide_eq_true_iff _ (_)
theorem otP_iff (e : En) (a b i o : X) : (otPX a b i o).B e = true ↔ OtP (a.R e) (b.R e) (i.I e) (o.I e) := @decide_eq_true_iff _ (_)
theorem baP_iff (e : En) (l a k : X) : (baPX l a k).B e = true ↔ BaP (l.R e) (a.I e) (k.I e) := @decide_eq_true_iff _ (_)
def fSt (l i : X) : X := .u (.wrap .i64) (.o (.rI 0) l i)
def fAd (l i : X) : X := .u (.wrap .u32) (.o (.rI 1) l i)
def fKd (l i : X) : X := .u (.wrap .u8) (.o (.rI 2) l i)
def fWr (l i : X) : X := .o (.rB 3) l i
def fDa (l i : X) : X := .u (.wrap .u8) (.o (.rI 4) l i)
end Go.Proofs.YtjcpcnoakphecaaDoor
