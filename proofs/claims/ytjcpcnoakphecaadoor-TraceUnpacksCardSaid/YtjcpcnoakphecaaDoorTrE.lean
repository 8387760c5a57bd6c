/-
  What the names stand for, for the laws on traces. Conditions: none.
-/
import Derived.Test.YtjcpcnoakphecaaDoorBase
import Derived.Test.YtjcpcnoakphecaaDoorTrD
set_option linter.unusedSectionVars false
set_option linter.unusedVariables false
set_option linter.unusedSimpArgs false
namespace Go.Proofs.YtjcpcnoakphecaaDoor
open Go Go.AE Go.SX Go.RowKit
set_option maxRecDepth 1000000
def rgT : Nat → List Bool → Rg
  | 70, [] => ⟨some 0, some 4⟩
  | 73, [] => ⟨some 0, none⟩
  | 74, [false] => ⟨some 0, some 1125899906842624⟩
  | 74, [true, false] => ⟨some 0, some 2097151⟩
  | 74, [true, true, false] => ⟨some 0, some 7⟩
  | 74, [true, true, true, true, false] => ⟨some 0, some 255⟩
  | 74, [true, true, true, true, true] => ⟨some 0, some 13⟩
  | _, _ => .top
def shT : Nat → Sh
  | 70 => .i
  | 71 => .p .i (.p .i .i)
  | 72 => .p .x .i
  | 74 => .p .x (.p .i .i)
  | _ => .x
open Classical in
noncomputable def phiT : Nat → D → D
  | 70, d => .i (wayF d.toI)
  | 71, d => .b (mayF d.fst.toI d.snd.fst.toI d.snd.snd.toI)
  | 72, d => .s (pkF d.fst.toR d.snd.toI.toNat)
  | 73, d => .i ((faF d.toR : Nat) : Int)
  | 74, d => rdD (d.fst.toS.drop d.snd.fst.toI.toNat) d.snd.snd.toI
  | 75, d => .r (urF d.toS)
  | 76, d => .b (okU d.toS)
  | 78, d => .b (decide (PkP d.fst.toR d.snd.fst.toI d.snd.snd.fst.toI d.snd.snd.snd.toS))
  | 81, d => .i (if d.toR.length ≤ faF d.toR then 1 else 0)
  | 82, d => .i (if okU d.toS = true then 1 else 0)
  | 79, d => .b (decide (UpP d.fst.toS d.snd.fst.toI d.snd.snd.fst.toI d.snd.snd.snd.toR))
  | _, _ => .u
theorem phiT_ok : ∀ f p d, (rgT f p).has ((phiT f d).proj p).toI := by
  intro f p d
  unfold rgT
  split
  · have := wayF_rg d.toI
    exact hasM (by show (0 : Int) ≤ wayF d.toI; omega) (by show wayF d.toI ≤ 4; omega)
  · exact ⟨fun x hx => (by cases hx; exact Int.natCast_nonneg _), fun x hx => (by cases hx)⟩
  · have h := (rd_rg (d.fst.toS.drop d.snd.fst.toI.toNat) d.snd.snd.toI).1
    exact hasM h.1 h.2
  · have h := (rd_rg (d.fst.toS.drop d.snd.fst.toI.toNat) d.snd.snd.toI).2.1
    exact hasM h.1 h.2
  · have h := (rd_rg (d.fst.toS.drop d.snd.fst.toI.toNat) d.snd.snd.toI).2.2.1
    exact hasM h.1 h.2
  · have h := (rd_rg (d.fst.toS.drop d.snd.fst.toI.toNat) d.snd.snd.toI).2.2.2.1
    exact hasM h.1 h.2
  · have h := (rd_rg (d.fst.toS.drop d.snd.fst.toI.toNat) d.snd.snd.toI).2.2.2.2
    exact hasM h.1 h.2
  · exact hasT _
theorem phiT_sh : ∀ f d d', (shT f).like d d' → phiT f d = phiT f d' := by
  intro f d d' hl
  unfold shT at hl
  split at hl
  · have h : d.toI = d'.toI := hl
    show D.i (wayF d.toI) = D.i (wayF d'.toI)
    rw [h]
  · obtain ⟨h1, h2, h3⟩ := hl
    have h1 : d.fst.toI = d'.fst.toI := h1
    have h2 : d.snd.fst.toI = d'.snd.fst.toI := h2
    have h3 : d.snd.snd.toI = d'.snd.snd.toI := h3
    show D.b (mayF d.fst.toI d.snd.fst.toI d.snd.snd.toI) = D.b (mayF d'.fst.toI d'.snd.fst.toI d'.snd.snd.toI)
    rw [h1, h2, h3]
  · obtain ⟨h1, h2⟩ := hl
    have h1 : d.fst = d'.fst := h1
    have h2 : d.snd.toI = d'.snd.toI := h2
    show D.s (pkF d.fst.toR d.snd.toI.toNat) = D.s (pkF d'.fst.toR d'.snd.toI.toNat)
    rw [h1, h2]
  · obtain ⟨h1, h2, h3⟩ := hl
    have h1 : d.fst = d'.fst := h1
    have h2 : d.snd.fst.toI = d'.snd.fst.toI := h2
    have h3 : d.snd.snd.toI = d'.snd.snd.toI := h3
    show rdD (d.fst.toS.drop d.snd.fst.toI.toNat) d.snd.snd.toI = rdD (d'.fst.toS.drop d'.snd.fst.toI.toNat) d'.snd.snd.toI
    rw [h1, h2, h3]
  · have h : d = d' := hl
    rw [h]
noncomputable instance famT : Fam := ⟨phiT, fun _ _ => noOb, rgT, phiT_ok, fun _ => false, fun _ _ h => (by cases h), fun _ => [], shT, phiT_sh⟩
def impS (a b : X) : X := .u .not (.o .and a (.u .not b))
theorem impS_ok {a b : X} {e : En} (h : a.B e = true → b.B e = true) : (impS a b).B e = true := by
  show (!(a.B e && !b.B e)) = true
  cases ha : a.B e with
  | false => rfl
  | true => rw [h ha]; rfl
theorem and_B {a b : X} {e : En} (h1 : a.B e = true) (h2 : b.B e = true) : (X.o .and a b).B e = true := by
  show (a.B e && b.B e) = true
  rw [h1, h2]; rfl
theorem and_out {a b : X} {e : En} (h : (X.o .and a b).B e = true) : a.B e = true ∧ b.B e = true := by
  have h : (a.B e && b.B e) = true := h
  rwa [Bool.and_eq_true] at h
theorem lt_out {a b : X} {e : En} (h : (X.o .lt a b).B e = true) : a.I e < b.I e := of_decide_eq_true h
theorem nlt_out {a b : X} {e : En} (h : (X.u .not (.o .lt a b)).B e = true) : ¬ a.I e < b.I e := by
  have h : (!decide (a.I e < b.I e)) = true := h
  rwa [Bool.not_eq_true', decide_eq_false_iff_not] at h
theorem nlt_in {a b : X} {e : En} (h : ¬ a.I e < b.I e) : (X.u .not (.o .lt a b)).B e = true := by
  show (!decide (a.I e < b.I e)) = true
  rw [decide_eq_false h]; rfl
theorem seq_in {a b : X} {e : En} (h : a.S e = b.S e) : (X.o .seq a b).B e = true := by
  show (a.S e == b.S e) = true
  rw [h]; exact beq_self_eq_true _
theorem eq_in {a b : X} {e : En} (h : a.I e = b.I e) : (X.o .eq a b).B e = true := decide_eq_true h
theorem eq_out {a b : X} {e : En} (h : (X.o .eq a b).B e = true) : a.I e = b.I e := of_decide_eq_true h
theorem not_out {a : X} {e : En} (h : (X.u .not a).B e = true) : a.B e = false := by
  have h : (!a.B e) = true := h
  rwa [Bool.not_eq_true'] at h
theorem not_in {a : X} {e : En} (h : a.B e = false) : (X.u .not a).B e = true := by
  show (!a.B e) = true
  rw [h]; rfl
def noT : Tms := fun _ => none
theorem noT_ok : TmsOk Tryd.prog noT := fun _ _ h => by cases h
def wyX (d : X) : X := .ap 70 d
def pkX (l i : X) : X := .ap 72 (.o .pair l i)
def faX (l : X) : X := .ap 73 l
def rdX (b off ah : X) : X := .ap 74 (.o .pair b (.o .pair off ah))
def urX (b : X) : X := .ap 75 b
def okX (b : X) : X := .ap 76 b
def pkPX (l i ah out : X) : X := .ap 78 (.o .pair l (.o .pair i (.o .pair ah out)))
def upPX (b off ah out : X) : X := .ap 79 (.o .pair b (.o .pair off (.o .pair ah out)))
theorem pkP_iff (e : En) (l i ah out : X) : (pkPX l i ah out).B e = true ↔ PkP (l.R e) (i.I e) (ah.I e) (out.S e) := @decide_eq_true_iff _ (_)
theorem upP_iff (e : En) (b off ah out : X) : (upPX b off ah out).B e = true ↔ UpP (b.S e) (off.I e) (ah.I e) (out.R e) := @decide_eq_true_iff _ (_)
def nfI (l : X) : X := .ap 81 l
def okI (b : X) : X := .ap 82 b
theorem nfI_1 (e : En) (l : X) : (nfI l).I e = 1 ↔ (l.R e).length ≤ faF (l.R e) := by
  show (if (l.R e).length ≤ faF (l.R e) then (1 : Int) else 0) = 1 ↔ _
  split <;> simp [*]
theorem nfI_0 (e : En) (l : X) : (nfI l).I e = 0 ↔ ¬ (l.R e).length ≤ faF (l.R e) := by
  show (if (l.R e).length ≤ faF (l.R e) then (1 : Int) else 0) = 0 ↔ _
  split <;> simp [*]
theorem okI_1 (e : En) (b : X) : (okI b).I e = 1 ↔ okU (b.S e) = true := by
  show (if okU (b.S e) = true then (1 : Int) else 0) = 1 ↔ _
  split <;> simp [*]
theorem okI_0 (e : En) (b : X) : (okI b).I e = 0 ↔ okU (b.S e) = false := by
  show (if okU (b.S e) = true then (1 : Int) else 0) = 0 ↔ _
  split <;> simp [*]
def xSt (d : X) : X := .u .fst d
def xAd (d : X) : X := .u .fst (.u .snd d)
def xKd (d : X) : X := .u .fst (.u .snd (.u .snd d))
def xWr (d : X) : X := .u .fst (.u .snd (.u .snd (.u .snd d)))
def xDa (d : X) : X := .u .fst (.u .snd (.u .snd (.u .snd (.u .snd d))))
def xN (d : X) : X := .u .snd (.u .snd (.u .snd (.u .snd (.u .snd d))))
def xRow (d : X) : X := .u .row (.o .pair (xSt d) (.o .pair (xAd d) (.o .pair (xKd d) (.o .pair (xWr d) (.o .pair (xDa d) .nil)))))
def fSt (l i : X) : X := .u (.wrap .i64) (.o (.rI 0) l i)
def fAd (l i : X) : X := .u (.wrap .u32) (.o (.rI 1) l i)
def fKd (l i : X) : X := .u (.wrap .u8) (.o (.rI 2) l i)
def fWr (l i : X) : X := .o (.rB 3) l i
def fDa (l i : X) : X := .u (.wrap .u8) (.o (.rI 4) l i)
end Go.Proofs.YtjcpcnoakphecaaDoor
