/-
  Where instructions begin; what the names stand for, for the laws on opcodes. Conditions: none.
-/
import Derived.Test.YtjcpcnoakphecaaDoorOpM
import Derived.Test.YtjcpcnoakphecaaDoorTmB
set_option linter.unusedSectionVars false
set_option linter.unusedVariables false
set_option linter.unusedSimpArgs false
namespace Go.Proofs.YtjcpcnoakphecaaDoor
open Go Go.AE Go.SX Go.RowKit
set_option maxRecDepth 1000000
/-! Plain. -/
def szB (code : List UInt8) (at_ : Int) : Int := (((opR (code.getD at_.toNat 0).toNat).size : Nat) : Int)
/-- Where the n-th instruction begins. -/
def atF (code : List UInt8) : Nat → Int
  | 0 => 0
  | n + 1 => atF code n + szB code (atF code n)
def colI (out : List (List A)) (k : Nat) : Int := ((out.getD k []).getD 0 (.i 0)).toI
def WkP (code : List UInt8) (at_ : Int) (out : List (List A)) : Prop := (∀ k, k < out.length → colI out k = atF code k) ∧ at_ = atF code out.length ∧ 0 ≤ at_ ∧ at_ ≤ (code.length : Nat) ∧ (out.length : Int) ≤ at_ ∧ ∀ k, k < out.length → 0 ≤ atF code k ∧ atF code k < (code.length : Nat) ∧ atF code (k + 1) ≤ (code.length : Nat)
def WlP (code : List UInt8) (out : List (List A)) (i a : Int) : Prop := 0 ≤ i ∧ i ≤ (out.length : Nat) ∧ a = atF code i.toNat
theorem szB_rg (code : List UInt8) (a : Int) : 1 ≤ szB code a ∧ szB code a ≤ 7 := by
  have := op_rg (code.getD a.toNat 0).toNat
  unfold szB; omega
theorem toA_toI (d : D) : d.toA.toI = d.toI := by cases d <;> rfl
theorem colI_1 (out : List (List A)) (r : List A) {k : Nat} (h : k < out.length) : colI (out ++ [r]) k = colI out k := by
  have e : (out ++ [r]).getD k [] = out.getD k [] := by
    rw [List.getD_eq_getElem?_getD, List.getElem?_append_left h, ← List.getD_eq_getElem?_getD]
  unfold colI
  rw [e]
theorem colI_2 (out : List (List A)) (r : List A) : colI (out ++ [r]) out.length = (r.getD 0 (.i 0)).toI := by
  have e : (out ++ [r]).getD out.length [] = r := by
    rw [List.getD_eq_getElem?_getD, List.getElem?_append_right (Nat.le_refl _), Nat.sub_self]; rfl
  unfold colI
  rw [e]
theorem wk_next {code : List UInt8} {a : Int} {out : List (List A)} {r : List A} (h : WkP code a out) (hr : (r.getD 0 (.i 0)).toI = a) (h1 : a < (code.length : Nat)) (h2 : ¬ (code.length : Nat) - a < szB code a) : WkP code (a + szB code a) (out ++ [r]) := by
  obtain ⟨h0, ha, h3, h4, h5, h6⟩ := h
  have hs := szB_rg code a
  have hl : (out ++ [r]).length = out.length + 1 := by simp
  refine ⟨fun k hk => ?_, by rw [hl]; show _ = atF code out.length + szB code (atF code out.length); rw [← ha], by omega, by omega, by rw [hl]; omega, fun k hk => ?_⟩
  · rcases Nat.lt_or_ge k out.length with hkn | hkn
    · rw [colI_1 _ _ hkn]; exact h0 k hkn
    · obtain rfl : k = out.length := by omega
      rw [colI_2, hr, ha]
  · rcases Nat.lt_or_ge k out.length with hkn | hkn
    · exact h6 k hkn
    · obtain rfl : k = out.length := by omega
      refine ⟨by omega, by omega, ?_⟩
      show atF code out.length + szB code (atF code out.length) ≤ _
      rw [← ha]; omega
theorem wk_len {code : List UInt8} {a : Int} {out : List (List A)} (h : WkP code a out) : ((out.length : Nat) : Int) ≤ a := h.2.2.2.2.1
theorem wl_at {code : List UInt8} {a i b : Int} {out : List (List A)} (h : WkP code a out) (hl : WlP code out i b) (hi : i < (out.length : Nat)) :
    colI out i.toNat = b ∧ 0 ≤ b ∧ b < (code.length : Nat) ∧ b + szB code b ≤ (code.length : Nat) ∧ WlP code out (i + 1) (b + szB code b) := by
  obtain ⟨h0, ha, h3, h4, h5, h6⟩ := h
  obtain ⟨g1, g2, rfl⟩ := hl
  have hk : i.toNat < out.length := by omega
  obtain ⟨q1, q2, q3⟩ := h6 i.toNat hk
  have e1 : (i + 1).toNat = i.toNat + 1 := by omega
  exact ⟨h0 _ hk, q1, q2, q3, by omega, by omega, by rw [e1]; rfl⟩
theorem wl_end {code : List UInt8} {a i b : Int} {out : List (List A)} (h : WkP code a out) (hl : WlP code out i b) (hi : ¬ i < (out.length : Nat)) : a = b := by
  obtain ⟨g1, g2, rfl⟩ := hl
  have : i.toNat = out.length := by omega
  rw [this]; exact h.2.1
open Classical in
class DOk4 [DF] : Prop where
  h58 : ∀ d, Fam.Φ 58 d = .b (decide (WkP d.fst.toS d.snd.fst.toI d.snd.snd.toR))
  h59 : ∀ d, Fam.Φ 59 d = .b (decide (WlP d.fst.toS d.snd.fst.toR d.snd.snd.fst.toI d.snd.snd.snd.toI))
  h60 : ∀ d, Fam.Φ 60 d = .b (decide (NmP d.fst.toS d.snd.fst.toS d.snd.snd.fst.toI d.snd.snd.snd.fst.toI d.snd.snd.snd.snd.toI))
  h61 : ∀ d, Fam.Φ 61 d = .b (decide (KnP d.fst.toS d.snd.fst.toI d.snd.snd.toB))
  h62 : ∀ d, Fam.Φ 62 d = .r rowsN
section
variable [DF] [DOk1] [DOk4]
def wkX (code a out : X) : X := .ap 58 (.o .pair code (.o .pair a out))
theorem wkX_iff (e : En) (code a out : X) : (wkX code a out).B e = true ↔ WkP (code.S e) (a.I e) (out.R e) := by
  show (Fam.Φ 58 (.p (code.den e) (.p (a.den e) (out.den e)))).toB = true ↔ _
  rw [DOk4.h58]
  exact @decide_eq_true_iff _ (_)
def wlX (code out i a : X) : X := .ap 59 (.o .pair code (.o .pair out (.o .pair i a)))
theorem wlX_iff (e : En) (code out i a : X) : (wlX code out i a).B e = true ↔ WlP (code.S e) (out.R e) (i.I e) (a.I e) := by
  show (Fam.Φ 59 (.p (code.den e) (.p (out.den e) (.p (i.den e) (a.den e))))).toB = true ↔ _
  rw [DOk4.h59]
  exact @decide_eq_true_iff _ (_)
def szN (a : X) : X := szX (.o .nth (.v 0) a)
theorem szN_I (e : En) (a : X) : (szN a).I e = szB (e.ρ 0).toS (a.I e) := by
  show (Fam.Φ 40 ((X.o .nth (.v 0) a).den e)).snd.snd.fst.toI = _
  rw [DOk1.h40]
  show (((opR (((((e.ρ 0).toS.getD (a.I e).toNat 0).toNat : Nat) : Int)).toNat).size : Nat) : Int) = _
  simp [szB]
def wk1 : X := wkX (.v 0) (.v 1) (.v 2)
def wl4 : X := wlX (.v 0) (.v 2) (.v 4) (.v 5)
def len0 : X := lenX' (.v 0)
def rl2 : X := .u .rlen (.v 2)
def lemW1 : List X := [wlX (.v 0) (.v 2) (.i 0) (.i 0), impS wk1 (.u .not (.o .lt (.v 1) rl2)), impS (.o .and wk1 (.o .and (.o .lt (.v 1) len0) (.u .not (.o .lt (.o .add (mulC (.v 1) (-1)) len0) (szN (.v 1)))))) (wkX (.v 0) (.o .add (.v 1) (szN (.v 1))) (.o .rcat (.v 2) (.u .row (.o .pair (.v 1) .nil))))]
theorem wl_init (e : En) : (wlX (.v 0) (.v 2) (.i 0) (.i 0)).B e = true := (wlX_iff e _ _ _ _).2 ⟨Int.le_refl _, Int.natCast_nonneg _, rfl⟩
theorem lemW1_ok : ∀ x ∈ lemW1, ∀ e : En, x.B e = true := by
  refine all_cons' wl_init (all_cons' (fun e => impS_ok fun h => ?_) (all_cons' (fun e => impS_ok fun h => ?_) all_nil'))
  · have := wk_len ((wkX_iff e _ _ _).1 h)
    have : (((e.ρ 2).toR.length : Nat) : Int) ≤ (e.ρ 1).toI := this
    exact nlt_in (by show ¬ (e.ρ 1).toI < (((e.ρ 2).toR.length : Nat) : Int); omega)
  · obtain ⟨h1, h2⟩ := and_out h
    obtain ⟨h3, h4⟩ := and_out h2
    have h4 : ¬ (mulC (.v 1) (-1)).I e + (((e.ρ 0).toS.length : Nat) : Int) < (szN (.v 1)).I e := nlt_out h4
    rw [mulC_I, szN_I] at h4
    have h3 : (e.ρ 1).toI < (((e.ρ 0).toS.length : Nat) : Int) := lt_out h3
    have h4 : ¬ (e.ρ 1).toI * (-1) + (((e.ρ 0).toS.length : Nat) : Int) < szB (e.ρ 0).toS (e.ρ 1).toI := h4
    refine (wkX_iff e _ _ _).2 ?_
    show WkP (e.ρ 0).toS ((e.ρ 1).toI + (szN (.v 1)).I e) ((e.ρ 2).toR ++ [[(e.ρ 1).toA]])
    rw [szN_I]
    exact wk_next ((wkX_iff e _ _ _).1 h1) (toA_toI _) h3 (by
      show ¬ (((e.ρ 0).toS.length : Nat) : Int) - (e.ρ 1).toI < szB (e.ρ 0).toS (e.ρ 1).toI
      omega)
def r4X : X := .u (.wrap .i64) (.o (.rI 0) (.v 2) (.v 4))
def few0 : X := .u .not (.o .lt (.i 1000) len0)
def nx5 : X := .o .add (.v 5) (szN (.v 5))
def lemW4 : List X := [impS (.o .and (.o .and wk1 wl4) (.o .and few0 (.o .lt (.v 4) rl2))) (.o .and (.o .and (.o .eq r4X (.v 5)) (.o .lt (.v 5) len0)) (.o .and (wlX (.v 0) (.v 2) (addI (.v 4) 1) nx5) (.o .and (.u .not (.o .lt nx5 (.i 0))) (.u .not (.o .lt (.i 1000) nx5))))),
  impS (.o .and (.o .and wk1 wl4) (.u .not (.o .lt (.v 4) rl2))) (.o .and (.o .eq (.v 1) (.v 5)) (.o .eq (.v 5) (.v 1)))]
theorem lemW4_ok : ∀ x ∈ lemW4, ∀ e : En, x.B e = true := by
  refine all_cons' (fun e => impS_ok fun h => ?_) (all_cons' (fun e => impS_ok fun h => ?_) all_nil')
  · obtain ⟨h1, h2⟩ := and_out h
    obtain ⟨hw, hl⟩ := and_out h1
    obtain ⟨hf, hi⟩ := and_out h2
    have hf : ¬ (1000 : Int) < (((e.ρ 0).toS.length : Nat) : Int) := nlt_out hf
    obtain ⟨q1, q2, q3, q4, q5⟩ := wl_at ((wkX_iff e _ _ _).1 hw) ((wlX_iff e _ _ _ _).1 hl) (lt_out hi)
    have q2 : 0 ≤ (e.ρ 5).toI := q2
    have q3 : (e.ρ 5).toI < (((e.ρ 0).toS.length : Nat) : Int) := q3
    have q4 : (e.ρ 5).toI + szB (e.ρ 0).toS (e.ρ 5).toI ≤ (((e.ρ 0).toS.length : Nat) : Int) := q4
    have hs := szB_rg (e.ρ 0).toS (e.ρ 5).toI
    have hn : nx5.I e = (e.ρ 5).toI + szB (e.ρ 0).toS (e.ρ 5).toI := by
      show (e.ρ 5).toI + (szN (.v 5)).I e = _
      rw [szN_I]; rfl
    refine and_B (and_B (eq_in ?_) (decide_eq_true q3)) (and_B ((wlX_iff e _ _ _ _).2 ?_) (and_B (nlt_in ?_) (nlt_in ?_)))
    · show IntKind.i64.wrap (colI (e.ρ 2).toR (e.ρ 4).toI.toNat) = (e.ρ 5).toI
      rw [show colI (e.ρ 2).toR (e.ρ 4).toI.toNat = (e.ρ 5).toI from q1]
      exact wrap_in (by show (-9223372036854775808 : Int) ≤ _; omega) (by show _ ≤ (9223372036854775807 : Int); omega)
    · rw [hn]; exact q5
    · rw [hn]; show ¬ _ < (0 : Int); omega
    · rw [hn]; show ¬ (1000 : Int) < _; omega
  · obtain ⟨h1, hi⟩ := and_out h
    obtain ⟨hw, hl⟩ := and_out h1
    have := wl_end ((wkX_iff e _ _ _).1 hw) ((wlX_iff e _ _ _ _).1 hl) (nlt_out hi)
    exact and_B (eq_in this) (eq_in this.symm)
theorem wk_init (e : En) : (wkX (.v 0) (.i 0) (.o .rtake .nil (.i 0))).B e = true := (wkX_iff e _ _ _).2 (by
  show WkP (e.ρ 0).toS 0 []
  exact ⟨fun k hk => (by simp at hk), rfl, Int.le_refl _, Int.natCast_nonneg _, Int.le_refl _, fun k hk => (by simp at hk)⟩)
end
/-! What the names stand for. -/
open Classical in
noncomputable def phiO : Nat → D → D
  | 40, d => opD d
  | 41, d => .i (ixI (ixB d.snd.toI.toNat.toUInt8 d.fst.toS))
  | 43, d => joinD d
  | 47, _ => .i 0
  | 48, _ => .i 2
  | 49, d => .s (Lib.repeatL d.fst.toS d.snd.toI.toNat)
  | 50, _ => .i 0
  | 58, d => .b (decide (WkP d.fst.toS d.snd.fst.toI d.snd.snd.toR))
  | 59, d => .b (decide (WlP d.fst.toS d.snd.fst.toR d.snd.snd.fst.toI d.snd.snd.snd.toI))
  | 60, d => .b (decide (NmP d.fst.toS d.snd.fst.toS d.snd.snd.fst.toI d.snd.snd.snd.fst.toI d.snd.snd.snd.snd.toI))
  | 61, d => .b (decide (KnP d.fst.toS d.snd.fst.toI d.snd.snd.toB))
  | 62, _ => .r rowsN
  | _, _ => .u
theorem phiO_ok : ∀ f p d, (rgD f p).has ((phiO f d).proj p).toI := by
  intro f p d
  have ho := op_rg d.toI.toNat
  unfold rgD
  split
  · exact hasM (by show (0 : Int) ≤ ((opR d.toI.toNat).mode : Nat); omega) (by show (((opR d.toI.toNat).mode : Nat) : Int) ≤ 19; omega)
  · exact hasM (by show (1 : Int) ≤ ((opR d.toI.toNat).size : Nat); omega) (by show (((opR d.toI.toNat).size : Nat) : Int) ≤ 7; omega)
  · exact hasM (by show (2 : Int) ≤ ((opR d.toI.toNat).cycles : Nat); omega) (by show (((opR d.toI.toNat).cycles : Nat) : Int) ≤ 17; omega)
  · refine ⟨fun x hx => ?_, fun x hx => (by cases hx)⟩
    cases hx
    show (-1 : Int) ≤ ixI (ixB d.snd.toI.toNat.toUInt8 d.fst.toS)
    cases ixB d.snd.toI.toNat.toUInt8 d.fst.toS with
    | none => exact Int.le_refl _
    | some n => show (-1 : Int) ≤ (n : Int); omega
  · exact hasM (by show (0 : Int) ≤ 0; omega) (by show (0 : Int) ≤ 393233; omega)
  · exact hasM (by show (2 : Int) ≤ 2; omega) (by show (2 : Int) ≤ 393233; omega)
  · exact ⟨fun x hx => (by cases hx; exact Int.le_refl _), fun x hx => (by cases hx)⟩
  · exact hasT _
theorem phiO_sh : ∀ f d d', (shD f).like d d' → phiO f d = phiO f d' := by
  intro f d d' hl
  unfold shD at hl
  split at hl
  · have h : d.toI = d'.toI := hl
    show opD d = opD d'
    unfold opD
    rw [h]
  · rfl
  · rfl
  · rfl
  · have h1 : d.fst = d'.fst := hl.1
    have h2 : d.snd.toI = d'.snd.toI := hl.2
    show D.s (Lib.repeatL d.fst.toS d.snd.toI.toNat) = D.s (Lib.repeatL d'.fst.toS d'.snd.toI.toNat)
    rw [h1, h2]
  · rfl
  · rfl
  · rfl
  · rfl
  · have h : d = d' := hl
    rw [h]
noncomputable instance dfO : DF := ⟨phiO, phiO_ok, phiO_sh⟩
instance : DOk1 := ⟨fun _ => rfl, fun _ => rfl, fun _ => rfl, fun _ => rfl⟩
instance : DOk4 := ⟨fun _ => rfl, fun _ => rfl, fun _ => rfl, fun _ => rfl, fun _ => rfl⟩
/-! What must be whatever is asked of opcodes. -/
theorem CLo_all {T' : Tab Tryd.prog} : ∀ p ∈ (107, conCall (conSortAt namesB sortedN)) :: (108, conCall (conCompAt sortedN namesL)) :: CLd, ConOk T' p.1 p.2 := by
  refine all_cons' conSrt.ok (all_cons' conCmp.ok fun p hp => ?_)
  simp only [CLd, List.mem_cons, List.not_mem_nil, or_false] at hp
  rcases hp with rfl | rfl | rfl | rfl | rfl | rfl | rfl | rfl
  · exact conIBx.ok
  · exact conIX.ok
  · exact conTR.ok
  · exact conJNx.ok
  · exact conRPx.ok
  · exact conA.ok
  · exact conB.ok
  · exact conKn.ok
noncomputable def CLo : List (FuncId × CallF) := (107, conCall (conSortAt namesB sortedN)) :: (108, conCall (conCompAt sortedN namesL)) :: CLd
noncomputable def CO0 := conTab CLo
theorem CO0_ok : ∀ n c, CO0 n = some c → ConOk TO n c := conTab_ok CLo_all
theorem yes_conT {n : FuncId} {T' : Tab Tryd.prog} (hfn : T'.fn n = true) {C : FuncId → Option CallF} (hC : ∀ n c, C n = some c → ConOk T' n c) (h : evT (envOf []) (.z (.b (.b true))) (treeOf T' W0 C 300 20 n (gI 0 []) [] []) = true) : Con Tryd.prog n cYes := by
  intro g args m ns v m' e hf hg hn
  unfold cYes at hf
  split at hf
  · cases hf
    exact ACall.of_fin (e := envOf []) hC hfn (gI_ok fun p hp => by cases hp) rfl h (denM e m)
  · cases hf
end Go.Proofs.YtjcpcnoakphecaaDoor
