/-
  The loops of the law on finding opcodes. Conditions: none.
-/
import Derived.Test.YtciemdpcllpdkaaDoorFnB
import Derived.Test.YtciemdpcllpdkaaDoorFnC
set_option linter.unusedSectionVars false
set_option linter.unusedVariables false
set_option linter.unusedSimpArgs false
namespace Go.Proofs.YtciemdpcllpdkaaDoor
open Go Go.AE Go.SX Go.RowKit Go.Sort
set_option maxRecDepth 1000000
noncomputable def CF := conTab ((11, conCall cYes) :: (lcTabO [(12, [lcFi]), (15, [lcMo])] ++ CLo))
theorem CF_ok : ∀ n c, CF n = some c → ConOk TO n c := conTab_ok (all_cons' live23.ok fun p hp => (List.mem_append.1 hp).elim (lcTabO_all (all_cons' (one_lcO rfl fi_lc) (all_cons' (one_lcO rfl mo_lc) all_nil')) p) (CLo_all p))
noncomputable def WL : FuncId → Nat → List (Hint Tryd.prog) := fun n k => bif Nat.beq n 4 then (bif Nat.beq k 0 then [.t 10 (some (-1)) (some 255), .t 7 (some 0) (some 256), .t 8 (some 0) (some 255), .a 9 4 20] else bif Nat.beq k 1 then [.t 13 (some 0) (some 20), .l 12 5 (some 20)] else []) else bif Nat.beq n 14 then [.t 5 (some 0) (some 20)] else []
def lwPX (i n f h : X) : X := .ap 70 (.o .pair (.v 0) (.o .pair (.v 1) (.o .pair i (.o .pair n (.o .pair f h)))))
theorem lwP_iff (e : En) (i n f h : X) : (lwPX i n f h).B e = true ↔ LwP (e.ρ 0).toS (e.ρ 1).toI (i.I e) (n.I e) (f.I e) (h.R e) := @decide_eq_true_iff _ (_)
def wtPX (i w : X) : X := .ap 71 (.o .pair (.v 0) (.o .pair (.v 1) (.o .pair (.v 3) (.o .pair (.v 4) (.o .pair (.v 5) (.o .pair i w))))))
theorem wtP_iff (e : En) (i w : X) : (wtPX i w).B e = true ↔ WtQ (e.ρ 0).toS (e.ρ 1).toI (e.ρ 3).toI (e.ρ 4).toI (e.ρ 5).toR (i.I e) (w.S e) := @decide_eq_true_iff _ (_)
def smX : X := .ap 74 (.o .pair (.v 0) (.v 8))
theorem sm_iff (e : En) : smX.B e = true ↔ (e.ρ 8).toS = srtF (rawF (e.ρ 0).toS) := @decide_eq_true_iff _ (_)
def lwI : X := lwPX (.v 2) (.v 3) (.v 4) (.v 5)
def knH : X := .o .and (knX (.v 2)) (.o .seq (nmX (.v 2)) (.v 0))
def moH' : X := .o .eq (mdX (.v 2)) (.v 1)
def nA : X := .t .i knH (.o .add (.v 3) (.t .i moH' (.i 1) (.i 0))) (.v 3)
def fA : X := .t .i knH (.t .i moH' (.v 2) (.v 4)) (.v 4)
def hA : X := .t .r knH (.rset (.v 5) (mdX (.v 2)) (.o .pair (.b true) .nil)) (.v 5)
def iA : X := .o .add (.v 2) (.i (-1))
def rgX (x : X) (a b : Int) : X := .o .and (.u .not (.o .lt x (.i a))) (.u .not (.o .lt (.i b) x))
theorem rgX_ok {e : En} {x : X} {a b : Int} (h0 : a ≤ x.I e) (h1 : x.I e ≤ b) : (rgX x a b).B e = true := and_B (nlt_in (by show ¬ x.I e < a; omega)) (nlt_in (by show ¬ b < x.I e; omega))
theorem opX (e : En) (x : X) (h : 0 ≤ x.I e) : Fam.Φ 40 (x.den e) = opD (.i (((x.I e).toNat : Nat) : Int)) := by
  have h : (x.den e).toI.toNat = (D.i (((x.I e).toNat : Nat) : Int)).toI.toNat := by
    show (x.I e).toNat = ((((x.I e).toNat : Nat) : Int)).toNat
    rw [Int.toNat_natCast]
  show opD (x.den e) = _
  unfold opD
  rw [h]
theorem kn_B (e : En) (h : 0 ≤ (e.ρ 2).toI) : knH.B e = nameB (e.ρ 0).toS (e.ρ 2).toI.toNat := by
  show ((Fam.Φ 40 ((X.v 2).den e)).snd.snd.snd.snd.toB && ((Fam.Φ 40 ((X.v 2).den e)).fst.toS == (e.ρ 0).toS)) = _
  rw [opX e (.v 2) h]
  show ((opR ((((X.v 2).I e).toNat : Nat) : Int).toNat).known && ((opR ((((X.v 2).I e).toNat : Nat) : Int).toNat).name == (e.ρ 0).toS)) = _
  rw [Int.toNat_natCast]; rfl
theorem md_I (e : En) (h : 0 ≤ (e.ρ 2).toI) : (mdX (.v 2)).I e = (((opR (e.ρ 2).toI.toNat).mode : Nat) : Int) := by
  show (Fam.Φ 40 ((X.v 2).den e)).snd.fst.toI = _
  rw [opX e (.v 2) h]
  show (((opR ((((X.v 2).I e).toNat : Nat) : Int).toNat).mode : Nat) : Int) = _
  rw [Int.toNat_natCast]; rfl
theorem step_eq (e : En) (h : 0 ≤ (e.ρ 2).toI) : (nA.I e, fA.I e, hA.R e) = lwS (e.ρ 0).toS (e.ρ 1).toI (e.ρ 2).toI.toNat ((e.ρ 3).toI, (e.ρ 4).toI, (e.ρ 5).toR) := by
  have hk := kn_B e h
  have hm := md_I e h
  have hM : moH'.B e = decide ((((opR (e.ρ 2).toI.toNat).mode : Nat) : Int) = (e.ρ 1).toI) := by
    show decide ((mdX (.v 2)).I e = (e.ρ 1).toI) = _
    rw [hm]
  have e1 : nA.I e = bif knH.B e then (e.ρ 3).toI + (bif moH'.B e then 1 else 0) else (e.ρ 3).toI := rfl
  have e2 : fA.I e = bif knH.B e then (bif moH'.B e then (e.ρ 2).toI else (e.ρ 4).toI) else (e.ρ 4).toI := rfl
  have e3 : hA.R e = bif knH.B e then (e.ρ 5).toR.set ((mdX (.v 2)).I e).toNat [.b true] else (e.ρ 5).toR := rfl
  rw [e1, e2, e3, hk, hM, hm, Int.toNat_natCast]
  unfold lwS
  cases nameB (e.ρ 0).toS (e.ρ 2).toI.toNat with
  | false => rfl
  | true =>
    have hi : (((e.ρ 2).toI.toNat : Nat) : Int) = (e.ρ 2).toI := by omega
    cases hc : decide ((((opR (e.ρ 2).toI.toNat).mode : Nat) : Int) = (e.ρ 1).toI) with
    | true => rw [hi]; rfl
    | false => show ((e.ρ 3).toI + 0, _, _) = _; rw [Int.add_zero]; rfl
def lwNx : X := .o .and (lwPX iA nA fA hA) (.o .and (rgX nA 0 256) (.o .and (rgX fA 0 255) (eq2 (.u .rlen hA) (.i 20))))
def lemL : List X := [impS (.o .and lwI (.u .not (.o .lt (.v 2) (.i 0)))) lwNx, impS (.o .and lwI (.o .lt (.v 2) (.i 0))) (wtPX (.i 0) (.s [])), impS (lwPX (.i (-1)) (.v 3) (.v 4) (.v 5)) (wtPX (.i 0) (.s []))]
theorem wt0 {e : En} {i : Int} (h : LwP (e.ρ 0).toS (e.ρ 1).toI i (e.ρ 3).toI (e.ρ 4).toI (e.ρ 5).toR) (hi : i < 0) : (wtPX (.i 0) (.s [])).B e = true := by
  obtain ⟨h0, h1, h2⟩ := h
  refine (wtP_iff e _ _).2 ⟨?_, Int.le_refl _, by show (0 : Int) ≤ 20; omega, rfl⟩
  rw [show (255 - i).toNat = 256 from by omega] at h2
  exact h2
theorem lemL_ok : AllB lemL := by
  refine allB1 (fun e => impS_ok fun h => ?_) (allB1 (fun e => impS_ok fun h => ?_) (allB1 (fun e => impS_ok fun h => ?_) allB0))
  · obtain ⟨h1, h2⟩ := and_out h
    have h2 : ¬ (e.ρ 2).toI < 0 := nlt_out h2
    have h1 := (lwP_iff e _ _ _ _).1 h1
    have key := lw_next h1 (by show 0 ≤ (e.ρ 2).toI; omega)
    have hs := step_eq e (by omega)
    have k1 : nA.I e = _ := congrArg (·.1) hs
    have k2 : fA.I e = _ := congrArg (·.2.1) hs
    have k3 : hA.R e = _ := congrArg (·.2.2) hs
    have kk : LwP (e.ρ 0).toS (e.ρ 1).toI (iA.I e) (nA.I e) (fA.I e) (hA.R e) := by
      rw [k1, k2, k3]; exact key
    obtain ⟨q0, q1, q2⟩ := kk
    have rg := lw_rg (e.ρ 0).toS (e.ρ 1).toI (255 - iA.I e).toNat
    rw [← q2] at rg
    obtain ⟨r1, r2, r3, r4, r5⟩ := rg
    have r1 : 0 ≤ nA.I e := r1
    have r2 : nA.I e ≤ (((255 - iA.I e).toNat : Nat) : Int) := r2
    have r5 : (hA.R e).length = 20 := r5
    exact and_B ((lwP_iff e _ _ _ _).2 ⟨q0, q1, q2⟩) (and_B (rgX_ok r1 (by omega)) (and_B (rgX_ok r3 r4) (eq2_in (by show (((hA.R e).length : Nat) : Int) = 20; rw [r5]; rfl))))
  · obtain ⟨h1, h2⟩ := and_out h
    exact wt0 ((lwP_iff e _ _ _ _).1 h1) (lt_out h2)
  · exact wt0 ((lwP_iff e _ _ _ _).1 h) (by show (-1 : Int) < 0; omega)
def wtI : X := wtPX (.v 7) (.v 8)
def wtLt : X := .o .lt (.v 7) (.i 20)
def wtH : X := .o (.rB 0) (.v 5) (.v 7)
def wtO : X := .o .cat (.v 8) (.u .unit (.v 7))
def i7 : X := .o .add (.v 7) (.i 1)
def finX : X := .o .and (.o .and (.u .not (.o .lt (.i 1) (.v 3))) (.o .beq fdS (.o .eq (.v 3) (.i 1)))) (.o .eq fdF (.v 4))
def rl0 : X := lenX' (rawX (.v 0))
def lemW : List X := [impS (.o .and (.o .and wtI wtLt) wtH) (wtPX i7 wtO), impS (.o .and (.o .and wtI wtLt) (.u .not wtH)) (wtPX i7 (.v 8)), impS wtI (.u .not (.o .lt (.v 7) (lenX' (.v 8)))), impS wtI finX, impS (.o .and wtI (.u .not wtLt)) (.o .and (eq2 rl0 (lenX' (.v 8))) smX), impS (wtPX (.i 20) (.v 8)) (.o .and finX (.o .and (eq2 rl0 (lenX' (.v 8))) smX))]
theorem fin_ok {e : En} {i : Int} {w : List UInt8} (h : WtQ (e.ρ 0).toS (e.ρ 1).toI (e.ρ 3).toI (e.ρ 4).toI (e.ρ 5).toR i w) : finX.B e = true := by
  obtain ⟨h1, h2⟩ := lw_end (e.ρ 0).toS (e.ρ 1).toI
  rw [← h.1] at h1 h2
  have h1 : (e.ρ 3).toI = _ := h1
  have h2 : (e.ρ 4).toI = _ := h2
  show ((!decide (1 < (e.ρ 3).toI) && (fdS.B e == decide ((e.ρ 3).toI = 1))) && decide (fdF.I e = (e.ρ 4).toI)) = true
  rw [show fdS.B e = (fnB (e.ρ 0).toS (e.ρ 1).toI).isSome from fn_snd e (.v 0) (.v 1), show fdF.I e = _ from fn_fst e (.v 0) (.v 1), h1, h2]
  show ((!decide ((1 : Int) < (match fnB (e.ρ 0).toS (e.ρ 1).toI with | some _ => 1 | none => 0)) && ((fnB (e.ρ 0).toS (e.ρ 1).toI).isSome == decide ((match fnB (e.ρ 0).toS (e.ρ 1).toI with | some _ => (1 : Int) | none => 0) = 1))) && decide ((match fnB (e.ρ 0).toS (e.ρ 1).toI with | some b => ((b : Nat) : Int) | none => 0) = (match fnB (e.ρ 0).toS (e.ρ 1).toI with | some b => ((b : Nat) : Int) | none => 0))) = true
  cases fnB (e.ρ 0).toS (e.ρ 1).toI <;> simp
theorem end_ok {e : En} {i : Int} (h : WtQ (e.ρ 0).toS (e.ρ 1).toI (e.ρ 3).toI (e.ρ 4).toI (e.ρ 5).toR i (e.ρ 8).toS) (hi : ¬ i < 20) : (X.o .and (eq2 rl0 (lenX' (.v 8))) smX).B e = true := by
  obtain ⟨h1, h2⟩ := h
  have h3 : (e.ρ 5).toR = hasF (e.ρ 0).toS := by
    have := congrArg (·.2.2) h1
    exact this.trans (hasF_at _ _)
  rw [h3] at h2
  have key := wt_end h2 hi
  refine and_B (eq2_in ?_) ((sm_iff e).2 key)
  show (((rawF (e.ρ 0).toS).length : Nat) : Int) = (((e.ρ 8).toS.length : Nat) : Int)
  rw [key, (raw_srt (e.ρ 0).toS).1]
theorem lemW_ok : AllB lemW := by
  refine allB1 (fun e => impS_ok fun h => ?_) (allB1 (fun e => impS_ok fun h => ?_) (allB1 (fun e => impS_ok fun h => ?_) (allB1 (fun e => impS_ok fun h => ?_) (allB1 (fun e => impS_ok fun h => ?_) (allB1 (fun e => impS_ok fun h => ?_) allB0)))))
  · obtain ⟨h1, h2⟩ := and_out h
    obtain ⟨h3, h4⟩ := and_out h1
    obtain ⟨g1, g2⟩ := (wtP_iff e _ _).1 h3
    have key := wt_next g2 (lt_out h4)
    have h2 : hasB (e.ρ 5).toR (e.ρ 7).toI.toNat = true := h2
    rw [show hasB (e.ρ 5).toR ((X.v 7).I e).toNat = true from h2, if_pos rfl] at key
    exact (wtP_iff e _ _).2 ⟨g1, key⟩
  · obtain ⟨h1, h2⟩ := and_out h
    obtain ⟨h3, h4⟩ := and_out h1
    obtain ⟨g1, g2⟩ := (wtP_iff e _ _).1 h3
    have key := wt_next g2 (lt_out h4)
    have h2 : hasB (e.ρ 5).toR (e.ρ 7).toI.toNat = false := not_out h2
    rw [show hasB (e.ρ 5).toR ((X.v 7).I e).toNat = false from h2, if_neg (by decide), List.append_nil] at key
    exact (wtP_iff e _ _).2 ⟨g1, key⟩
  · have := wt_len ((wtP_iff e _ _).1 h).2
    have : (((e.ρ 8).toS.length : Nat) : Int) ≤ (e.ρ 7).toI := this
    exact nlt_in (by show ¬ (e.ρ 7).toI < (((e.ρ 8).toS.length : Nat) : Int); omega)
  · exact fin_ok ((wtP_iff e _ _).1 h)
  · obtain ⟨h3, h4⟩ := and_out h
    exact end_ok ((wtP_iff e _ _).1 h3) (nlt_out h4)
  · exact and_B (fin_ok ((wtP_iff e _ _).1 h)) (end_ok ((wtP_iff e _ _).1 h) (by show ¬ (20 : Int) < 20; omega))
def sr0 : X := sX (rawX (.v 0))
def lemS : List X := [eq2 rl0 (lenX' sr0), impS smX (.o .and (eq2 rl0 (lenX' (.v 8))) (eq2 (.o .nth sr0 (.v 10)) (.o .nth (.v 8) (.v 10))))]
theorem lemS_ok : AllB lemS := by
  refine allB1 (fun e => eq2_in ?_) (allB1 (fun e => impS_ok fun h => ?_) allB0)
  · show (((rawF (e.ρ 0).toS).length : Nat) : Int) = (((srtF (rawF (e.ρ 0).toS)).length : Nat) : Int)
    rw [(raw_srt (e.ρ 0).toS).1]
  · have key := (sm_iff e).1 h
    refine and_B (eq2_in ?_) (eq2_in ?_)
    · show (((rawF (e.ρ 0).toS).length : Nat) : Int) = (((e.ρ 8).toS.length : Nat) : Int)
      rw [key, (raw_srt (e.ρ 0).toS).1]
    · show ((((srtF (rawF (e.ρ 0).toS)).getD ((e.ρ 10).toI.toNat) 0).toNat : Nat) : Int) = ((((e.ρ 8).toS.getD ((e.ρ 10).toI.toNat) 0).toNat : Nat) : Int)
      rw [key]
def LpF : Nat → Option LJ := fun n => bif Nat.beq n 2 then some ⟨lwI, .o .add (.v 2) (.i 1), none⟩ else bif Nat.beq n 7 then some ⟨wtI, mkSub (.i 20) (.v 7), none⟩ else bif Nat.beq n 10 then some ⟨smX, mkSub rl0 (.v 10), none⟩ else none
theorem LpF_ok : ∀ n li g, LpF n = some li → li.fn = some g → IsLoop g := fun n li g hl hg => by
  unfold LpF at hl
  cases h0 : Nat.beq n 2 with
  | true => rw [h0] at hl; cases hl; cases hg
  | false =>
  rw [h0] at hl
  cases h1 : Nat.beq n 7 with
  | true => rw [h1] at hl; cases hl; cases hg
  | false =>
  rw [h1] at hl
  cases h2 : Nat.beq n 10 with
  | true => rw [h2] at hl; cases hl; cases hg
  | false => rw [h2] at hl; cases hl
def lmF : Nat → List X := fun n => bif Nat.beq n 2 then lemL else bif Nat.beq n 7 then lemW else bif Nat.beq n 10 then lemS else []
theorem lmF_ok : ∀ b, ∀ x ∈ lmF b, ∀ e : En, x.B e = true := fun n x hx e => by
  unfold lmF at hx
  cases h0 : Nat.beq n 2 with
  | true => rw [h0] at hx; exact lemL_ok x hx e
  | false =>
  rw [h0] at hx
  cases h1 : Nat.beq n 7 with
  | true => rw [h1] at hx; exact lemW_ok x hx e
  | false =>
  rw [h1] at hx
  cases h2 : Nat.beq n 10 with
  | true => rw [h2] at hx; exact lemS_ok x hx e
  | false => rw [h2] at hx; cases hx
def zsX : Nat → X
  | 0 => .u .row (.o .pair (.b false) .nil)
  | k + 1 => .o .rcat (.u .row (.o .pair (.b false) .nil)) (zsX k)
theorem zs_R (e : En) : ∀ k, (zsX k).R e = List.replicate (k + 1) [A.b false]
  | 0 => rfl
  | k + 1 => by show [A.b false] :: (zsX k).R e = _; rw [zs_R e k]; rfl
def lw0 : X := lwPX (.i 255) (.i 0) (.i 0) (zsX 19)
theorem lw0_ok (e : En) : lw0.B e = true := (lwP_iff e _ _ _ _).2 ⟨by show (-1 : Int) ≤ 255; omega, Int.le_refl _, by
  show ((0 : Int), (0 : Int), (zsX 19).R e) = _
  rw [zs_R]; rfl⟩
end Go.Proofs.YtciemdpcllpdkaaDoor
