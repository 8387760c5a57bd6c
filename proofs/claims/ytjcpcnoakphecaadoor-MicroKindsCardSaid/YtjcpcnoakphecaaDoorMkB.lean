/-
  Bytes alike; kinds of given letters; the program of a block. Conditions: none.
-/
import Derived.Test.YtjcpcnoakphecaaDoorMkA
set_option linter.unusedSectionVars false
set_option linter.unusedVariables false
set_option linter.unusedSimpArgs false
namespace Go.Proofs.YtjcpcnoakphecaaDoor
open Go Go.AE Go.SX Go.RowKit
set_option maxRecDepth 1000000
/-! gannetref01.Same. -/
def slBw (j : Nat) (x : X) : SV := .z (.sl j (.i 0) 0 0 (lenX' x) (lenX' x))
def lcSameB (w1 w2 : Bool) : LC := ⟨2, [slBw 0 (.v 0), slBw 1 (.v 1)], [some ⟨.by (.v 0), 5, w1, false⟩, some ⟨.by (.v 1), 5, w2, false⟩], [⟨lenX' (.v 0), ⟨some 0, some 500000⟩⟩, ⟨lenX' (.v 1), ⟨some 0, some 500000⟩⟩], [], .z (.b (.o .seq (.v 0) (.v 1))), [some ⟨.by (.v 0), 5, w1, false⟩, some ⟨.by (.v 1), 5, w2, false⟩]⟩
def tkX (x i : X) : X := .o .take x i
def eqTk (i : X) : X := .o .seq (tkX (.v 0) i) (tkX (.v 1) i)
def lenEq : X := .o .eq (lenX' (.v 0)) (lenX' (.v 1))
def invS : X := .o .and lenEq (.o .and (.u .not (.o .lt (lenX' (.v 0)) (.v 2))) (eqTk (.v 2)))
def nthEq : X := .o .eq (.o .nth (.v 0) (.v 2)) (.o .nth (.v 1) (.v 2))
def ltS : X := .o .lt (.v 2) (lenX' (.v 0))
def geS : X := .u .not (.o .lt (.v 2) (.i 0))
def lemSm : List X := [impS (.o .and (.o .and lenEq (eqTk (.v 2))) (.o .and geS (.o .and ltS nthEq))) (eqTk (addI (.v 2) 1)), impS (.o .and (.o .and lenEq (eqTk (.v 2))) (.o .and geS (.o .and ltS (.u .not nthEq)))) (.u .not (.o .seq (.v 0) (.v 1))), impS (.o .and (.o .and lenEq (eqTk (.v 2))) (.u .not ltS)) (.o .seq (.v 0) (.v 1))]
theorem seq_out {a b : X} {e : En} (h : (X.o .seq a b).B e = true) : a.S e = b.S e := eq_of_beq h
theorem eq_out {a b : X} {e : En} (h : (X.o .eq a b).B e = true) : a.I e = b.I e := of_decide_eq_true h
theorem not_out {a : X} {e : En} (h : (X.u .not a).B e = true) : a.B e = false := by
  have h : (!a.B e) = true := h
  rwa [Bool.not_eq_true'] at h
theorem nthI (e : En) (x i : X) : (X.o .nth x i).I e = ((((x.S e).getD (i.I e).toNat 0).toNat : Nat) : Int) := rfl
theorem lemSm_ok : ∀ x ∈ lemSm, ∀ e : En, x.B e = true := by
  refine all_cons' (fun e => impS_ok fun h => ?_) (all_cons' (fun e => impS_ok fun h => ?_) (all_cons' (fun e => impS_ok fun h => ?_) all_nil'))
  · obtain ⟨h1, h2⟩ := and_out h
    obtain ⟨hl, ht⟩ := and_out h1
    obtain ⟨hg, h3⟩ := and_out h2
    obtain ⟨hlt, hn⟩ := and_out h3
    have hl : (((e.ρ 0).toS.length : Nat) : Int) = (((e.ρ 1).toS.length : Nat) : Int) := eq_out hl
    have ht : (e.ρ 0).toS.take (e.ρ 2).toI.toNat = (e.ρ 1).toS.take (e.ρ 2).toI.toNat := seq_out ht
    have hg : ¬ (e.ρ 2).toI < 0 := nlt_out hg
    have hlt : (e.ρ 2).toI < (((e.ρ 0).toS.length : Nat) : Int) := lt_out hlt
    have hn := eq_out hn
    rw [nthI, nthI] at hn
    have hn : (e.ρ 0).toS.getD (e.ρ 2).toI.toNat 0 = (e.ρ 1).toS.getD (e.ρ 2).toI.toNat 0 := UInt8.toNat_inj.1 (by
      have hn : ((((e.ρ 0).toS.getD (e.ρ 2).toI.toNat 0).toNat : Nat) : Int) = ((((e.ρ 1).toS.getD (e.ρ 2).toI.toNat 0).toNat : Nat) : Int) := hn
      omega)
    refine seq_in ?_
    show (e.ρ 0).toS.take ((e.ρ 2).toI + 1).toNat = (e.ρ 1).toS.take ((e.ρ 2).toI + 1).toNat
    rw [take_next (by omega) hlt 0, take_next (by omega) (by omega) 0, ht, hn]
  · obtain ⟨h1, h2⟩ := and_out h
    obtain ⟨hl, ht⟩ := and_out h1
    obtain ⟨hg, h3⟩ := and_out h2
    obtain ⟨hlt, hn⟩ := and_out h3
    have hn := not_out hn
    show (!((e.ρ 0).toS == (e.ρ 1).toS)) = true
    rw [Bool.not_eq_true', beq_eq_false_iff_ne]
    intro he
    have : nthEq.B e = true := eq_in (by rw [nthI, nthI]; show ((((e.ρ 0).toS.getD _ 0).toNat : Nat) : Int) = ((((e.ρ 1).toS.getD _ 0).toNat : Nat) : Int); rw [he])
    rw [this] at hn; cases hn
  · obtain ⟨h1, hlt⟩ := and_out h
    obtain ⟨hl, ht⟩ := and_out h1
    have hl : (((e.ρ 0).toS.length : Nat) : Int) = (((e.ρ 1).toS.length : Nat) : Int) := eq_out hl
    have ht : (e.ρ 0).toS.take (e.ρ 2).toI.toNat = (e.ρ 1).toS.take (e.ρ 2).toI.toNat := seq_out ht
    have hlt : ¬ (e.ρ 2).toI < (((e.ρ 0).toS.length : Nat) : Int) := nlt_out hlt
    rw [take_all (by omega), take_all (by omega)] at ht
    exact seq_in ht
def axSm : List X := [eqTk (.i 0), impS (.u .not lenEq) (.u .not (.o .seq (.v 0) (.v 1)))]
theorem axSm_ok : ∀ x ∈ axSm, ∀ e : En, x.B e = true := by
  refine all_cons' (fun e => seq_in rfl) (all_cons' (fun e => impS_ok fun h => ?_) all_nil')
  have h := not_out h
  show (!((e.ρ 0).toS == (e.ρ 1).toS)) = true
  rw [Bool.not_eq_true', beq_eq_false_iff_ne]
  intro he
  have : lenEq.B e = true := eq_in (by show (((e.ρ 0).toS.length : Nat) : Int) = (((e.ρ 1).toS.length : Nat) : Int); rw [he])
  rw [this] at h; cases h
def WSm : FuncId → Nat → List (Hint Tryd.prog) := fun n _ => bif Nat.beq n 22 then [.t 5 (some 0) (some 500000)] else []
theorem same_tt : (lcSameB true true).Ok Tryd.prog 22 := LC.Ok.drop (ax := axSm) (LC.Ok.of_treeF (L := Lno 2 invS (mkSub (lenX' (.v 0)) (.v 2))) (lem := Xone 2 lemSm) (W := WSm) (n := 12) (cf := 300) (d := 20) (opn := []) (cls := []) Lno_ok (Xone_ok lemSm_ok) CD_ok noT_ok rfl rfl (by kernel_rfl)) axSm_ok
/-! Kinds of given letters, reckoned. -/
def evX : X → X
  | .ap f x => (match x with
    | .s l => bif Nat.beq f 45 then .s (kdF l) else .ap f (.s l)
    | x => .ap f x)
  | .u .len (.ap f x) => (match x with
    | .s l => bif Nat.beq f 45 then .i ((kdF l).length : Nat) else .u .len (.ap f (.s l))
    | x => .u .len (.ap f x))
  | x => x
theorem evX_den (e : En) (x : X) : (evX x).den e = x.den e := by
  unfold evX
  split
  · split
    · rename_i f x0 l
      cases h : Nat.beq f 45 with
      | false => rfl
      | true =>
        rw [Nat.eq_of_beq_eq_true h]
        show D.s (kdF l) = Fam.Φ 45 (.s l)
        rw [DOk2.h45]; rfl
    · rfl
  · split
    · rename_i f x0 l
      cases h : Nat.beq f 45 with
      | false => rfl
      | true =>
        rw [Nat.eq_of_beq_eq_true h]
        show D.i ((kdF l).length : Nat) = D.i (((Fam.Φ 45 (.s l)).toS.length : Nat))
        rw [DOk2.h45]; rfl
    · rfl
  · rfl
def evV : SV → SV
  | .a (.s (.z (.sl j x w c n q))) => .a (.s (.z (.sl j x w c (evX n) (evX q))))
  | v => v
theorem evV_den (e : En) (v : SV) : (evV v).den e = v.den e := by
  unfold evV
  split
  · show Value.slice _ ((evX _).I e).toNat ((evX _).I e).toNat = _
    simp only [X.I, evX_den]; rfl
  · rfl
def evB : Option SBlk → Option SBlk
  | some ⟨.by x, t, w, q⟩ => some ⟨.by (evX x), t, w, q⟩
  | b => b
theorem evB_den (e : En) (b : Option SBlk) : (evB b).map (SBlk.den e) = b.map (SBlk.den e) := by
  unfold evB
  split
  · show some (ABlk.mk (((evX _).S e).map Byt) _ _ _ _) = _
    simp only [X.S, evX_den]; rfl
  · rfl
def conEv (f : ConF) : ConF := fun g args m => match f g args m with
  | some (ns, v, m') => some (ns, evV v, m'.map evB)
  | none => none
theorem Con.ev {n : FuncId} {f : ConF} (h : Con Tryd.prog n f) : Con Tryd.prog n (conEv f) := by
  intro g args m ns v m' e hf hg hn
  unfold conEv at hf
  split at hf
  case h_2 => cases hf
  rename_i ns0 v0 m0 h0
  cases hf
  have hm : denM e (m0.map evB) = denM e m0 := by
    unfold denM
    rw [List.map_map]
    exact List.map_congr_left fun b _ => evB_den e b
  rw [evV_den, hm]
  exact h g args m _ _ _ e h0 hg hn
noncomputable def conKd : ConF := conEv (conG 12 T lcKinds)
theorem conKd_ok : Con Tryd.prog 91 conKd := Con.ev (conG_ok rfl kinds_lc)
noncomputable def CLk : List (FuncId × CallF) := (91, conCall conKd) :: (lcTab [(22, [lcSameB true true])] ++ CLm)
theorem CLk_all : ∀ p ∈ CLk, ConOk T p.1 p.2 := all_cons' conKd_ok.ok (app_all (lcTab_all (all_cons' (one_lc rfl same_tt) all_nil')) CLm_all)
noncomputable def CM2 := conTab ((53, conCall cYes) :: CLk)
theorem CM2_ok : ∀ n c, CM2 n = some c → ConOk T n c := conTab_ok (all_cons' live30.ok CLk_all)
/-! A block's program. -/
def H0 : List UInt8 := [0, 5, 5, 5, 1, 1, 1, 1, 1, 1, 2]
def L0 : List UInt8 := [2, 3, 2, 2, 4, 2]
def T0 : List UInt8 := [2, 6, 6, 6, 2, 2]
theorem kdF_app (a b : List UInt8) : kdF (a ++ b) = kdF a ++ kdF b := List.map_append
theorem kdF_rep (l : List UInt8) : ∀ n, kdF (Lib.repeatL l n) = Lib.repeatL (kdF l) n
  | 0 => rfl
  | n + 1 => by
    show kdF (l ++ Lib.repeatL l n) = kdF l ++ Lib.repeatL (kdF l) n
    rw [kdF_app, kdF_rep l n]
theorem rep_snoc (l : List UInt8) : ∀ n, Lib.repeatL l n ++ l = l ++ Lib.repeatL l n
  | 0 => by show [] ++ l = l ++ []; simp
  | n + 1 => by
    show l ++ Lib.repeatL l n ++ l = l ++ (l ++ Lib.repeatL l n)
    rw [List.append_assoc, rep_snoc l n]
theorem kd_blk (n : Nat) : kdF (blkH ++ (Lib.repeatL aByteL n ++ blkE)) = H0 ++ Lib.repeatL L0 n ++ T0 := by
  rw [kdF_app, kdF_app, kdF_rep, List.append_assoc]
  have h1 : kdF blkH = H0 := by decide
  have h2 : kdF aByteL = L0 := by decide
  have h3 : kdF blkE = T0 := by decide
  rw [h1, h2, h3]
def rpL (l : List UInt8) (n : X) : X := .ap 49 (.o .pair (.s l) n)
theorem rpL_S (e : En) (l : List UInt8) (n : X) : (rpL l n).S e = Lib.repeatL l (n.I e).toNat := by
  show (Fam.Φ 49 (.p (.s l) (n.den e))).toS = _
  rw [DOk1.h49]; rfl
/-- The law's loop: what is behind the head, so often. -/
def hdX (n : X) : X := .o .cat (.s H0) (rpL L0 n)
def invM : X := .o .and (.o .seq (.v 6) (hdX (.v 5))) (.u .not (.o .lt (.v 4) (.v 5)))
def lemM : List X := [impS (.o .and (.o .seq (.v 6) (hdX (.v 5))) (.u .not (.o .lt (.v 5) (.i 0)))) (.o .and (.o .seq (.o .cat (.v 6) (.s L0)) (hdX (addI (.v 5) 1))) (.o .eq (lenX' (.v 6)) (addI (mulC (.v 5) 6) 11))),
  impS (.o .and (.o .seq (.v 6) (hdX (.v 5))) (.o .and (.u .not (.o .lt (.v 5) (.v 4))) (.u .not (.o .lt (.v 4) (.v 5))))) (.o .seq (.o .cat (.v 6) (.s T0)) (kdX (.o .cat (.s blkH) (.o .cat (rpL aByteL (.v 4)) (.s blkE)))))]
theorem lemM_ok : ∀ x ∈ lemM, ∀ e : En, x.B e = true := by
  refine all_cons' (fun e => impS_ok fun h => ?_) (all_cons' (fun e => impS_ok fun h => ?_) all_nil')
  · obtain ⟨h1, h2⟩ := and_out h
    have h1 : (e.ρ 6).toS = H0 ++ (rpL L0 (.v 5)).S e := seq_out h1
    have h2 : ¬ (e.ρ 5).toI < 0 := nlt_out h2
    rw [rpL_S] at h1
    have h1 : (e.ρ 6).toS = H0 ++ Lib.repeatL L0 (e.ρ 5).toI.toNat := h1
    refine and_B (seq_in ?_) (eq_in ?_)
    · show (e.ρ 6).toS ++ L0 = H0 ++ (rpL L0 (addI (.v 5) 1)).S e
      rw [rpL_S, h1, List.append_assoc, rep_snoc]
      have : ((addI (.v 5) 1).I e).toNat = (e.ρ 5).toI.toNat + 1 := by
        show ((e.ρ 5).toI + 1).toNat = _
        omega
      rw [this]; rfl
    · show (((e.ρ 6).toS.length : Nat) : Int) = (mulC (.v 5) 6).I e + 11
      rw [mulC_I, h1, List.length_append, Lib.repeatL_length]
      show (((11 + (e.ρ 5).toI.toNat * 6 : Nat)) : Int) = (e.ρ 5).toI * 6 + 11
      omega
  · obtain ⟨h1, h2⟩ := and_out h
    obtain ⟨h3, h4⟩ := and_out h2
    have h1 : (e.ρ 6).toS = H0 ++ (rpL L0 (.v 5)).S e := seq_out h1
    have h3 : ¬ (e.ρ 5).toI < (e.ρ 4).toI := nlt_out h3
    have h4 : ¬ (e.ρ 4).toI < (e.ρ 5).toI := nlt_out h4
    rw [rpL_S] at h1
    have h1 : (e.ρ 6).toS = H0 ++ Lib.repeatL L0 (e.ρ 5).toI.toNat := h1
    refine seq_in ?_
    rw [kd_S]
    show (e.ρ 6).toS ++ T0 = kdF (blkH ++ ((rpL aByteL (.v 4)).S e ++ blkE))
    rw [rpL_S, kd_blk, h1]
    have : (X.v 4).I e = (e.ρ 5).toI := by show (e.ρ 4).toI = _; omega
    rw [this]
def rp4 : X := lenX' (rpL aByteL (.v 4))
def bl4 : X := .o .cat (.s blkH) (.o .cat (rpL aByteL (.v 4)) (.s blkE))
def few4 : X := .u .not (.o .lt (.i 65536) (.v 4))
def extM : List X := [.o .seq (hdX (.i 0)) (.s H0), impS few4 (.u .not (.o .lt (.i 393216) rp4)), impS few4 (.u .not (.o .lt (.i 140737488355328) (addI rp4 17))), impS few4 (.u .not (.o .lt (.i 400000) (lenX' bl4))), impS few4 (.u .not (.o .lt (.i 500000) (lenX' (kdX bl4))))]
theorem extM_ok (e : En) : ∀ x ∈ extM, x.B e = true := by
  have key : few4.B e = true → rp4.I e ≤ 393216 := fun h => by
    have h : ¬ (65536 : Int) < (e.ρ 4).toI := nlt_out h
    show ((((rpL aByteL (.v 4)).S e).length : Nat) : Int) ≤ 393216
    rw [rpL_S, Lib.repeatL_length]
    show (((e.ρ 4).toI.toNat * 6 : Nat) : Int) ≤ 393216
    omega
  refine all_cons' (seq_in ?_) (all_cons' (impS_ok fun h => nlt_in ?_) (all_cons' (impS_ok fun h => nlt_in ?_) (all_cons' (impS_ok fun h => nlt_in ?_) (all_cons' (impS_ok fun h => nlt_in ?_) all_nil'))))
  · show H0 ++ (rpL L0 (.i 0)).S e = H0
    rw [rpL_S]; rfl
  · have := key h
    show ¬ (393216 : Int) < rp4.I e
    omega
  · have := key h
    show ¬ (140737488355328 : Int) < rp4.I e + 17
    omega
  · have := key h
    have h2 : rp4.I e = ((((rpL aByteL (.v 4)).S e).length : Nat) : Int) := rfl
    show ¬ (400000 : Int) < (((blkH ++ ((rpL aByteL (.v 4)).S e ++ blkE)).length : Nat) : Int)
    rw [List.length_append, List.length_append]
    show ¬ (400000 : Int) < ((11 + (((rpL aByteL (.v 4)).S e).length + 6) : Nat) : Int)
    omega
  · have := key h
    have h2 : rp4.I e = ((((rpL aByteL (.v 4)).S e).length : Nat) : Int) := rfl
    show ¬ (500000 : Int) < ((((kdX bl4).S e).length : Nat) : Int)
    rw [kd_S]
    unfold kdF
    rw [List.length_map]
    show ¬ (500000 : Int) < (((blkH ++ ((rpL aByteL (.v 4)).S e ++ blkE)).length : Nat) : Int)
    rw [List.length_append, List.length_append]
    show ¬ (500000 : Int) < ((11 + (((rpL aByteL (.v 4)).S e).length + 6) : Nat) : Int)
    omega
/-- The list that a temporary bears, seen as bytes. -/
noncomputable def nmT (i : Nat) : Hint Tryd.prog := .x ⟨fun g fr m => match fr[i]? with
  | some (.a (.s (.z (.sl j _ _ _ _ _)))) => some ([], [], normAt g T (.by .nil) j m)
  | _ => none, by
  intro g fr m m' fs xs e hg h c g₀ gx A W hr ha
  split at h
  · cases h
    refine ⟨fun _ h => (by cases h), fun _ h => (by cases h), gx, ?_, ha⟩
    rw [normAt_den hg]
    exact hr
  · cases h⟩
noncomputable def Wmk : FuncId → Nat → List (Hint Tryd.prog) := fun n k => bif Nat.beq n 13 then (bif Nat.beq k 1 then [.t 11 (some 0) (some 1000), .l 6 5 (some 7000)] else bif Nat.beq k 1018 then [nmT 7] else []) else []
def LpM : Nat → Option LJ := Lno 5 invM (mkSub (.v 4) (.v 5))
def lmM : Nat → List X := Xone 5 lemM
/-! The law at one byte. -/
def aksM : List AL := [.z (.i .u8), .st [.b, .b, .b, .i .i64]]
def mkC (b : Nat) : X := .o .eq (.v 0) (.i (b : Nat))
noncomputable def mkRun (b : Nat) : Bool := prvF 40 LpM lmM (fun g v _ => finTrue 40 g v) (assume (gL aksM extM) (mkC b)) [] (treeOf T Wmk CM2 300 20 13 (assume (gL aksM extM) (mkC b)) (symL aksM 0 0) (memL aksM 0))
noncomputable def mkRuns (k n : Nat) : Bool := (List.range' k n).all mkRun
theorem mkRun_at {k n b : Nat} (h : mkRuns k n = true) (h1 : k ≤ b) (h2 : b < k + n) : mkRun b = true := List.all_eq_true.1 h b (by rw [List.mem_range'_1]; exact ⟨h1, h2⟩)
end Go.Proofs.YtjcpcnoakphecaaDoor
