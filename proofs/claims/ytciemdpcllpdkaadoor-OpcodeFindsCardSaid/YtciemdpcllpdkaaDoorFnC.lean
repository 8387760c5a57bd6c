/-
  Find and Modes by contracts. Conditions: none.
-/
import Derived.Test.YtciemdpcllpdkaaDoorFnA
set_option linter.unusedSectionVars false
set_option linter.unusedVariables false
set_option linter.unusedSimpArgs false
namespace Go.Proofs.YtciemdpcllpdkaaDoor
open Go Go.AE Go.SX Go.RowKit Go.Sort
set_option maxRecDepth 1000000
/-! Conditions. -/
def impS (a b : X) : X := .u .not (.o .and a (.u .not b))
theorem impS_ok {a b : X} {e : En} (h : a.B e = true → b.B e = true) : (impS a b).B e = true := by
  show (!(a.B e && !b.B e)) = true
  cases ha : a.B e with
  | false => rfl
  | true => rw [h ha]; rfl
theorem and_B {a b : X} {e : En} (h1 : a.B e = true) (h2 : b.B e = true) : (X.o .and a b).B e = true := by
  show (a.B e && b.B e) = true
  rw [h1, h2]; rfl
theorem and_out {a b : X} {e : En} (h : (X.o .and a b).B e = true) : a.B e = true ∧ b.B e = true := by
  have h : (a.B e && b.B e) = true := h
  rwa [Bool.and_eq_true] at h
theorem not_out {a : X} {e : En} (h : (X.u .not a).B e = true) : a.B e = false := by
  have h : (!a.B e) = true := h
  cases ha : a.B e with
  | false => rfl
  | true => rw [ha] at h; cases h
theorem lt_out {a b : X} {e : En} (h : (X.o .lt a b).B e = true) : a.I e < b.I e := of_decide_eq_true h
theorem nlt_out {a b : X} {e : En} (h : (X.u .not (.o .lt a b)).B e = true) : ¬ a.I e < b.I e := of_decide_eq_false (not_out h)
theorem nlt_in {a b : X} {e : En} (h : ¬ a.I e < b.I e) : (X.u .not (.o .lt a b)).B e = true := by
  show (!decide (a.I e < b.I e)) = true
  rw [decide_eq_false h]; rfl
theorem seq_in {a b : X} {e : En} (h : a.S e = b.S e) : (X.o .seq a b).B e = true := by
  show (a.S e == b.S e) = true
  rw [h]; exact beq_self_eq_true _
theorem eq_in {a b : X} {e : En} (h : a.I e = b.I e) : (X.o .eq a b).B e = true := decide_eq_true h
def eq2 (a b : X) : X := .o .and (.o .eq a b) (.o .eq b a)
theorem eq2_in {a b : X} {e : En} (h : a.I e = b.I e) : (eq2 a b).B e = true := and_B (eq_in h) (eq_in h.symm)
def lenX' (x : X) : X := .u .len x
def seq2 (a b : X) : X := .o .and (.o .and (.o .seq a b) (.o .seq b a)) (.o .and (.o .eq (.u .len a) (.u .len b)) (.o .eq (.u .len b) (.u .len a)))
theorem seq2_in {a b : X} {e : En} (h : a.S e = b.S e) : (seq2 a b).B e = true := by
  have h1 : (X.u .len a).I e = (X.u .len b).I e := by show ((((a.S e).length : Nat) : Int)) = (((b.S e).length : Nat) : Int); rw [h]
  exact and_B (and_B (seq_in h) (seq_in h.symm)) (and_B (eq_in h1) (eq_in h1.symm))
def AllB (l : List X) : Prop := ∀ x ∈ l, ∀ e : En, x.B e = true
theorem allB0 : AllB [] := fun _ h => by cases h
theorem allB1 {x : X} {l : List X} (h : ∀ e : En, x.B e = true) (hl : AllB l) : AllB (x :: l) := fun y hy => by
  rcases List.mem_cons.1 hy with rfl | hy
  · exact h
  · exact hl y hy
def loop1 (b : Nat) (inv ms : X) : Nat → Option LJ := fun n => bif Nat.beq n b then some ⟨inv, ms, none⟩ else none
theorem loop1_ok {b : Nat} {inv ms : X} : ∀ n li g, loop1 b inv ms n = some li → li.fn = some g → IsLoop g := fun n li g hl hg => by
  unfold loop1 at hl
  cases h : Nat.beq n b with
  | true => rw [h] at hl; cases hl; cases hg
  | false => rw [h] at hl; cases hl
def lem1 (b : Nat) (l : List X) : Nat → List X := fun n => bif Nat.beq n b then l else []
theorem lem1_ok {b : Nat} {l : List X} (h : AllB l) : ∀ n, ∀ x ∈ lem1 b l n, ∀ e : En, x.B e = true := fun n x hx => by
  unfold lem1 at hx
  cases hb : Nat.beq n b with
  | false => rw [hb] at hx; cases hx
  | true => rw [hb] at hx; exact h x hx
def u8F (x : X) : Fact := ⟨x, ⟨some 0, some 255⟩⟩
/-! Find. -/
def fdPX (nm mo i : X) : X := .ap 68 (.o .pair nm (.o .pair mo i))
theorem fdP_iff (e : En) (nm mo i : X) : (fdPX nm mo i).B e = true ↔ FdP (nm.S e) (mo.I e) (i.I e) := @decide_eq_true_iff _ (_)
def fnX (nm mo : X) : X := .ap 64 (.o .pair nm mo)
def bkX' (i : X) : X := .ap 63 i
def nmAt (i : X) : X := nmX (bkX' i)
def moAt (i : X) : X := mdX (bkX' i)
def hitX (i nm mo : X) : X := .o .and (.o .seq (nmAt i) nm) (.o .eq (moAt i) mo)
theorem nmAt_S (e : En) (i : X) : (nmAt i).S e = (opR (bkN (i.I e).toNat)).name := by
  show (opD (.i ((bkN (i.I e).toNat : Nat) : Int))).fst.toS = _
  show (opR ((((bkN (i.I e).toNat : Nat) : Int)).toNat)).name = _
  rw [Int.toNat_natCast]
theorem moAt_I (e : En) (i : X) : (moAt i).I e = (((opR (bkN (i.I e).toNat)).mode : Nat) : Int) := by
  show (((opR ((((bkN (i.I e).toNat : Nat) : Int)).toNat)).mode : Nat) : Int) = _
  rw [Int.toNat_natCast]
theorem hitX_B (e : En) (i nm mo : X) : (hitX i nm mo).B e = hitM (nm.S e) (mo.I e) (bkN (i.I e).toNat) := by
  show (((nmAt i).S e == nm.S e) && decide ((moAt i).I e = mo.I e)) = _
  rw [nmAt_S, moAt_I]; rfl
theorem fn_fst (e : En) (nm mo : X) : (X.u .fst (fnX nm mo)).I e = (match fnB (nm.S e) (mo.I e) with | some b => ((b : Nat) : Int) | none => 0) := by
  show (D.fst (match fnB (nm.S e) (mo.I e) with | some b => D.p (.i ((b : Nat) : Int)) (.b true) | none => .p (.i 0) (.b false))).toI = _
  cases fnB (nm.S e) (mo.I e) <;> rfl
theorem fn_snd (e : En) (nm mo : X) : (X.u .snd (fnX nm mo)).B e = (fnB (nm.S e) (mo.I e)).isSome := by
  show (D.snd (match fnB (nm.S e) (mo.I e) with | some b => D.p (.i ((b : Nat) : Int)) (.b true) | none => .p (.i 0) (.b false))).toB = _
  cases fnB (nm.S e) (mo.I e) <;> rfl
def fdI : X := fdPX (.v 0) (.v 1) (.v 2)
def fdLt : X := .o .lt (.v 2) (.i 234)
def fdH : X := hitX (.v 2) (.v 0) (.v 1)
def fdF : X := .u .fst (fnX (.v 0) (.v 1))
def fdS : X := .u .snd (fnX (.v 0) (.v 1))
def lemFd : List X := [impS (.o .and (.o .and fdI fdLt) (.u .not fdH)) (fdPX (.v 0) (.v 1) (.o .add (.v 2) (.i 1))), impS (.o .and (.o .and fdI fdLt) fdH) (.o .and (eq2 (bkX' (.v 2)) fdF) fdS), impS (.o .and fdI (.u .not fdLt)) (.o .and (eq2 (.i 0) fdF) (.u .not fdS))]
theorem lemFd_ok : AllB lemFd := by
  refine allB1 (fun e => impS_ok fun h => ?_) (allB1 (fun e => impS_ok fun h => ?_) (allB1 (fun e => impS_ok fun h => ?_) allB0))
  · obtain ⟨h1, h2⟩ := and_out h
    obtain ⟨h3, h4⟩ := and_out h1
    have h2 := not_out h2
    rw [show fdH = hitX (.v 2) (.v 0) (.v 1) from rfl, hitX_B] at h2
    exact (fdP_iff e _ _ _).2 (fd_next ((fdP_iff e _ _ _).1 h3) (lt_out h4) h2)
  · obtain ⟨h1, h2⟩ := and_out h
    obtain ⟨h3, h4⟩ := and_out h1
    rw [show fdH = hitX (.v 2) (.v 0) (.v 1) from rfl, hitX_B] at h2
    have key := fd_hit ((fdP_iff e _ _ _).1 h3) (lt_out h4) h2
    refine and_B (eq2_in ?_) ?_
    · rw [show fdF = .u .fst (fnX (.v 0) (.v 1)) from rfl, fn_fst, key]; rfl
    · rw [show fdS = .u .snd (fnX (.v 0) (.v 1)) from rfl, fn_snd, key]; rfl
  · obtain ⟨h3, h4⟩ := and_out h
    have key := fd_end ((fdP_iff e _ _ _).1 h3) (nlt_out h4)
    refine and_B (eq2_in ?_) ?_
    · rw [show fdF = .u .fst (fnX (.v 0) (.v 1)) from rfl, fn_fst, key]; rfl
    · show (!((X.u .snd (fnX (.v 0) (.v 1))).B e)) = true
      rw [fn_snd, key]; rfl
def fd0 : X := fdPX (.v 0) (.v 1) (.i 0)
theorem fd0_ok (e : En) : fd0.B e = true := (fdP_iff e _ _ _).2 ⟨Int.le_refl _, by show (0 : Int) ≤ 234; omega, fun k hk => by have : (k : Int) < 0 := hk; omega⟩
def lcFi : LC := ⟨2, [.z (.s (.v 0)), .z (.i .u8 (.v 1))], [], [u8F (.v 1)], [], .tu [.s (.z (.i .u8 fdF)), .s (.z (.b fdS))], []⟩
noncomputable def WF : FuncId → Nat → List (Hint Tryd.prog) := fun n k => bif Nat.beq n 12 && Nat.beq k 2000 then [.r allX, .r allX] else bif Nat.beq n 15 && Nat.beq k 2000 then [.r allX, .cl 3 0 5 (some 300)] else []
theorem fi0 : (LC.mk lcFi.n lcFi.args lcFi.mem lcFi.fs ([fd0] ++ lcFi.as) lcFi.val lcFi.out).Ok Tryd.prog 12 := LC.Ok.of_treeF (L := loop1 2 fdI (mkSub (.i 234) (.v 2))) (lem := lem1 2 lemFd) (T := TO) (W := WF) (n := 12) (cf := 300) (d := 20) (opn := []) (cls := []) loop1_ok (lem1_ok lemFd_ok) CO0_ok noT_ok rfl rfl (by kernel_rfl)
theorem fi_lc : lcFi.Ok Tryd.prog 12 := LC.Ok.drop fi0 (allB1 fd0_ok allB0)
/-! Sort and Compact, at the lists of modes that there are. -/
def csB (l : List UInt8) : Option SBlk := some ⟨.cs (l.map fun b => .z (.i .u8 (.i (b.toNat : Nat)))), 5, true, false⟩
def byS (x : X) : Option SBlk := some ⟨.by x, 5, true, false⟩
def slV (n : X) : SV := .z (.sl 0 (.i 0) 0 0 n n)
def nI (l : List UInt8) : X := .i (l.length : Nat)
def lcSj (l : List UInt8) : LC := ⟨0, [slV (nI l)], [csB l], [], [], .tu [], [csB (srtF l)]⟩
def lcCj (l : List UInt8) : LC := ⟨0, [slV (nI l)], [csB (srtF l)], [], [], slV (nI l), [csB (srtF l)]⟩
noncomputable def sjB (l : List UInt8) : Bool := (lcSj l).ok && treeF 12 noJ noX TO W0 CO0 300 20 noT 50 (lcSj l) [] []
noncomputable def cjB (l : List UInt8) : Bool := (lcCj l).ok && treeF 12 noJ noX TO W0 CO0 300 20 noT 51 (lcCj l) [] []
theorem sj_all : rawLs.all sjB = true := by kernel_rfl
theorem cj_all : rawLs.all cjB = true := by kernel_rfl
theorem sj_ok {l : List UInt8} (h : l ∈ rawLs) : (lcSj l).Ok Tryd.prog 50 := by
  have := List.all_eq_true.1 sj_all l h
  unfold sjB at this
  rw [Bool.and_eq_true] at this
  exact LC.Ok.of_treeF (fun _ _ _ h => by cases h) (fun _ _ h => by cases h) CO0_ok noT_ok rfl this.1 this.2
theorem cj_ok {l : List UInt8} (h : l ∈ rawLs) : (lcCj l).Ok Tryd.prog 51 := by
  have := List.all_eq_true.1 cj_all l h
  unfold cjB at this
  rw [Bool.and_eq_true] at this
  exact LC.Ok.of_treeF (fun _ _ _ h => by cases h) (fun _ _ h => by cases h) CO0_ok noT_ok rfl this.1 this.2
theorem csB_den (e e' : En) (l : List UInt8) (x : X) (h : x.S e = l) : denM e' [csB l] = denM e [byS x] := by
  subst h
  show [some (ABlk.mk ((((x.S e).map fun b => SS.z (.i .u8 (.i (b.toNat : Nat))))).map (SS.den e')) _ _ _ none)] = [some (ABlk.mk ((SC.by x).den e) _ _ _ none)]
  rw [List.map_map]; rfl
def isR : X := .o .eq (.ap 67 (.v 0)) (.i 1)
theorem isR_iff (e : En) : isR.B e = true ↔ (e.ρ 0).toS ∈ rawLs := by
  show decide ((if (e.ρ 0).toS ∈ rawLs then (1 : Int) else 0) = 1) = true ↔ _
  rw [decide_eq_true_iff]
  constructor
  · intro h
    by_cases hq : (e.ρ 0).toS ∈ rawLs
    · exact hq
    · rw [if_neg hq] at h; omega
  · intro h; rw [if_pos h]
def sX (x : X) : X := .ap 66 x
def lcSo : LC := ⟨1, [slV (lenX' (.v 0))], [byS (.v 0)], [], [isR], .tu [], [byS (sX (.v 0))]⟩
theorem so_lc : lcSo.Ok Tryd.prog 50 := by
  refine ⟨fun ds hl hf ha => ?_⟩
  have hm := (isR_iff _).1 (ha _ (.head _))
  have := (sj_ok hm).call [] rfl (fun _ h => by cases h) (fun _ h => by cases h)
  have e1 := csB_den (envOf ds) (envOf []) _ (.v 0) rfl
  have e2 := csB_den (envOf ds) (envOf []) _ (sX (.v 0)) rfl
  have q1 : denM (envOf []) (lcSj ((envOf ds).ρ 0).toS).mem = denM (envOf ds) lcSo.mem := e1
  have q2 : denM (envOf []) (lcSj ((envOf ds).ρ 0).toS).out = denM (envOf ds) lcSo.out := e2
  rw [q1, q2] at this
  exact this
/-! Compact, at a list in order. -/
def isS : X := .o .eq (.ap 73 (.v 0)) (.i 1)
theorem isS_iff (e : En) : isS.B e = true ↔ (e.ρ 0).toS ∈ rawLs.map srtF := by
  show decide ((if (e.ρ 0).toS ∈ rawLs.map srtF then (1 : Int) else 0) = 1) = true ↔ _
  rw [decide_eq_true_iff]
  constructor
  · intro h
    by_cases hq : (e.ρ 0).toS ∈ rawLs.map srtF
    · exact hq
    · rw [if_neg hq] at h; omega
  · intro h; rw [if_pos h]
def lcCo : LC := ⟨2, [slV (.v 1)], [byS (.v 0)], [], [isS, .o .eq (.v 1) (lenX' (.v 0))], slV (.v 1), [byS (.v 0)]⟩
theorem co_lc : lcCo.Ok Tryd.prog 51 := by
  refine ⟨fun ds hl hf ha => ?_⟩
  obtain ⟨l, hm, hs⟩ := List.mem_map.1 ((isS_iff _).1 (ha _ (.head _)))
  have h1 : ((envOf ds).ρ 1).toI = ((((envOf ds).ρ 0).toS.length : Nat) : Int) := of_decide_eq_true (ha _ (.tail _ (.head _)))
  have := (cj_ok hm).call [] rfl (fun _ h => by cases h) (fun _ h => by cases h)
  have e2 := csB_den (envOf ds) (envOf []) (srtF l) (.v 0) hs.symm
  have q1 : denM (envOf []) (lcCj l).mem = denM (envOf ds) lcCo.mem := e2
  have q2 : denM (envOf []) (lcCj l).out = denM (envOf ds) lcCo.out := e2
  have hn : ((l.length : Nat) : Int) = ((envOf ds).ρ 1).toI := by
    rw [h1, ← hs]
    have := List.all_eq_true.1 srt_len _ hm
    rw [Bool.and_eq_true] at this
    rw [Nat.eq_of_beq_eq_true this.1]
  have q3 : (lcCj l).args.map (SV.den (envOf [])) = lcCo.args.map (SV.den (envOf ds)) := by
    show [Value.slice (some ⟨0, 0, none⟩) ((l.length : Nat) : Int).toNat ((l.length : Nat) : Int).toNat] = [Value.slice (some ⟨0, 0, none⟩) ((envOf ds).ρ 1).toI.toNat ((envOf ds).ρ 1).toI.toNat]
    rw [hn]
  have q4 : (lcCj l).val.den (envOf []) = lcCo.val.den (envOf ds) := by
    show Value.slice (some ⟨0, 0, none⟩) ((l.length : Nat) : Int).toNat ((l.length : Nat) : Int).toNat = Value.slice (some ⟨0, 0, none⟩) ((envOf ds).ρ 1).toI.toNat ((envOf ds).ρ 1).toI.toNat
    rw [hn]
  rw [q1, q2, q3, q4] at this
  exact this
/-! Modes. -/
noncomputable def CM := conTab (lcTabO [(50, [lcSo]), (51, [lcCo])] ++ CLo)
theorem CM_ok : ∀ n c, CM n = some c → ConOk TO n c := conTab_ok fun p hp => (List.mem_append.1 hp).elim (lcTabO_all (all_cons' (one_lcO rfl so_lc) (all_cons' (one_lcO rfl co_lc) all_nil')) p) (CLo_all p)
def moPX (nm i out : X) : X := .ap 69 (.o .pair nm (.o .pair i out))
theorem moP_iff (e : En) (nm i out : X) : (moPX nm i out).B e = true ↔ MoP (nm.S e) (i.I e) (out.S e) := @decide_eq_true_iff _ (_)
def rawX (x : X) : X := .ap 65 x
def lcMo : LC := ⟨1, [.z (.s (.v 0))], [], [], [], slV (lenX' (rawX (.v 0))), [byS (sX (rawX (.v 0)))]⟩
def moI : X := moPX (.v 0) (.v 1) (.v 2)
def moLt : X := .o .lt (.v 1) (.i 234)
def moH : X := .o .seq (nmAt (.v 1)) (.v 0)
def moO : X := .o .cat (.v 2) (.u .unit (moAt (.v 1)))
theorem moO_S (e : En) : moO.S e = (e.ρ 2).toS ++ [moB (bkN (e.ρ 1).toI.toNat)] := by
  show (e.ρ 2).toS ++ [UInt8.ofNat ((moAt (.v 1)).I e).toNat] = _
  rw [moAt_I, Int.toNat_natCast]; rfl
def nx1 : X := .o .add (.v 1) (.i 1)
def lemMo : List X := [impS (.o .and (.o .and moI moLt) moH) (moPX (.v 0) nx1 moO), impS (.o .and (.o .and moI moLt) (.u .not moH)) (moPX (.v 0) nx1 (.v 2)), impS moI (.u .not (.o .lt (.v 1) (lenX' (.v 2)))),
  impS (.o .and moI (.u .not moLt)) (.o .and (.o .and (.o .eq (.ap 67 (.v 2)) (.i 1)) (.o .eq (.ap 73 (sX (.v 2))) (.i 1))) (.o .and (eq2 (lenX' (.v 2)) (lenX' (sX (.v 2)))) (.o .and (seq2 (.v 2) (rawX (.v 0))) (seq2 (sX (.v 2)) (sX (rawX (.v 0)))))))]
theorem lemMo_ok : AllB lemMo := by
  refine allB1 (fun e => impS_ok fun h => ?_) (allB1 (fun e => impS_ok fun h => ?_) (allB1 (fun e => impS_ok fun h => ?_) (allB1 (fun e => impS_ok fun h => ?_) allB0)))
  · obtain ⟨h1, h2⟩ := and_out h
    obtain ⟨h3, h4⟩ := and_out h1
    have h2 : ((nmAt (.v 1)).S e == (X.v 0).S e) = true := h2
    rw [nmAt_S] at h2
    have key := mo_next ((moP_iff e _ _ _).1 h3) (lt_out h4)
    rw [if_pos h2] at key
    refine (moP_iff e _ _ _).2 ?_
    rw [moO_S]; exact key
  · obtain ⟨h1, h2⟩ := and_out h
    obtain ⟨h3, h4⟩ := and_out h1
    have h2 : ((nmAt (.v 1)).S e == (X.v 0).S e) = false := not_out h2
    rw [nmAt_S] at h2
    have key := mo_next ((moP_iff e _ _ _).1 h3) (lt_out h4)
    rw [if_neg (fun q => by rw [h2] at q; cases q), List.append_nil] at key
    exact (moP_iff e _ _ _).2 key
  · obtain ⟨q0, q1, q2⟩ := (moP_iff e _ _ _).1 h
    have q2 : (e.ρ 2).toS = rawK (e.ρ 0).toS (e.ρ 1).toI.toNat := q2
    have q0 : 0 ≤ (e.ρ 1).toI := q0
    refine nlt_in ?_
    show ¬ (e.ρ 1).toI < (((e.ρ 2).toS.length : Nat) : Int)
    rw [q2]
    have := raw_len (e.ρ 0).toS (e.ρ 1).toI.toNat
    omega
  · obtain ⟨h3, h4⟩ := and_out h
    have key : (e.ρ 2).toS = rawF (e.ρ 0).toS := mo_end ((moP_iff e _ _ _).1 h3) (nlt_out h4)
    have hin : (e.ρ 2).toS ∈ rawLs := by rw [key]; exact raw_in _
    have hs : (sX (.v 2)).S e = (sX (rawX (.v 0))).S e := by
      show srtF (e.ρ 2).toS = srtF (rawF (e.ρ 0).toS)
      rw [key]
    refine and_B (and_B (eq_in ?_) (eq_in ?_)) (and_B (eq2_in ?_) (and_B (seq2_in key) (seq2_in hs)))
    · show (if (e.ρ 2).toS ∈ rawLs then (1 : Int) else 0) = 1
      exact if_pos hin
    · show (if srtF (e.ρ 2).toS ∈ rawLs.map srtF then (1 : Int) else 0) = 1
      exact if_pos (List.mem_map.2 ⟨_, hin, rfl⟩)
    · show (((e.ρ 2).toS.length : Nat) : Int) = (((srtF (e.ρ 2).toS).length : Nat) : Int)
      rw [key, (raw_srt (e.ρ 0).toS).1]
def mo0 : X := moPX (.v 0) (.i 0) (.s [])
theorem mo0_ok (e : En) : mo0.B e = true := (moP_iff e _ _ _).2 ⟨Int.le_refl _, by show (0 : Int) ≤ 234; omega, rfl⟩
theorem mo00 : (LC.mk lcMo.n lcMo.args lcMo.mem lcMo.fs ([mo0] ++ lcMo.as) lcMo.val lcMo.out).Ok Tryd.prog 15 := LC.Ok.of_treeF (L := loop1 1 moI (mkSub (.i 234) (.v 1))) (lem := lem1 1 lemMo) (T := TO) (W := WF) (n := 12) (cf := 300) (d := 20) (opn := []) (cls := []) loop1_ok (lem1_ok lemMo_ok) CM_ok noT_ok rfl rfl (by kernel_rfl)
theorem mo_lc : lcMo.Ok Tryd.prog 15 := LC.Ok.drop mo00 (allB1 mo0_ok allB0)
end Go.Proofs.YtciemdpcllpdkaaDoor
