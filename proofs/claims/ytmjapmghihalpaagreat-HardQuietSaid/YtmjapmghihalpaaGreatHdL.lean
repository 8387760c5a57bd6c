/-
  Both pages, step by step: alike all the way. Conditions: none.
-/
import Derived.Test.YtmjapmghihalpaaGreatHdK
set_option linter.unusedSectionVars false
set_option linter.unusedVariables false
set_option linter.unusedSimpArgs false
namespace Go.Proofs.YtmjapmghihalpaaGreat
open Go Go.AE Go.SX Go.RowKit
set_option maxRecDepth 1000000
variable [HF]
/-! Facts asked for later. -/
def factAs (f : Fact) : List X := (match f.r.lo with | some a => [.u .not (.o .lt f.e (.i a))] | none => []) ++ (match f.r.hi with | some b => [.u .not (.o .lt (.i b) f.e)] | none => [])
def soft (c : LC) : LC := ⟨c.n, c.args, c.mem, [], c.as ++ c.fs.flatMap factAs, c.val, c.out⟩
theorem factAs_ok {f : Fact} {e : En} (h : ∀ x ∈ factAs f, x.B e = true) : f.r.has (f.e.I e) := by
  unfold factAs at h
  refine ⟨fun a ha => ?_, fun b hb => ?_⟩
  · have := h (.u .not (.o .lt f.e (.i a))) (List.mem_append_left _ (by rw [ha]; exact List.mem_singleton.2 rfl))
    have : (!decide (f.e.I e < a)) = true := this
    rw [Bool.not_eq_true', decide_eq_false_iff_not] at this
    omega
  · have := h (.u .not (.o .lt (.i b) f.e)) (List.mem_append_right _ (by rw [hb]; exact List.mem_singleton.2 rfl))
    have : (!decide (b < f.e.I e)) = true := this
    rw [Bool.not_eq_true', decide_eq_false_iff_not] at this
    omega
theorem soft_ok {c : LC} {f : FuncId} (h : c.Ok Tryz.prog f) : (soft c).Ok Tryz.prog f := by
  refine ⟨fun ds hl hf ha => h.call ds hl (fun q hq => factAs_ok fun x hx => ha x ?_) fun x hx => ha x (List.mem_append_left _ hx)⟩
  exact List.mem_append_right _ (List.mem_flatMap.2 ⟨q, hq, hx⟩)
/-! One step, and all. -/
def nowX (x : X) : X := (compX 19 x).getD 18 .nil
def kdX (l i : X) : X := .o .emod (.o (.rI 0) l i) (.i 4)
def ofX (l i : X) : X := .u (.wrap .u16) (.o (.rI 1) l i)
def btX (l i : X) : X := .u (.wrap .u8) (.o (.rI 2) l i)
def stepX (l i x : X) : X := .t .d (.o .eq (kdX l i) (.i 0)) (.ap 20 (.o .pair x (.o .add (nsX l i) (nowX x)))) (.t .d (.o .eq (kdX l i) (.i 1)) (.ap 22 (.o .pair x (ofX l i))) (.t .d (.o .eq (kdX l i) (.i 2)) (.ap 23 (.o .pair x (.o .pair (ofX l i) (btX l i)))) (.ap 24 (.o .pair x (.o .emod (btX l i) (.i 6))))))
def cond17 : X := .o .lt (.v 0) (.u .rlen (.v 2))
def next17 : List X := [.o .add (.v 0) (.i 1), stepX (.v 2) (.v 0) (.v 1)]
def fn17 : LFn := ⟨30, [.v 1], cond17, next17⟩
open Classical in
class HOk6 : Prop where
  h28 : ∀ d, Fam.Φ 28 d = .b (decide (GoodSt d.fst d.snd.toI))
  h17 : ∀ d, Fam.Φ 30 d = fixD cond17 next17 1 d
variable [HOk1] [HOk2] [HOk3] [HOk4] [HOk5] [HOk6]
def gdX (x k : X) : X := .ap 28 (.o .pair x k)
theorem gdX_iff (e : En) (x k : X) : (gdX x k).B e = true ↔ GoodSt (x.den e) (k.I e) := by
  show (Fam.Φ 28 (.p (x.den e) (k.den e))).toB = true ↔ _
  rw [HOk6.h28]
  exact @decide_eq_true_iff _ (_)
theorem nearL_all {L : List (List A)} (h : nearL L = true) (j : Nat) : 0 ≤ nsI L j ∧ nsI L j ≤ 1000000 := by
  have h0 : 0 ≤ nsI L j := by
    have := (wrap_rg .u32 ((L.getD j []).getD 3 (.i 0)).toI).1 _ rfl
    exact this
  refine ⟨h0, ?_⟩
  by_cases hj : j < L.length
  · exact nearL_at h hj
  · have : L.getD j [] = [] := by rw [List.getD_eq_getElem?_getD, List.getElem?_eq_none (by omega)]; rfl
    unfold nsI
    rw [this]
    decide
theorem wrap_in8 (n : Int) : 0 ≤ IntKind.u8.wrap n ∧ IntKind.u8.wrap n ≤ 255 := ⟨(wrap_rg .u8 n).1 _ rfl, (wrap_rg .u8 n).2 _ rfl⟩
theorem wrap_in16 (n : Int) : 0 ≤ IntKind.u16.wrap n ∧ IntKind.u16.wrap n ≤ 65535 := ⟨(wrap_rg .u16 n).1 _ rfl, (wrap_rg .u16 n).2 _ rfl⟩
theorem step_good {e : En} {l i x : X} {k : Int} (h : GoodSt (x.den e) k) (hk : k < 1000) (hn : nearL (l.R e) = true) : GoodSt ((stepX l i x).den e) (k + 1) := by
  have h1 : ∀ (c : Bool) (a b : D), GoodSt a (k + 1) → GoodSt b (k + 1) → GoodSt (bif c then a else b) (k + 1) := fun c a b ha hb => by cases c <;> assumption
  refine h1 _ _ _ ?_ (h1 _ _ _ ?_ (h1 _ _ _ ?_ ?_))
  · show GoodSt (Fam.Φ 20 (.p (x.den e) (.i (nsI (l.R e) (i.I e).toNat + (nowX x).I e)))) (k + 1)
    rw [HOk3.h20]
    have hx : (nowX x).I e = (prt (x.den e) 18).toI := by
      show ((nowX x).den e).toI = _
      unfold nowX prt
      rw [← compX_den e 19 x, List.getD_eq_getElem?_getD, List.getD_eq_getElem?_getD, List.getElem?_map, List.getElem?_eq_getElem (by rw [compX_len]; omega)]
      rfl
    have hq := nearL_all hn (i.I e).toNat
    exact good_to (n := nsI (l.R e) (i.I e).toNat) h hk (by show _ + _ = _; rw [hx]; omega) hq.1 hq.2
  · show GoodSt (Fam.Φ 22 (.p (x.den e) (.i (IntKind.u16.wrap ((((l.R e).getD (i.I e).toNat []).getD 1 (.i 0)).toI))))) (k + 1)
    rw [HOk3.h22]
    exact good_rd h hk (wrap_in16 _).1 (wrap_in16 _).2
  · show GoodSt (Fam.Φ 23 (.p (x.den e) (.p (.i (IntKind.u16.wrap ((((l.R e).getD (i.I e).toNat []).getD 1 (.i 0)).toI))) (.i (IntKind.u8.wrap ((((l.R e).getD (i.I e).toNat []).getD 2 (.i 0)).toI)))))) (k + 1)
    rw [HOk3.h23]
    exact good_wr h hk (wrap_in16 _).1 (wrap_in16 _).2 (wrap_in8 _).1 (wrap_in8 _).2
  · show GoodSt (Fam.Φ 24 (.p (x.den e) (.i (IntKind.u8.wrap ((((l.R e).getD (i.I e).toNat []).getD 2 (.i 0)).toI) % 6)))) (k + 1)
    rw [HOk3.h24]
    refine good_en h hk ?_ ?_
    · show 0 ≤ IntKind.u8.wrap _ % 6
      omega
    · show IntKind.u8.wrap _ % 6 ≤ 255
      omega
theorem good_le {x : D} {k k' : Int} (h : GoodSt x k) (h1 : k ≤ k') (h2 : k' ≤ 1000) : GoodSt x k' :=
  ⟨h.1, by have := h.2.k0; omega, h2, by have := h.2.now; omega, by have := h.2.f0; omega, by have := h.2.f1; omega, by have := h.2.f2; omega⟩
/-! What is used in the loop. -/
def kX (K : Nat) (d : Int) : X := bif Nat.beq K 0 then (bif decide (d = 0) then .v 2 else .o .add (.v 2) (.i d)) else .o .add (.v 2) (.i (K + d))
theorem kX_I (e : En) (K : Nat) (d : Int) : (kX K d).I e = (e.ρ 2).toI + K + d := by
  unfold kX
  cases hk : Nat.beq K 0 with
  | true =>
    have := Nat.eq_of_beq_eq_true hk
    subst this
    by_cases hd : d = 0
    · subst hd; show (e.ρ 2).toI = _; simp
    · rw [decide_eq_false hd]; show (e.ρ 2).toI + d = _; simp
  | false => show (e.ρ 2).toI + (K + d) = _; omega
def boundX (K : Nat) (i : Nat) : X := .u .not (.o .and (gdX (.v 3) (kX K 0)) (.o .lt (.i 1000001000) (pc 3 i)))
def lowX (K : Nat) : X := .u .not (.o .and (gdX (.v 3) (kX K 0)) (.o .lt (pc 3 18) (.i 0)))
def nextX (K : Nat) : X := .u .not (.o .and (.o .and (gdX (.v 3) (kX K 0)) (.o .and (.ap 4 (.v 1)) (.o .lt (kX K 0) (.i 1000)))) (.u .not (gdX (stepX (.v 1) (.v 2) (.v 3)) (kX K 1))))
def lem17 (K : Nat) : List X := [boundX K 18, boundX K 10, boundX K 12, boundX K 14, lowX K, nextX K]
theorem not_and {a b : Bool} (h : a = true → b = false) : (!(a && b)) = true := by cases a <;> simp_all
theorem bound_ok (K i : Nat) (hi : i = 18 ∨ i = 10 ∨ i = 12 ∨ i = 14) (e : En) : (boundX K i).B e = true := by
  refine not_and fun h => ?_
  have h : GoodSt (e.ρ 3) ((kX K 0).I e) := (gdX_iff e (.v 3) (kX K 0)).1 h
  refine decide_eq_false ?_
  show ¬ (1000001000 : Int) < ((pc 3 i).den e).toI
  rw [pc_den e 3 i (by omega)]
  have h1 := h.2.k1
  rcases hi with rfl | rfl | rfl | rfl
  · have := h.2.now; omega
  · have := h.2.f0; omega
  · have := h.2.f1; omega
  · have := h.2.f2; omega
theorem low_ok (K : Nat) (e : En) : (lowX K).B e = true := by
  refine not_and fun h => ?_
  have h : GoodSt (e.ρ 3) ((kX K 0).I e) := (gdX_iff e (.v 3) (kX K 0)).1 h
  refine decide_eq_false ?_
  show ¬ ((pc 3 18).den e).toI < (0 : Int)
  rw [pc_den e 3 18 (by omega)]
  have := (inv_pt h.1).2
  have : 0 ≤ (prt (e.ρ 3) 18).toI := this
  omega
theorem next_ok (K : Nat) (e : En) : (nextX K).B e = true := by
  refine not_and fun h => ?_
  have h : ((gdX (.v 3) (kX K 0)).B e && ((Fam.Φ 4 (e.ρ 1)).toB && decide ((kX K 0).I e < 1000))) = true := h
  rw [Bool.and_eq_true, Bool.and_eq_true] at h
  obtain ⟨h1, h2, h3⟩ := h
  have h1 : GoodSt (e.ρ 3) ((kX K 0).I e) := (gdX_iff e (.v 3) (kX K 0)).1 h1
  rw [HOk5.h4] at h2
  have h3 := of_decide_eq_true h3
  have h4 := step_good (e := e) (l := .v 1) (i := .v 2) (x := .v 3) h1 h3 h2
  have h5 : (gdX (stepX (.v 1) (.v 2) (.v 3)) (kX K 1)).B e = true := (gdX_iff e _ _).2 (by rw [kX_I]; rw [kX_I] at h4; simpa [Int.add_assoc] using h4)
  show (!(gdX (stepX (.v 1) (.v 2) (.v 3)) (kX K 1)).B e) = false
  rw [h5]; rfl
theorem lem17_ok (K : Nat) : ∀ x ∈ lem17 K, ∀ e : En, x.B e = true :=
  all_cons' (bound_ok K 18 (by simp)) (all_cons' (bound_ok K 10 (by simp)) (all_cons' (bound_ok K 12 (by simp)) (all_cons' (bound_ok K 14 (by simp)) (all_cons' (low_ok K) (all_cons' (next_ok K) all_nil')))))
def inv17 (K : Nat) : X := gdX (.v 3) (kX K 0)
def L17 (K : Nat) : Nat → Option LJ := Lone 2 ⟨inv17 K, .o .add (.i 60) (.o .mul (.v 2) (.i (-1))), some fn17⟩
def cons4 : List (FuncId × List LC) := [(21, [soft (toW 1)]), (69, [soft (toW 2)]), (25, [soft (rdW 1)]), (70, [soft (rdW 2)]), (24, [soft (wrW 1)]), (71, [soft (wrW 2)]), (58, [soft (enW 1)]), (72, [soft (enW 2)]), (22, [soft (chW 1)]), (53, [soft (chW 2)]), (18, [soft (stW 1)]), (19, [soft (stW 2)]), (20, [soft nowW])]
theorem one_ok {c : LC} {f : FuncId} (h1 : (soft c).ok = true) (h : c.Ok Tryz.prog f) : ∀ c' ∈ [soft c], c'.ok = true ∧ c'.Ok Tryz.prog f := all_cons' ⟨h1, soft_ok h⟩ all_nil'
theorem cons4_ok : ∀ p ∈ cons4, ∀ c ∈ p.2, c.ok = true ∧ c.Ok Tryz.prog p.1 :=
  all_cons' (one_ok rfl toWA) (all_cons' (one_ok rfl toWB) (all_cons' (one_ok rfl readA) (all_cons' (one_ok rfl readB) (all_cons' (one_ok rfl writeA) (all_cons' (one_ok rfl writeB) (all_cons' (one_ok rfl enWA) (all_cons' (one_ok rfl enWB) (all_cons' (one_ok rfl chWA) (all_cons' (one_ok rfl chWB) (all_cons' (one_ok rfl stWA) (all_cons' (one_ok rfl stWB) (all_cons' (one_ok rfl nowWA) all_nil'))))))))))))
noncomputable def CPl : FuncId → Option CallF := conLC 8 TI cons4
theorem CPl_ok : ∀ n c, CPl n = some c → ConOk TI n c := conLC_ok cons4_ok
def Wpl : FuncId → Nat → List Hint := fun n _ => bif Nat.beq n 15 then [.t 7 (some 0) (some 60), .o [0, 1]] else []
def aPl : List SV := [.z (.p 0 (.i 0) 0 0), .z (.p 1 (.i 0) 0 0), .z (.sl 2 (.i 0) 0 0 (.u .rlen (.v 1)) (.u .rlen (.v 1)))]
def mPl (x : X) : SMem := [some (obS 1 x), some (obS 2 x), some ⟨.rw kS (.v 1), 0, false, false⟩]
/-- What a page is behind all steps. -/
def plX (x l : X) : X := .u .snd (.ap 30 (packX [.i 0, x, l]))
def lcPlay (K : Nat) : LC := ⟨2, aPl, mPl (.v 0), [⟨.u .rlen (.v 1), ⟨some 0, some 60⟩⟩], [.ap 4 (.v 1), gdX (.v 0) (.i K)], .z (.b (.b true)), mPl (plX (.v 0) (.v 1))⟩
theorem play0 : (lcPlay 0).Ok Tryz.prog 15 :=
  LC.Ok.of_treeF (L := L17 0) (lem := Xone 2 (lem17 0)) (W := Wpl) (n := 12) (cf := 300) (d := 20) (opn := []) (cls := []) (Lone_ok (lj_ok rfl rfl rfl HOk6.h17)) (Xone_ok (lem17_ok 0)) CPl_ok tms_ok rfl rfl (by kernel_rfl)
end Go.Proofs.YtmjapmghihalpaaGreat
