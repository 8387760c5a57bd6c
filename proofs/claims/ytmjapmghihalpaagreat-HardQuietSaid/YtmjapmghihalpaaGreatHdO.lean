/-
  The cases of the laws about plays; a play behind a play. Conditions: none.
-/
import Derived.Test.YtmjapmghihalpaaGreatHdW
import Derived.Test.YtmjapmghihalpaaGreatHdN
set_option linter.unusedSectionVars false
set_option linter.unusedVariables false
set_option linter.unusedSimpArgs false
namespace Go.Proofs.YtmjapmghihalpaaGreat
open Go Go.AE Go.SX Go.RowKit
set_option maxRecDepth 1000000
/-! A play that begins sixty steps later. -/
def g3 (x k : X) : X := .ap 31 (.o .pair x k)
theorem g3_iff (e : En) (x k : X) : (g3 x k).B e = true ↔ GoodSt (x.den e) (k.I e + 60) := by
  show (Fam.Φ 31 (.p (x.den e) (k.den e))).toB = true ↔ _
  rw [h31]
  exact @decide_eq_true_iff _ (_)
def bound3 (i : Nat) : X := .u .not (.o .and (g3 (.v 3) (.v 2)) (.o .lt (.i 1000001000) (pc 3 i)))
def low3 : X := .u .not (.o .and (g3 (.v 3) (.v 2)) (.o .lt (pc 3 18) (.i 0)))
def next3 : X := .u .not (.o .and (.o .and (g3 (.v 3) (.v 2)) (.o .and (.ap 4 (.v 1)) (.o .lt (.v 2) (.i 900)))) (.u .not (g3 (stepX (.v 1) (.v 2) (.v 3)) (.o .add (.v 2) (.i 1)))))
def lem3 : List X := [bound3 18, bound3 10, bound3 12, bound3 14, low3, next3]
theorem bound3_ok (i : Nat) (hi : i = 18 ∨ i = 10 ∨ i = 12 ∨ i = 14) (e : En) : (bound3 i).B e = true := by
  refine not_and fun h => ?_
  have h : GoodSt (e.ρ 3) ((e.ρ 2).toI + 60) := (g3_iff e (.v 3) (.v 2)).1 h
  refine decide_eq_false ?_
  show ¬ (1000001000 : Int) < ((pc 3 i).den e).toI
  rw [pc_den e 3 i (by omega)]
  have h1 := h.2.k1
  rcases hi with rfl | rfl | rfl | rfl
  · have := h.2.now; omega
  · have := h.2.f0; omega
  · have := h.2.f1; omega
  · have := h.2.f2; omega
theorem low3_ok (e : En) : low3.B e = true := by
  refine not_and fun h => ?_
  have h : GoodSt (e.ρ 3) ((e.ρ 2).toI + 60) := (g3_iff e (.v 3) (.v 2)).1 h
  refine decide_eq_false ?_
  show ¬ ((pc 3 18).den e).toI < (0 : Int)
  rw [pc_den e 3 18 (by omega)]
  have : 0 ≤ (prt (e.ρ 3) 18).toI := (inv_pt h.1).2
  omega
theorem next3_ok (e : En) : next3.B e = true := by
  refine not_and fun h => ?_
  have h : ((g3 (.v 3) (.v 2)).B e && ((Fam.Φ 4 (e.ρ 1)).toB && decide ((e.ρ 2).toI < 900))) = true := h
  rw [Bool.and_eq_true, Bool.and_eq_true] at h
  obtain ⟨h1, h2, h3⟩ := h
  have h1 : GoodSt (e.ρ 3) ((e.ρ 2).toI + 60) := (g3_iff e (.v 3) (.v 2)).1 h1
  rw [HOk5.h4] at h2
  have h3 := of_decide_eq_true h3
  have h4 := step_good (e := e) (l := .v 1) (i := .v 2) (x := .v 3) h1 (by omega) h2
  have h5 : (g3 (stepX (.v 1) (.v 2) (.v 3)) (.o .add (.v 2) (.i 1))).B e = true := (g3_iff e _ _).2 (by
    show GoodSt _ ((e.ρ 2).toI + 1 + 60)
    have e1 : (e.ρ 2).toI + 1 + 60 = (e.ρ 2).toI + 60 + 1 := by omega
    rw [e1]; exact h4)
  show (!(g3 (stepX (.v 1) (.v 2) (.v 3)) (.o .add (.v 2) (.i 1))).B e) = false
  rw [h5]; rfl
theorem lem3_ok : ∀ x ∈ lem3, ∀ e : En, x.B e = true :=
  all_cons' (bound3_ok 18 (by simp)) (all_cons' (bound3_ok 10 (by simp)) (all_cons' (bound3_ok 12 (by simp)) (all_cons' (bound3_ok 14 (by simp)) (all_cons' low3_ok (all_cons' next3_ok all_nil')))))
def L3 : Nat → Option LJ := Lone 2 ⟨g3 (.v 3) (.v 2), .o .add (.i 60) (.o .mul (.v 2) (.i (-1))), some fn17⟩
def lcPlay3 : LC := ⟨2, aPl, mPl (.v 0), [⟨.u .rlen (.v 1), ⟨some 0, some 60⟩⟩], [.ap 4 (.v 1), g3 (.v 0) (.i 0)], .z (.b (.b true)), mPl (plX (.v 0) (.v 1))⟩
theorem play60 : lcPlay3.Ok Tryz.prog 15 :=
  LC.Ok.of_treeF (L := L3) (lem := Xone 2 lem3) (W := Wpl) (n := 12) (cf := 300) (d := 20) (opn := []) (cls := []) (Lone_ok (lj_ok rfl rfl rfl HOk6.h17)) (Xone_ok lem3_ok) CPl_ok tms_ok rfl rfl (by kernel_rfl)
def NW : X := gen.newX (.v 2) (.v 0) (.v 1) (.v 3)
def PL1 : X := plX NW (.v 4)
def goodP : X := .o .and (.u .not (.o .lt (.i 10000) (.u .len (.v 0)))) (.o .and (.u .not (.o .lt (.i 10000) (.u .len (.v 1)))) (.o .and (.u .not (.o .lt (.i 10000) (.u .len (.v 2)))) (.o .and (.u .not (.o .lt (.i 1000) gen.rl3)) (.o .and (.u .not (.o .lt gen.ap8 gen.rl3)) (.o .and (.ap 4 (.v 4)) (.o .and (.ap 4 (.v 5)) (.o .and (gdX NW (.i 0)) (.o .and (g3 PL1 (.i 0)) (.o .and (.u .not (.o .lt (.i 60) (.u .rlen (.v 4)))) (.u .not (.o .lt (.i 60) (.u .rlen (.v 5)))))))))))))
theorem gen_inv_tab : tmInv 12 ⟨4, gen.fsN, gen.okA⟩ tm1 NW = true := by kernel_rfl
theorem gen_good {e : En} (h0 : ¬ (10000 : Int) < (((e.ρ 0).toS.length : Nat) : Int)) (h1 : ¬ (10000 : Int) < (((e.ρ 1).toS.length : Nat) : Int)) (h2 : ¬ (10000 : Int) < (((e.ρ 2).toS.length : Nat) : Int)) (h3 : ¬ (1000 : Int) < (((e.ρ 3).toR.length : Nat) : Int))
    (hw : (X.o .lt gen.ap8 gen.rl3).B e = false) : GoodSt (NW.den e) 0 := by
  have ho : (X.u .not (.o .lt gen.ap8 gen.rl3)).B e = true := not_B hw
  have hh : (X.ap 7 (.v 3)).B e = true := gen.ap8_ok (ds := [.u, .u, .u, e.ρ 3]) ho
  have lo : ∀ n : Nat, ¬ (10000 : Int) < (((e.ρ n).toS.length : Nat) : Int) → (gen.loF n).r.has ((gen.loF n).e.I e) := fun n h => hasM (Int.natCast_nonneg _) (by show (((e.ρ n).toS.length : Nat) : Int) ≤ 10000; omega)
  have hg : (⟨4, gen.fsN, gen.okA⟩ : Gm).ok e := ⟨all_cons' (lo 0 h0) (all_cons' (lo 1 h1) (all_cons' (lo 2 h2) (all_cons' (hasM (Int.natCast_nonneg _) (by show (((e.ρ 3).toR.length : Nat) : Int) ≤ 1000; omega)) all_nil'))), all_cons' ho (all_cons' hh (all_cons' (gen.dn_ok 0 _) (all_cons' (gen.dn_ok 1 _) (all_cons' (gen.dn_ok 2 _) (all_cons' (gen.dn_ok 3 _) all_nil')))))⟩
  refine ⟨tmInv_ok hg tm1_ok gen_inv_tab, ⟨Int.le_refl _, by omega, ?_, ?_, ?_, ?_⟩⟩ <;> exact Int.le_refl (0 : Int)
theorem plays_cover (e : En) : gen.badX'.B e = true ∨ (X.u .not (.ap 4 (.v 4))).B e = true ∨ (X.u .not (.ap 4 (.v 5))).B e = true ∨ goodP.B e = true := by
  cases h4 : (X.ap 4 (.v 4)).B e with
  | false => exact .inr (.inl (not_B h4))
  | true =>
  cases h5 : (X.ap 4 (.v 5)).B e with
  | false => exact .inr (.inr (.inl (not_B h5)))
  | true =>
  cases hb : gen.badX'.B e with
  | true => exact .inl rfl
  | false =>
  right; right; right
  have hb : ((decide ((10000 : Int) < (((e.ρ 0).toS.length : Nat) : Int)) || (decide ((10000 : Int) < (((e.ρ 1).toS.length : Nat) : Int)) || decide ((10000 : Int) < (((e.ρ 2).toS.length : Nat) : Int)))) || (decide ((1000 : Int) < (((e.ρ 3).toR.length : Nat) : Int)) || (X.o .lt gen.ap8 gen.rl3).B e)) = false := hb
  simp only [Bool.or_eq_false_iff, decide_eq_false_iff_not] at hb
  obtain ⟨⟨b0, b1, b2⟩, b3, b4⟩ := hb
  have hn := gen_good b0 b1 b2 b3 b4
  have near : ∀ d : D, (Fam.Φ 4 d).toB = true → nearL d.toR = true := fun d h => by rw [HOk5.h4] at h; exact h
  have n4 : nearL (e.ρ 4).toR = true := near _ h4
  have n5 : nearL (e.ρ 5).toR = true := near _ h5
  have hp : GoodSt (PL1.den e) 60 := play_good hn n4 (by omega)
  have l4 := nearL_len n4
  have l5 := nearL_len n5
  exact and_B (not_B (decide_eq_false b0)) (and_B (not_B (decide_eq_false b1)) (and_B (not_B (decide_eq_false b2)) (and_B (not_B (decide_eq_false b3)) (and_B (not_B b4) (and_B h4 (and_B h5 (and_B ((gdX_iff e _ _).2 hn) (and_B ((g3_iff e _ _).2 hp) (and_B (not_B (decide_eq_false (by show ¬ (60 : Int) < (((e.ρ 4).toR.length : Nat) : Int); omega))) (not_B (decide_eq_false (by show ¬ (60 : Int) < (((e.ρ 5).toR.length : Nat) : Int); omega))))))))))))
end Go.Proofs.YtmjapmghihalpaaGreat
