/-
  What the law of what is written comes to, and that it holds. Conditions: none.
-/
import Derived.Test.YtnibdhcfkjmnaaaGreatBusZ
import Derived.Test.YtnibdhcfkjmnaaaGreatHold
set_option linter.unusedSectionVars false
set_option linter.unusedVariables false
set_option linter.unusedSimpArgs false
namespace Go.Proofs.YtnibdhcfkjmnaaaGreat
open Go Go.AE Go.SX Go.RowKit
set_option maxRecDepth 1000000
section
variable [HF] [HOk1] [HOk2] [HOk3] [ROk] [BOk] [BOk2] [SOk]
def hbud : X := iI (.o .lt (.i 9) (.i 0)) (.i 0) (iI (.o .lt (.i maxB) (.i 9)) (.i maxB) (.i 9))
def hS0 : X := packX [.i 0, .b false, .b false, .b false, .v 0, zerosX, newX0 .nil, hbud, .b false, .nil, .i 0]
def hS1 : X := .ap 44 (.o .pair hS0 (.o .pair (.v 1) (.o .pair (.v 2) (.i 4))))
def hAt (n : Int) : X := .o .add (.o .emod (.v 1) (.i 8192)) (.i n)
def hArg (s : X) (n : Int) : X := .o .pair s (.o .pair (hAt n) (.i 3))
def hIs (x : X) : X := .o .eq x (.v 2)
def hIn : X := .o .and (hIs (.ap 41 (hArg hS1 2031616))) (.o .and (hIs (.ap 41 (hArg (.ap 42 (hArg hS1 2031616)) 2039808))) (.o .and (hIs (.ap 41 (hArg (.ap 42 (hArg (.ap 42 (hArg hS1 2031616)) 2039808)) 2048000)))
  (.o .and (hIs (.ap 41 (hArg (.ap 42 (hArg (.ap 42 (hArg (.ap 42 (hArg hS1 2031616)) 2039808)) 2048000)) 2056192))) (hIs (.ap 43 (.o .pair hS1 (.v 1)))))))
def hOut : X := .o .eq (.ap 43 (.o .pair hS1 (.v 1))) (.ap 43 (.o .pair hS0 (.v 1)))
def holdX : X := .t .b (.o .eq (.ap 3 (.o .emod (.v 1) (.i 2097152))) (.i 1)) hIn hOut
theorem hS0_pt (e : En) (i : Nat) : bpt (hS0.den e) i = ([X.i 0, .b false, .b false, .b false, .v 0, zerosX, newX0 .nil, hbud, .b false, .nil, .i 0].map (X.den e)).getD i .u := by
  have h := packX_den e [X.i 0, .b false, .b false, .b false, .v 0, zerosX, newX0 .nil, hbud, .b false, .nil, .i 0]
  unfold bpt
  exact congrArg (fun l : List D => l.getD i .u) h
theorem hS1_den (e : En) : hS1.den e = bwSD (.p (hS0.den e) (.p (e.ρ 1) (.p (e.ρ 2) (.i 4)))) := BOk2.h44 _
theorem hAt_in {a n : Int} (h0 : 0 ≤ a) (hn : n = 2031616 ∨ n = 2039808 ∨ n = 2048000 ∨ n = 2056192) : whI ((a % 8192 + n) % 2097152) = 1 ∧ (a % 8192 + n) % 8192 = a % 8192 := by
  have h1 : whI ((a % 8192 + n) % 2097152) = 1 := by
    unfold whI
    rw [if_neg (by omega), if_pos (by omega)]
  exact ⟨h1, by omega⟩
theorem hold_step {e : En} {s : X} {n m : Int} (h0 : 0 ≤ (e.ρ 1).toI) (h : HoldSt (s.den e) (e.ρ 1).toI (e.ρ 2).toI m) (hm : 0 < m) (hn : n = 2031616 ∨ n = 2039808 ∨ n = 2048000 ∨ n = 2056192) :
    (hIs (.ap 41 (hArg s n))).B e = true ∧ HoldSt ((X.ap 42 (hArg s n)).den e) (e.ρ 1).toI (e.ρ 2).toI (m - 1) := by
  obtain ⟨w1, w2⟩ := hAt_in h0 hn
  obtain ⟨r1, r2⟩ := rd_hold (a := .i ((e.ρ 1).toI % 8192 + n)) (k := .i 3) h hm w1 w2
  constructor
  · show decide ((Fam.Φ 41 (.p (s.den e) (.p (.i ((e.ρ 1).toI % 8192 + n)) (.i 3)))).toI = (e.ρ 2).toI) = true
    rw [BOk2.h41, r1]
    exact decide_eq_true rfl
  · show HoldSt (Fam.Φ 42 (.p (s.den e) (.p (.i ((e.ρ 1).toI % 8192 + n)) (.i 3)))) _ _ _
    rw [BOk2.h42]
    exact r2
theorem and_B {e : En} {x y : X} (h1 : x.B e = true) (h2 : y.B e = true) : (X.o .and x y).B e = true := by
  show (x.B e && y.B e) = true
  rw [h1, h2]; rfl
theorem hold_in (e : En) (h1 : 0 ≤ (e.ρ 1).toI) (h3 : 0 ≤ (e.ρ 2).toI) (h4 : (e.ρ 2).toI ≤ 255) (hw : whI ((e.ρ 1).toI % 2097152) = 1) : hIn.B e = true := by
  have s1 : HoldSt (hS1.den e) (e.ρ 1).toI (e.ρ 2).toI (9 - 1) := by
    rw [hS1_den]
    refine wr_hold ?_ (by omega) ?_ h3 h4 hw
    · rw [hS0_pt]; rfl
    · rw [hS0_pt]
      show (Fam.Φ 60 .u).toS.length = 8192
      rw [ROk.h60]
      exact List.length_replicate ..
  obtain ⟨b1, s2⟩ := hold_step (n := 2031616) h1 s1 (by omega) (.inl rfl)
  obtain ⟨b2, s3⟩ := hold_step (n := 2039808) h1 s2 (by omega) (.inr (.inl rfl))
  obtain ⟨b3, s4⟩ := hold_step (n := 2048000) h1 s3 (by omega) (.inr (.inr (.inl rfl)))
  obtain ⟨b4, s5⟩ := hold_step (n := 2056192) h1 s4 (by omega) (.inr (.inr (.inr rfl)))
  refine and_B b1 (and_B b2 (and_B b3 (and_B b4 ?_)))
  show decide ((Fam.Φ 43 (.p (hS1.den e) (e.ρ 1))).toI = (e.ρ 2).toI) = true
  rw [BOk2.h43, pk_hold s1 hw]
  exact decide_eq_true rfl
theorem hold_out (e : En) (hw : whI ((e.ρ 1).toI % 2097152) ≠ 1) : hOut.B e = true := by
  show decide ((Fam.Φ 43 (.p (hS1.den e) (e.ρ 1))).toI = (Fam.Φ 43 (.p (hS0.den e) (e.ρ 1))).toI) = true
  rw [BOk2.h43, BOk2.h43, hS1_den, pk_out hw]
  exact decide_eq_true rfl
theorem hold_ok (e : En) (h1 : 0 ≤ (e.ρ 1).toI) (h3 : 0 ≤ (e.ρ 2).toI) (h4 : (e.ρ 2).toI ≤ 255) : holdX.B e = true := by
  have e3 : (X.o .eq (.ap 3 (.o .emod (.v 1) (.i 2097152))) (.i 1)).B e = decide (whI ((e.ρ 1).toI % 2097152) = 1) := by
    show decide ((Fam.Φ 3 (.i ((e.ρ 1).toI % 2097152))).toI = 1) = _
    rw [HOk1.h3]; rfl
  show (bif (X.o .eq (.ap 3 (.o .emod (.v 1) (.i 2097152))) (.i 1)).B e then hIn.B e else hOut.B e) = true
  rw [e3]
  by_cases hw : whI ((e.ρ 1).toI % 2097152) = 1
  · rw [decide_eq_true hw]; exact hold_in e h1 h3 h4 hw
  · rw [decide_eq_false hw]; exact hold_out e hw
end
end Go.Proofs.YtnibdhcfkjmnaaaGreat
