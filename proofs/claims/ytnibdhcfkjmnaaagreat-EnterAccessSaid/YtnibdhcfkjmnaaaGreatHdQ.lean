/-
  Plain laws of the page: gone on in parts it is as gone on at once. Conditions: none.
-/
import Derived.Test.YtnibdhcfkjmnaaaGreatHdG
import Derived.Test.YtnibdhcfkjmnaaaGreatHdP
set_option linter.unusedSectionVars false
set_option linter.unusedVariables false
set_option linter.unusedSimpArgs false
namespace Go.Proofs.YtnibdhcfkjmnaaaGreat
open Go Go.AE Go.SX Go.RowKit
set_option maxRecDepth 1000000
/-- What going on changes. -/
structure PT where
  c : Int
  l : Int
  due : Bool
  seen : Int
  rose : Bool
  now : Int
def toPT (r : Int) (on : Bool) (L : List (List A)) (p : PT) (t : Int) : PT :=
  if p.now < t then ⟨(goC on r p.c p.l (t - p.now)).2.1, (goC on r p.c p.l (t - p.now)).2.2, decide (0 < (goC on r p.c p.l (t - p.now)).1) || p.due, ((toF L t (L.length - p.seen.toNat) p.seen.toNat p.rose).1 : Nat), (toF L t (L.length - p.seen.toNat) p.seen.toNat p.rose).2, t⟩ else p
structure PT.Ok (p : PT) (r : Int) (L : List (List A)) : Prop where
  c0 : 0 ≤ p.c
  c1 : p.c ≤ 127
  l0 : 1 ≤ p.l
  l1 : p.l ≤ 3072
  s0 : 0 ≤ p.seen
  s1 : p.seen ≤ (L.length : Nat)
  r0 : 0 ≤ r
  r1 : r ≤ 127
  e1 : ((L.length : Nat) : Int) ≤ 1000
theorem toPT_ok {r : Int} {on : Bool} {L : List (List A)} {p : PT} (h : p.Ok r L) {t : Int} (ht : t - p.now ≤ 281474976710656) : (toPT r on L p t).Ok r L := by
  unfold toPT
  split
  · rename_i hc
    have hg := goC_rg (on := on) h.r0 h.r1 h.c0 h.c1 h.l0 h.l1 (n := t - p.now) (by omega) ht
    have hf := toF_le (L := L) (t := t) (L.length - p.seen.toNat) p.seen.toNat p.rose (by have := h.s1; have := h.s0; omega)
    exact ⟨hg.2.1.1, hg.2.1.2, hg.2.2.1, hg.2.2.2, by show (0 : Int) ≤ ((_ : Nat) : Int); omega, by show ((_ : Nat) : Int) ≤ _; omega, h.r0, h.r1, h.e1⟩
  · exact h
theorem toPT_stay {r : Int} {on : Bool} {L : List (List A)} {p : PT} {t : Int} (h : ¬ p.now < t) : toPT r on L p t = p := by
  unfold toPT; rw [if_neg h]
theorem toPT_add {r : Int} {on : Bool} {L : List (List A)} {p : PT} (h : p.Ok r L) {t1 t2 : Int} (h1 : p.now ≤ t1) (h2 : t1 ≤ t2) (h3 : t2 - p.now ≤ 281474976710656) : toPT r on L (toPT r on L p t1) t2 = toPT r on L p t2 := by
  rcases Int.lt_or_eq_of_le h1 with h1 | h1
  case inr =>
    have : toPT r on L p t1 = p := by unfold toPT; rw [if_neg (by omega)]
    rw [this]
  rcases Int.lt_or_eq_of_le h2 with h2 | rfl
  case inr =>
    have hn : (toPT r on L p t1).now = t1 := by unfold toPT; rw [if_pos h1]
    exact toPT_stay (by rw [hn]; omega)
  have e1 : toPT r on L p t1 = ⟨(goC on r p.c p.l (t1 - p.now)).2.1, (goC on r p.c p.l (t1 - p.now)).2.2, decide (0 < (goC on r p.c p.l (t1 - p.now)).1) || p.due, ((toF L t1 (L.length - p.seen.toNat) p.seen.toNat p.rose).1 : Nat), (toF L t1 (L.length - p.seen.toNat) p.seen.toNat p.rose).2, t1⟩ := by
    unfold toPT; rw [if_pos h1]
  have e2 : toPT r on L p t2 = ⟨(goC on r p.c p.l (t2 - p.now)).2.1, (goC on r p.c p.l (t2 - p.now)).2.2, decide (0 < (goC on r p.c p.l (t2 - p.now)).1) || p.due, ((toF L t2 (L.length - p.seen.toNat) p.seen.toNat p.rose).1 : Nat), (toF L t2 (L.length - p.seen.toNat) p.seen.toNat p.rose).2, t2⟩ := by
    unfold toPT; rw [if_pos (by omega)]
  rw [e1, e2]
  unfold toPT
  simp only
  rw [if_pos h2]
  have g1 := goC_rg (on := on) h.r0 h.r1 h.c0 h.c1 h.l0 h.l1 (n := t1 - p.now) (by omega) (by omega)
  have g2 := goC_rg (on := on) h.r0 h.r1 g1.2.1.1 g1.2.1.2 g1.2.2.1 g1.2.2.2 (n := t2 - t1) (by omega) (by omega)
  have ga := goC_add (on := on) (r := r) (c := p.c) (l := p.l) (n1 := t1 - p.now) (n2 := t2 - t1) h.r0 h.c0 h.l0 (by omega) (by omega)
  have hs : t1 - p.now + (t2 - t1) = t2 - p.now := by omega
  rw [hs] at ga
  have hf := toF_add (L := L) (t1 := t1) (t2 := t2) (Int.le_of_lt h2) (L.length - p.seen.toNat) p.seen.toNat p.rose rfl
  rw [Int.toNat_natCast, ← hf, ga]
  congr 1
  rw [← Bool.or_assoc]
  congr 1
  rw [Bool.eq_iff_iff]
  simp only [Bool.or_eq_true, decide_eq_true_eq]
  omega
/-! The same of states. -/
def ptOf (x : D) : PT := ⟨((comps 19 x).getD 2 .u).toI, ((comps 19 x).getD 4 .u).toI, ((comps 19 x).getD 6 .u).toB, ((comps 19 x).getD 16 .u).toI, ((comps 19 x).getD 17 .u).toB, ((comps 19 x).getD 18 .u).toI⟩
/-- All that going on leaves as it is. -/
def restOf (x : D) : List D := [((comps 19 x).getD 0 .u), ((comps 19 x).getD 1 .u), ((comps 19 x).getD 3 .u), ((comps 19 x).getD 5 .u), ((comps 19 x).getD 7 .u), ((comps 19 x).getD 8 .u), ((comps 19 x).getD 9 .u), ((comps 19 x).getD 10 .u), ((comps 19 x).getD 11 .u), ((comps 19 x).getD 12 .u), ((comps 19 x).getD 13 .u), ((comps 19 x).getD 14 .u), ((comps 19 x).getD 15 .u)]
def relOf (x : D) : Int := ((comps 19 x).getD 1 .u).toI
def onOf (x : D) : Bool := ((comps 19 x).getD 3 .u).toB
def edOf (x : D) : List (List A) := ((comps 19 x).getD 15 .u).toR
def SameSt (x y : D) : Prop := ptOf x = ptOf y ∧ restOf x = restOf y
variable [HF] [HOk1] [HOk2] [HOk3]
theorem len19 {l : List D} (h : l.length = 19) : ∃ a0 a1 a2 a3 a4 a5 a6 a7 a8 a9 a10 a11 a12 a13 a14 a15 a16 a17 a18, l = [a0, a1, a2, a3, a4, a5, a6, a7, a8, a9, a10, a11, a12, a13, a14, a15, a16, a17, a18] := by
  match l, h with
  | [a0, a1, a2, a3, a4, a5, a6, a7, a8, a9, a10, a11, a12, a13, a14, a15, a16, a17, a18], _ => exact ⟨_, _, _, _, _, _, _, _, _, _, _, _, _, _, _, _, _, _, _, rfl⟩
theorem parts19 (x : D) : ∃ a0 a1 a2 a3 a4 a5 a6 a7 a8 a9 a10 a11 a12 a13 a14 a15 a16 a17 a18, comps 19 x = [a0, a1, a2, a3, a4, a5, a6, a7, a8, a9, a10, a11, a12, a13, a14, a15, a16, a17, a18] := len19 (comps_len 19 x)
theorem toSD_comps {x t a0 a1 a2 a3 a4 a5 a6 a7 a8 a9 a10 a11 a12 a13 a14 a15 a16 a17 a18 : D} (hx : comps 19 x = [a0, a1, a2, a3, a4, a5, a6, a7, a8, a9, a10, a11, a12, a13, a14, a15, a16, a17, a18]) :
    comps 19 (toSD (.p x t)) = [a0, a1, .i (bif decide (a18.toI < t.toI) then (goD (.p a1 (.p a2 (.p a3 (.p a4 (.i (a18.toI * -1 + t.toI))))))).snd.fst.toI else a2.toI), a3,
      .i (bif decide (a18.toI < t.toI) then (goD (.p a1 (.p a2 (.p a3 (.p a4 (.i (a18.toI * -1 + t.toI))))))).snd.snd.toI else a4.toI), a5,
      .b (bif decide (a18.toI < t.toI) then (decide (0 < (goD (.p a1 (.p a2 (.p a3 (.p a4 (.i (a18.toI * -1 + t.toI))))))).fst.toI) || a6.toB) else a6.toB), a7, a8, a9, a10, a11, a12, a13, a14, a15,
      .i (bif decide (a18.toI < t.toI) then (toD (.p a15 (.p a16 (.p a17 t)))).fst.toI else a16.toI), .b (bif decide (a18.toI < t.toI) then (toD (.p a15 (.p a16 (.p a17 t)))).snd.toB else a17.toB), .i (bif decide (a18.toI < t.toI) then t.toI else a18.toI)] := by
  unfold toSD
  rw [pack_comps rfl]
  unfold eP
  show spTo.map (X.den (envOf (comps 19 x ++ [t]))) = _
  rw [hx]
  show [a0, a1, D.i (bif decide (a18.toI < t.toI) then (Fam.Φ 2 (.p a1 (.p a2 (.p a3 (.p a4 (.i (a18.toI * -1 + t.toI))))))).snd.fst.toI else a2.toI), a3,
      D.i (bif decide (a18.toI < t.toI) then (Fam.Φ 2 (.p a1 (.p a2 (.p a3 (.p a4 (.i (a18.toI * -1 + t.toI))))))).snd.snd.toI else a4.toI), a5,
      D.b (bif decide (a18.toI < t.toI) then (decide (0 < (Fam.Φ 2 (.p a1 (.p a2 (.p a3 (.p a4 (.i (a18.toI * -1 + t.toI))))))).fst.toI) || a6.toB) else a6.toB), a7, a8, a9, a10, a11, a12, a13, a14, a15,
      D.i (bif decide (a18.toI < t.toI) then (Fam.Φ 1 (.p a15 (.p a16 (.p a17 t)))).fst.toI else a16.toI), D.b (bif decide (a18.toI < t.toI) then (Fam.Φ 1 (.p a15 (.p a16 (.p a17 t)))).snd.toB else a17.toB), D.i (bif decide (a18.toI < t.toI) then t.toI else a18.toI)] = _
  rw [HOk1.h1, HOk1.h2]
theorem toSD_rest (x t : D) : restOf (toSD (.p x t)) = restOf x := by
  obtain ⟨a0, a1, a2, a3, a4, a5, a6, a7, a8, a9, a10, a11, a12, a13, a14, a15, a16, a17, a18, hx⟩ := parts19 x
  unfold restOf
  rw [toSD_comps hx, hx]; rfl
theorem toSD_pt {x t : D} (h : (ptOf x).Ok (relOf x) (edOf x)) (ht : t.toI - (ptOf x).now ≤ 281474976710656) : ptOf (toSD (.p x t)) = toPT (relOf x) (onOf x) (edOf x) (ptOf x) t.toI := by
  obtain ⟨a0, a1, a2, a3, a4, a5, a6, a7, a8, a9, a10, a11, a12, a13, a14, a15, a16, a17, a18, hx⟩ := parts19 x
  have p1 : ptOf x = ⟨a2.toI, a4.toI, a6.toB, a16.toI, a17.toB, a18.toI⟩ := by unfold ptOf; rw [hx]; rfl
  have p2 : relOf x = a1.toI := by unfold relOf; rw [hx]; rfl
  have p3 : onOf x = a3.toB := by unfold onOf; rw [hx]; rfl
  have p4 : edOf x = a15.toR := by unfold edOf; rw [hx]; rfl
  rw [p1, p2, p4] at h
  rw [p1] at ht
  rw [p1, p2, p3, p4]
  unfold ptOf
  rw [toSD_comps hx]
  have hs : a18.toI * -1 + t.toI = t.toI - a18.toI := by omega
  rw [hs]
  unfold toPT
  by_cases hc : a18.toI < t.toI
  · have hg := goC_rg (on := a3.toB) h.r0 h.r1 h.c0 h.c1 h.l0 h.l1 (n := t.toI - a18.toI) (by omega) ht
    have hf := toF_le (L := a15.toR) (t := t.toI) (a15.toR.length - a16.toI.toNat) a16.toI.toNat a17.toB (by have := h.s1; have := h.s0; simp only at *; omega)
    have he := h.e1
    simp only [if_pos hc, decide_eq_true hc, cond_true]
    show PT.mk (clampI 0 127 (goC a3.toB a1.toI a2.toI a4.toI (t.toI - a18.toI)).2.1) (clampI 1 3072 (goC a3.toB a1.toI a2.toI a4.toI (t.toI - a18.toI)).2.2) (decide (0 < clampI 0 1125899906842624 (goC a3.toB a1.toI a2.toI a4.toI (t.toI - a18.toI)).1) || a6.toB)
      (clampI 0 (min 1000 (a15.toR.length : Nat)) ((toF a15.toR t.toI (a15.toR.length - a16.toI.toNat) a16.toI.toNat a17.toB).1 : Nat)) (toF a15.toR t.toI (a15.toR.length - a16.toI.toNat) a16.toI.toNat a17.toB).2 t.toI = _
    rw [clampI_eq hg.1.1 hg.1.2, clampI_eq hg.2.1.1 hg.2.1.2, clampI_eq hg.2.2.1 hg.2.2.2, clampI_eq (by omega) (by omega)]
  · simp only [if_neg hc, decide_eq_false hc, cond_false]; rfl
theorem restOf_at {x y : D} (h : restOf x = restOf y) : relOf x = relOf y ∧ onOf x = onOf y ∧ edOf x = edOf y := by
  simp only [restOf, List.cons.injEq, and_true] at h
  obtain ⟨_, h1, h3, _, _, _, _, _, _, _, _, _, h15⟩ := h
  exact ⟨by unfold relOf; rw [h1], by unfold onOf; rw [h3], by unfold edOf; rw [h15]⟩
/-- Two pages alike go on alike; in parts it is as at once. -/
theorem parts_step {q p s t : D} (hp : (ptOf p).Ok (relOf p) (edOf p)) (h : SameSt q (toSD (.p p s))) (h1 : (ptOf p).now ≤ s.toI) (h2 : s.toI ≤ t.toI) (h3 : t.toI - (ptOf p).now ≤ 281474976710656) : SameSt (toSD (.p q t)) (toSD (.p p t)) := by
  have e1 := toSD_pt (t := s) hp (by omega)
  obtain ⟨r1, r2, r3⟩ := restOf_at (h.2.trans (toSD_rest p s))
  have hq : ptOf q = toPT (relOf p) (onOf p) (edOf p) (ptOf p) s.toI := h.1.trans e1
  have hqo : (ptOf q).Ok (relOf q) (edOf q) := by rw [r1, r3, hq]; exact toPT_ok hp (by omega)
  have hqn : (ptOf q).now = s.toI := by
    rw [hq]; unfold toPT
    split
    · rfl
    · omega
  refine ⟨?_, by rw [toSD_rest, toSD_rest, h.2, toSD_rest]⟩
  rw [toSD_pt hqo (by rw [hqn]; omega), toSD_pt hp h3, r1, r2, r3, hq]
  exact toPT_add hp h1 h2 h3
theorem parts_zero {p s : D} (hp : (ptOf p).Ok (relOf p) (edOf p)) (h : s.toI = (ptOf p).now) : SameSt p (toSD (.p p s)) := by
  refine ⟨?_, (toSD_rest p s).symm⟩
  rw [toSD_pt hp (by omega)]
  unfold toPT
  rw [if_neg (by omega)]
end Go.Proofs.YtnibdhcfkjmnaaaGreat
