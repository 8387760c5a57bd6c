/-
  Physical addresses of logical ones: one named function on both sides. Conditions: none.
-/
import Derived.Test.YtnibdhcfkjmnaaaGreatBusC
set_option linter.unusedSectionVars false
set_option linter.unusedVariables false
set_option linter.unusedSimpArgs false
namespace Go.Proofs.YtnibdhcfkjmnaaaGreat
open Go Go.AE Go.SX Go.RowKit
set_option maxRecDepth 1000000
section
variable [Fam]
def selN : Nat → List X → X → X
  | _, [], _ => .nil
  | _, [x], _ => x
  | i, x :: y :: l, q => iI (.o .eq q (.i (i : Nat))) x (selN (i + 1) (y :: l) q)
theorem selN_I (e : En) (q : X) : ∀ (l : List X) (i : Nat), (i : Int) ≤ q.I e → q.I e < (i : Int) + (l.length : Nat) → (selN i l q).I e = (l.getD ((q.I e).toNat - i) .nil).I e
  | [], i, h1, h2 => by simp at h2; omega
  | [x], i, h1, h2 => by
    have h2 : q.I e < (i : Int) + 1 := h2
    have : (q.I e).toNat - i = 0 := by omega
    rw [this]; rfl
  | x :: y :: l, i, h1, h2 => by
    show (bif decide (q.I e = (i : Int)) then x.I e else (selN (i + 1) (y :: l) q).I e) = _
    by_cases h : q.I e = (i : Int)
    · rw [decide_eq_true h, cond_true, h]
      have : ((i : Int)).toNat - i = 0 := by omega
      rw [this]; rfl
    · rw [decide_eq_false h, cond_false, selN_I e q (y :: l) (i + 1) (by omega) (by
        have h2 : q.I e < (i : Int) + ((l.length + 1 + 1 : Nat) : Int) := h2
        show q.I e < ((i + 1 : Nat) : Int) + ((l.length + 1 : Nat) : Int)
        omega)]
      have : (q.I e).toNat - i = ((q.I e).toNat - (i + 1)) + 1 := by omega
      rw [this, List.getD_cons_succ]
end
/-- The address: the bank of the page, and the place in it. -/
def phI (l : List D) (a : Int) : Int := clampI 0 2097151 ((l.getD (a / 8192).toNat .u).toI * 8192 + a % 8192)
def phD (d : D) : D := .i (phI ((comps 9 d).take 8) ((comps 9 d).getD 8 .u).toI)
class PhOk [HF] : Prop where
  h50 : ∀ d, Fam.Φ 50 d = phD d
variable [HF] [PhOk]
def mMmu (t : Nat) : SMem := [some ⟨.cs [u8 0, u8 1, u8 2, u8 3, u8 4, u8 5, u8 6, u8 7, u8 8], t, true, true⟩]
def fsMmu : List Fact := ((List.range 9).map fun i => (⟨.v i, ⟨some 0, some 255⟩⟩ : Fact)) ++ [⟨.v 9, ⟨some 0, some 65535⟩⟩]
def pgX : X := .o .ediv (.v 9) (.i 8192)
def allZ : X := .o .and (.o .eq (.v 0) (.i 0)) (.o .and (.o .eq (.v 1) (.i 0)) (.o .and (.o .eq (.v 2) (.i 0)) (.o .and (.o .eq (.v 3) (.i 0)) (.o .and (.o .eq (.v 4) (.i 0)) (.o .and (.o .eq (.v 5) (.i 0)) (.o .and (.o .eq (.v 6) (.i 0)) (.o .eq (.v 7) (.i 0))))))))
def phX (l : List X) : X := .o .add (.o .mul (selN 0 l pgX) (.i 8192)) (.o .emod (.v 9) (.i 8192))
def lcPh (t : Nat) (x : X) : LC := ⟨10, [p0, .z (.i .u16 (.v 9))], mMmu t, fsMmu, [], .z (.i .u32 x), mMmu t⟩
def ph1L : List X := (List.range 8).map fun i => iI allZ (.i 0) (.v i)
def ph2L : List X := (List.range 8).map X.v
def ph50 : X := .ap 50 (packX [.v 0, .v 1, .v 2, .v 3, .v 4, .v 5, .v 6, .v 7, .v 9])
theorem ph1 : (lcPh 206 (phX ph1L)).Ok Tryz.prog 62 := lc_ok rfl rfl (by kernel_rfl)
theorem ph2 : (lcPh 143 (phX ph2L)).Ok Tryz.prog 66 := lc_ok rfl rfl (by kernel_rfl)
theorem ph_of {t : Nat} {f : FuncId} {l : List X} (h : (lcPh t (phX l)).Ok Tryz.prog f) (hl : l.length = 8) (hx : ∀ (e : En) (i : Nat), i < 8 → (l.getD i .nil).I e = (e.ρ i).toI) : (lcPh t ph50).Ok Tryz.prog f := by
  refine h.conv rfl rfl rfl fun ds hlen hf ha => ⟨hf, ha, ?_, rfl⟩
  have rg : ∀ i, i < 9 → 0 ≤ ((envOf ds).ρ i).toI ∧ ((envOf ds).ρ i).toI ≤ 255 := fun i hi => by
    obtain ⟨h1, h2⟩ := hf ⟨.v i, ⟨some 0, some 255⟩⟩ (List.mem_append_left _ (List.mem_map.2 ⟨i, List.mem_range.2 hi, rfl⟩))
    exact ⟨h1 _ rfl, h2 _ rfl⟩
  obtain ⟨a1, a2⟩ := hf ⟨.v 9, ⟨some 0, some 65535⟩⟩ (List.mem_append_right _ List.mem_cons_self)
  have a1 : 0 ≤ ((envOf ds).ρ 9).toI := a1 _ rfl
  have a2 : ((envOf ds).ρ 9).toI ≤ 65535 := a2 _ rfl
  show Value.int .u32 ((selN 0 l pgX).I (envOf ds) * 8192 + ((envOf ds).ρ 9).toI % 8192) = Value.int .u32 (ph50.den (envOf ds)).toI
  have hp : pgX.I (envOf ds) = ((envOf ds).ρ 9).toI / 8192 := rfl
  have hs := selN_I (envOf ds) pgX l 0 (by rw [hp]; omega) (by rw [hp, hl]; omega)
  rw [hs, Nat.sub_zero, hp, hx _ _ (by omega)]
  have e1 : ph50.den (envOf ds) = phD (packD (([X.v 0, .v 1, .v 2, .v 3, .v 4, .v 5, .v 6, .v 7, .v 9] : List X).map (X.den (envOf ds)))) := by
    show Fam.Φ 50 ((packX _).den _) = _
    rw [PhOk.h50, packX_eq]
  rw [e1]
  unfold phD
  have e2 : comps 9 (packD (([X.v 0, .v 1, .v 2, .v 3, .v 4, .v 5, .v 6, .v 7, .v 9] : List X).map (X.den (envOf ds)))) = ([X.v 0, .v 1, .v 2, .v 3, .v 4, .v 5, .v 6, .v 7, .v 9] : List X).map (X.den (envOf ds)) := by
    generalize hL : ([X.v 0, .v 1, .v 2, .v 3, .v 4, .v 5, .v 6, .v 7, .v 9] : List X).map (X.den (envOf ds)) = L
    have hl : L.length = 9 := by rw [← hL, List.length_map]; rfl
    have := packD_comps L
    rwa [hl] at this
  rw [e2]
  show Value.int .u32 _ = Value.int .u32 (phI [(envOf ds).ρ 0, (envOf ds).ρ 1, (envOf ds).ρ 2, (envOf ds).ρ 3, (envOf ds).ρ 4, (envOf ds).ρ 5, (envOf ds).ρ 6, (envOf ds).ρ 7] ((envOf ds).ρ 9).toI)
  unfold phI
  generalize ((envOf ds).ρ 9).toI = a at *
  have hg : ∀ i : Nat, i < 8 → ([(envOf ds).ρ 0, (envOf ds).ρ 1, (envOf ds).ρ 2, (envOf ds).ρ 3, (envOf ds).ρ 4, (envOf ds).ρ 5, (envOf ds).ρ 6, (envOf ds).ρ 7] : List D).getD i .u = (envOf ds).ρ i := by
    intro i hi
    match i, hi with
    | 0, _ => rfl
    | 1, _ => rfl
    | 2, _ => rfl
    | 3, _ => rfl
    | 4, _ => rfl
    | 5, _ => rfl
    | 6, _ => rfl
    | 7, _ => rfl
  have hq := rg (a / 8192).toNat (by omega)
  rw [hg _ (by omega), clampI_eq (by omega) (by omega)]
theorem physA : (lcPh 206 ph50).Ok Tryz.prog 62 := ph_of ph1 rfl fun e i hi => by
  have key : (bif allZ.B e then (0 : Int) else (e.ρ i).toI) = (e.ρ i).toI := by
    cases hz : allZ.B e with
    | false => rfl
    | true =>
      have hz : (decide ((e.ρ 0).toI = 0) && (decide ((e.ρ 1).toI = 0) && (decide ((e.ρ 2).toI = 0) && (decide ((e.ρ 3).toI = 0) && (decide ((e.ρ 4).toI = 0) && (decide ((e.ρ 5).toI = 0) && (decide ((e.ρ 6).toI = 0) && decide ((e.ρ 7).toI = 0)))))))) = true := hz
      simp only [Bool.and_eq_true, decide_eq_true_eq] at hz
      obtain ⟨z0, z1, z2, z3, z4, z5, z6, z7⟩ := hz
      match i, hi with
      | 0, _ => exact z0.symm
      | 1, _ => exact z1.symm
      | 2, _ => exact z2.symm
      | 3, _ => exact z3.symm
      | 4, _ => exact z4.symm
      | 5, _ => exact z5.symm
      | 6, _ => exact z6.symm
      | 7, _ => exact z7.symm
  have e1 : ph1L.getD i .nil = iI allZ (.i 0) (.v i) := by
    match i, hi with
    | 0, _ => rfl
    | 1, _ => rfl
    | 2, _ => rfl
    | 3, _ => rfl
    | 4, _ => rfl
    | 5, _ => rfl
    | 6, _ => rfl
    | 7, _ => rfl
  rw [e1]
  exact key
theorem physB : (lcPh 143 ph50).Ok Tryz.prog 66 := ph_of ph2 rfl fun e i hi => by
  match i, hi with
  | 0, _ => rfl
  | 1, _ => rfl
  | 2, _ => rfl
  | 3, _ => rfl
  | 4, _ => rfl
  | 5, _ => rfl
  | 6, _ => rfl
  | 7, _ => rfl
end Go.Proofs.YtnibdhcfkjmnaaaGreat
