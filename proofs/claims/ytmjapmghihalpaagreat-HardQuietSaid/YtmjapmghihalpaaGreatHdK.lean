/-
  Are the steps near: one answer. Conditions: none.
-/
import Derived.Test.YtmjapmghihalpaaGreatHdJ
import Derived.Test.YtmjapmghihalpaaGreatHdR
set_option linter.unusedSectionVars false
set_option linter.unusedVariables false
set_option linter.unusedSimpArgs false
namespace Go.Proofs.YtmjapmghihalpaaGreat
open Go Go.AE Go.SX Go.RowKit
set_option maxRecDepth 1000000
/-! Steps: kind, address, byte, how far. -/
def kS : List CK := [.i .u8, .i .u16, .i .u8, .i .u32]
def nsI (L : List (List A)) (i : Nat) : Int := IntKind.u32.wrap ((L.getD i []).getD 3 (.i 0)).toI
def farF (L : List (List A)) : Nat → Nat → Nat
  | 0, i => i
  | k + 1, i => if i < L.length ∧ nsI L i ≤ 1000000 then farF L k (i + 1) else i
def nearL (L : List (List A)) : Bool := decide (L.length ≤ 60) && decide (L.length ≤ farF L L.length 0)
theorem farF_ok {L : List (List A)} : ∀ (k i : Nat), i + k = L.length → L.length ≤ farF L k i → ∀ j, i ≤ j → j < L.length → nsI L j ≤ 1000000
  | 0, i, h, _, j, h1, h2 => by omega
  | k + 1, i, h, hb, j, h1, h2 => by
    unfold farF at hb
    split at hb
    · rename_i hc
      rcases Nat.eq_or_lt_of_le h1 with rfl | h3
      · exact hc.2
      · exact farF_ok k (i + 1) (by omega) hb j h3 h2
    · omega
theorem nearL_len {L : List (List A)} (h : nearL L = true) : L.length ≤ 60 := by
  unfold nearL at h
  rw [Bool.and_eq_true] at h
  exact of_decide_eq_true h.1
theorem nearL_at {L : List (List A)} (h : nearL L = true) {j : Nat} (hj : j < L.length) : nsI L j ≤ 1000000 := by
  unfold nearL at h
  rw [Bool.and_eq_true] at h
  exact farF_ok L.length 0 (by omega) (of_decide_eq_true h.2) j (Nat.zero_le _) hj
section
variable [Fam]
def nsX (l i : X) : X := .u (.wrap .u32) (.o (.rI 3) l i)
def cond16 : X := .o .and (.o .lt (.v 0) (.u .rlen (.v 1))) (.u .not (.o .lt (.i 1000000) (nsX (.v 1) (.v 0))))
def next16 : List X := [.o .add (.v 0) (.i 1)]
theorem near_fix {d a L : D} (hd : comps 2 d = [a, L]) (h0 : 0 ≤ a.toI) :
    ∃ a', comps 1 (fixD cond16 next16 1 d) = [a'] ∧ a'.toI = ((farF L.toR (L.toR.length - a.toI.toNat) a.toI.toNat : Nat) : Int) := by
  obtain ⟨rs, ⟨a0, a', he, rfl, hq⟩, h⟩ := fix_out (cond := cond16) (next := next16) (np := 1)
    (R := fun ds => ∃ a, ds = [a, L] ∧ 0 ≤ a.toI)
    (Q := fun ds rs => ∃ a a', ds = [a, L] ∧ rs = [a', L] ∧ a'.toI = ((farF L.toR (L.toR.length - a.toI.toNat) a.toI.toNat : Nat) : Int))
    (μ := fun ds => L.toR.length - (ds.getD 0 .u).toI.toNat) hd ⟨a, rfl, h0⟩
    (by
      rintro ds ⟨a, rfl, h0⟩ hcn
      have hcn : (decide (a.toI < ((L.toR.length : Nat) : Int)) && !decide (1000000 < nsI L.toR a.toI.toNat)) = false := hcn
      refine ⟨a, a, rfl, rfl, ?_⟩
      cases hk : L.toR.length - a.toI.toNat with
      | zero => show a.toI = ((a.toI.toNat : Nat) : Int); omega
      | succ k =>
        unfold farF
        have h1 : a.toI < ((L.toR.length : Nat) : Int) := by omega
        rw [decide_eq_true h1, Bool.true_and, Bool.not_eq_false', decide_eq_true_eq] at hcn
        rw [if_neg (by omega)]
        omega)
    (by
      rintro ds ⟨a, rfl, h1⟩ hcn
      have hcn : (decide (a.toI < ((L.toR.length : Nat) : Int)) && !decide (1000000 < nsI L.toR a.toI.toNat)) = true := hcn
      rw [Bool.and_eq_true, Bool.not_eq_true', decide_eq_false_iff_not] at hcn
      have h2 := of_decide_eq_true hcn.1
      have e1 : stepD next16 [a, L] = [.i (a.toI + 1), L] := rfl
      rw [e1]
      refine ⟨⟨_, rfl, by show 0 ≤ a.toI + 1; omega⟩, ?_, ?_⟩
      · show L.toR.length - (a.toI + 1).toNat < L.toR.length - a.toI.toNat
        omega
      · rintro rs ⟨a1, a', he, rfl, hq⟩
        simp only [List.cons.injEq, and_true] at he
        obtain rfl := he
        refine ⟨a, a', rfl, rfl, hq.trans ?_⟩
        have e2 : L.toR.length - a.toI.toNat = (L.toR.length - (a.toI + 1).toNat) + 1 := by omega
        rw [e2]
        conv => rhs; unfold farF
        rw [if_pos ⟨by omega, by omega⟩]
        show ((farF L.toR (L.toR.length - (a.toI + 1).toNat) (a.toI + 1).toNat : Nat) : Int) = _
        rw [succ_toNat h1])
  simp only [List.cons.injEq, and_true] at he
  obtain rfl := he
  exact ⟨a', h, hq⟩
end
variable [HF]
def mSt : SMem := [some ⟨.rw kS (.v 0), 0, false, false⟩]
def aSt : List SV := [.z (.sl 0 (.i 0) 0 0 (.u .rlen (.v 0)) (.u .rlen (.v 0)))]
def fsSt : List Fact := [⟨.u .rlen (.v 0), ⟨some 0, some 9223372036854775807⟩⟩]
def lcNear1 (x : X) : LC := ⟨1, aSt, mSt, fsSt, [], .z (.b x), mSt⟩
def Wnr : FuncId → Nat → List Hint := fun n _ => bif Nat.beq n 12 then [.t 3 (some 0) (some 60)] else []
def fn16 : LFn := ⟨16, [.v 0], cond16, next16⟩
def ap16 : X := .ap 16 (packX [.i 0, .v 0])
def L16 : Nat → Option LJ := Lone 1 ⟨inv14, .o .add (.u .rlen (.v 0)) (.o .mul (.v 1) (.i (-1))), some fn16⟩
class HOk5 : Prop where
  h4 : ∀ d, Fam.Φ 4 d = .b (nearL d.toR)
  h16 : ∀ d, Fam.Φ 16 d = fixD cond16 next16 1 d
variable [HOk5]
def nearX : X := .t .b (.o .lt (.i 60) (.u .rlen (.v 0))) (.b false) (.u .not (.o .lt ap16 (.u .rlen (.v 0))))
theorem near1 : (lcNear1 nearX).Ok Tryz.prog 12 :=
  LC.Ok.of_treeF (L := L16) (lem := noX) (W := Wnr) (n := 12) (cf := 300) (d := 20) (opn := []) (cls := []) (Lone_ok (lj_ok rfl rfl rfl HOk5.h16)) (fun _ _ h => by cases h) CI_ok noT_ok rfl rfl (by kernel_rfl)
def lcNear : LC := lcNear1 (.ap 4 (.v 0))
theorem nearOk : lcNear.Ok Tryz.prog 12 := by
  refine near1.conv rfl rfl rfl fun ds hl hf ha => ⟨hf, ha, ?_, rfl⟩
  obtain ⟨L, rfl⟩ : ∃ L, ds = [L] := by
    match ds, hl with
    | [a], _ => exact ⟨a, rfl⟩
  obtain ⟨a', h, hq⟩ := near_fix (a := .i 0) (L := L) (d := .p (.i 0) L) rfl (Int.le_refl _)
  have h : [fixD cond16 next16 1 (.p (.i 0) L)] = [a'] := h
  simp only [List.cons.injEq, and_true] at h
  show Value.bool (bif decide (60 < ((L.toR.length : Nat) : Int)) then false else !decide ((Fam.Φ 16 (.p (.i 0) L)).toI < ((L.toR.length : Nat) : Int))) = Value.bool (Fam.Φ 4 L).toB
  rw [HOk5.h4, HOk5.h16, h, hq]
  show Value.bool (bif decide (60 < ((L.toR.length : Nat) : Int)) then false else !decide (((farF L.toR (L.toR.length - 0) 0 : Nat) : Int) < ((L.toR.length : Nat) : Int))) = Value.bool (nearL L.toR)
  unfold nearL
  congr 1
  rw [Nat.sub_zero]
  by_cases h6 : 60 < L.toR.length
  · rw [decide_eq_true (by omega : (60 : Int) < ((L.toR.length : Nat) : Int)), decide_eq_false (by omega : ¬ L.toR.length ≤ 60)]; rfl
  · rw [decide_eq_false (by omega : ¬ (60 : Int) < ((L.toR.length : Nat) : Int)), decide_eq_true (by omega : L.toR.length ≤ 60), cond_false, Bool.true_and, Bool.eq_iff_iff]
    simp only [Bool.not_eq_true', decide_eq_false_iff_not, decide_eq_true_eq]
    omega
end Go.Proofs.YtmjapmghihalpaaGreat
