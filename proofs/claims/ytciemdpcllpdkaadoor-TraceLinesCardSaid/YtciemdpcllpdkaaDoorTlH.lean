/-
  Conditions, for contracts by loops. Conditions: none.
-/
import Derived.Test.YtciemdpcllpdkaaDoorTlB
set_option linter.unusedSectionVars false
set_option linter.unusedVariables false
set_option linter.unusedSimpArgs false
namespace Go.Proofs.YtciemdpcllpdkaaDoor
open Go Go.AE Go.SX Go.RowKit
set_option maxRecDepth 1000000
def noT : Tms := fun _ => none
theorem noT_ok : TmsOk Tryd.prog noT := fun _ _ h => by cases h
def impS (a b : X) : X := .u .not (.o .and a (.u .not b))
theorem impS_ok {a b : X} {e : En} (h : a.B e = true → b.B e = true) : (impS a b).B e = true := by
  show (!(a.B e && !b.B e)) = true
  cases ha : a.B e with
  | false => rfl
  | true => rw [h ha]; rfl
theorem and_B {a b : X} {e : En} (h1 : a.B e = true) (h2 : b.B e = true) : (X.o .and a b).B e = true := by
  show (a.B e && b.B e) = true
  rw [h1, h2]; rfl
theorem and_out {a b : X} {e : En} (h : (X.o .and a b).B e = true) : a.B e = true ∧ b.B e = true := by
  have h : (a.B e && b.B e) = true := h
  rwa [Bool.and_eq_true] at h
theorem not_out {a : X} {e : En} (h : (X.u .not a).B e = true) : a.B e = false := by
  have h : (!a.B e) = true := h
  cases ha : a.B e with
  | false => rfl
  | true => rw [ha] at h; cases h
theorem lt_out {a b : X} {e : En} (h : (X.o .lt a b).B e = true) : a.I e < b.I e := of_decide_eq_true h
theorem nlt_out {a b : X} {e : En} (h : (X.u .not (.o .lt a b)).B e = true) : ¬ a.I e < b.I e := of_decide_eq_false (not_out h)
theorem nlt_in {a b : X} {e : En} (h : ¬ a.I e < b.I e) : (X.u .not (.o .lt a b)).B e = true := by
  show (!decide (a.I e < b.I e)) = true
  rw [decide_eq_false h]; rfl
theorem seq_in {a b : X} {e : En} (h : a.S e = b.S e) : (X.o .seq a b).B e = true := by
  show (a.S e == b.S e) = true
  rw [h]; exact beq_self_eq_true _
theorem eq_in {a b : X} {e : En} (h : a.I e = b.I e) : (X.o .eq a b).B e = true := decide_eq_true h
def eq2 (a b : X) : X := .o .and (.o .eq a b) (.o .eq b a)
theorem eq2_in {a b : X} {e : En} (h : a.I e = b.I e) : (eq2 a b).B e = true := and_B (eq_in h) (eq_in h.symm)
def lenX' (x : X) : X := .u .len x
def seq2 (a b : X) : X := .o .and (.o .and (.o .seq a b) (.o .seq b a)) (.o .and (.o .eq (.u .len a) (.u .len b)) (.o .eq (.u .len b) (.u .len a)))
theorem seq2_in {a b : X} {e : En} (h : a.S e = b.S e) : (seq2 a b).B e = true := by
  have h1 : (X.u .len a).I e = (X.u .len b).I e := by show ((((a.S e).length : Nat) : Int)) = (((b.S e).length : Nat) : Int); rw [h]
  exact and_B (and_B (seq_in h) (seq_in h.symm)) (and_B (eq_in h1) (eq_in h1.symm))
def AllB (l : List X) : Prop := ∀ x ∈ l, ∀ e : En, x.B e = true
theorem allB0 : AllB [] := fun _ h => by cases h
theorem allB1 {x : X} {l : List X} (h : ∀ e : En, x.B e = true) (hl : AllB l) : AllB (x :: l) := fun y hy => by
  rcases List.mem_cons.1 hy with rfl | hy
  · exact h
  · exact hl y hy
def loop1 (b : Nat) (inv ms : X) : Nat → Option LJ := fun n => bif Nat.beq n b then some ⟨inv, ms, none⟩ else none
theorem loop1_ok {b : Nat} {inv ms : X} : ∀ n li g, loop1 b inv ms n = some li → li.fn = some g → IsLoop g := fun n li g hl hg => by
  unfold loop1 at hl
  cases h : Nat.beq n b with
  | true => rw [h] at hl; cases hl; cases hg
  | false => rw [h] at hl; cases hl
def lem1 (b : Nat) (l : List X) : Nat → List X := fun n => bif Nat.beq n b then l else []
theorem lem1_ok {b : Nat} {l : List X} (h : AllB l) : ∀ n, ∀ x ∈ lem1 b l n, ∀ e : En, x.B e = true := fun n x hx => by
  unfold lem1 at hx
  cases hb : Nat.beq n b with
  | false => rw [hb] at hx; cases hx
  | true => rw [hb] at hx; exact h x hx
noncomputable def lcTabT (l : List (FuncId × List LC)) : List (FuncId × CallF) := l.map fun p => (p.1, conCall (conSm (conAlt (p.2.map (conG 12 T)))))
theorem lcTabT_all {T' : Tab Tryd.prog} {l : List (FuncId × List LC)} (h : ∀ p ∈ l, ∀ c ∈ p.2, c.ok = true ∧ c.Ok Tryd.prog p.1) : ∀ p ∈ lcTabT l, ConOk T' p.1 p.2 := fun p hp => by
  obtain ⟨q, hq, rfl⟩ := List.mem_map.1 hp
  refine Con.ok (Con.sm (Con.alt fun f hf => ?_))
  obtain ⟨c, hc, rfl⟩ := List.mem_map.1 hf
  exact conG_ok (h q hq c hc).1 (h q hq c hc).2
theorem one_lcT {c : LC} {f : FuncId} (h1 : c.ok = true) (h : c.Ok Tryd.prog f) : ∀ c' ∈ [c], c'.ok = true ∧ c'.Ok Tryd.prog f := all_cons' ⟨h1, h⟩ all_nil'
theorem eq_out {a b : X} {e : En} (h : (X.o .eq a b).B e = true) : a.I e = b.I e := of_decide_eq_true h
def rgX (x : X) (a b : Int) : X := .o .and (.u .not (.o .lt x (.i a))) (.u .not (.o .lt (.i b) x))
theorem rgX_ok {e : En} {x : X} {a b : Int} (h0 : a ≤ x.I e) (h1 : x.I e ≤ b) : (rgX x a b).B e = true := and_B (nlt_in (by show ¬ x.I e < a; omega)) (nlt_in (by show ¬ b < x.I e; omega))
theorem or_B {a b : X} {e : En} (h : a.B e = true ∨ b.B e = true) : (X.o .or a b).B e = true := by
  show (a.B e || b.B e) = true
  rcases h with h | h <;> rw [h] <;> simp
theorem or_out {a b : X} {e : En} (h : (X.o .or a b).B e = true) : a.B e = true ∨ b.B e = true := by
  have h : (a.B e || b.B e) = true := h
  rwa [Bool.or_eq_true] at h
theorem not_in {a : X} {e : En} (h : a.B e = false) : (X.u .not a).B e = true := by
  show (!a.B e) = true
  rw [h]; rfl
def fewS (x : X) (n : Int) : Fact := ⟨.u .len x, ⟨some 0, some n⟩⟩
def byS (x : X) : Option SBlk := some ⟨.by x, 5, true, false⟩
def slV (n : X) : SV := .z (.sl 0 (.i 0) 0 0 n n)
end Go.Proofs.YtciemdpcllpdkaaDoor
