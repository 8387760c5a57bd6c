/-
  Names, counted. Conditions: none.
-/
import Derived.Test.YtjcpcnoakphecaaDoorOpN
set_option linter.unusedSectionVars false
set_option linter.unusedVariables false
set_option linter.unusedSimpArgs false
namespace Go.Proofs.YtjcpcnoakphecaaDoor
open Go Go.AE Go.SX Go.RowKit Go.Sort
set_option maxRecDepth 1000000
/-! Plain. -/
def padN : List (List UInt8) := namesL ++ List.replicate (sortedN.length - namesL.length) []
def rowsN : List (List A) := padN.map fun s => [.s s]
def nmN (k : Nat) : List UInt8 := padN.getD k []
def cntN (s : List UInt8) (k : Nat) : Nat := ((namesL.take k).filter fun x => eqBs x s).length
def knB (s : List UInt8) (k : Nat) : Bool := (List.range k).any fun j => (opR j).known && eqBs (opR j).name s
def NmP (nm s : List UInt8) (i met some_ : Int) : Prop := 0 ≤ i ∧ i ≤ 117 ∧ met = (cntN nm i.toNat : Nat) ∧ some_ = (cntN s i.toNat : Nat)
def KnP (s : List UInt8) (i : Int) (known : Bool) : Prop := 0 ≤ i ∧ i ≤ 256 ∧ known = knB s i.toNat
section
variable [Fam]
theorem namesL_len : namesL.length = 117 := by kernel_rfl
theorem eqBs_iff (a b : List UInt8) : eqBs a b = (a == b) := eqBs_beq a b
theorem nmN_at {k : Nat} (h : k < 117) : nmN k = namesL.getD k [] := by
  have h' : k < namesL.length := by rw [namesL_len]; exact h
  unfold nmN padN
  rw [List.getD_eq_getElem?_getD, List.getD_eq_getElem?_getD, List.getElem?_append_left h']
theorem cntN_succ (s : List UInt8) {k : Nat} (h : k < 117) : cntN s (k + 1) = cntN s k + (bif nmN k == s then 1 else 0) := by
  have h' : k < namesL.length := by rw [namesL_len]; exact h
  unfold cntN
  rw [nmN_at h, List.take_add_one, List.getElem?_eq_getElem h', List.getD_eq_getElem?_getD, List.getElem?_eq_getElem h', List.filter_append, List.length_append]
  congr 1
  show (List.filter (fun x => eqBs x s) [namesL[k]]).length = bif namesL[k] == s then 1 else 0
  rw [List.filter_cons, eqBs_iff]
  cases namesL[k] == s <;> rfl
theorem knB_succ (s : List UInt8) (k : Nat) : knB s (k + 1) = (knB s k || ((opR k).known && (opR k).name == s)) := by
  unfold knB
  rw [List.range_succ, List.any_append, ← eqBs_iff]
  simp
end
/-- Rising: each below the next. -/
def risesN : Bool := (List.range 116).all fun k => bltB (nmN k) (nmN (k + 1))
section
variable [Fam]
theorem risesN_ok : risesN = true := by kernel_rfl
theorem rise_at {k : Nat} (h0 : 0 < k) (h : k < 117) : Op.bytesLess (nmN (k - 1)) (nmN k) = true := by
  have := List.all_eq_true.1 risesN_ok (k - 1) (List.mem_range.2 (by omega))
  rw [bltB_eq] at this
  have e : k - 1 + 1 = k := by omega
  rw [e] at this
  exact this
theorem cnt_names : (List.range 256).all (fun b => Nat.beq (cntN (opR b).name 117) 1) = true := by kernel_rfl
theorem cnt_name (b : Nat) (hb : b < 256) : cntN (opR b).name 117 = 1 := Nat.eq_of_beq_eq_true (List.all_eq_true.1 cnt_names b (List.mem_range.2 hb))
end
/-- A name that is known stands among the names, and no other. -/
def memN (s : List UInt8) : Bool := namesL.any fun x => eqBs x s
section
variable [Fam]
theorem each_once : namesL.all (fun x => Nat.beq (cntN x 117) 1) = true := by kernel_rfl
theorem names_kn : namesL.all (fun x => knB x 256) = true := by kernel_rfl
theorem kn_names : (List.range 256).all (fun j => !(opR j).known || memN (opR j).name) = true := by kernel_rfl
theorem cnt_cases (s : List UInt8) : (cntN s 117 = 1 ∧ knB s 256 = true) ∨ (cntN s 117 = 0 ∧ knB s 256 = false) := by
  by_cases h : s ∈ namesL
  · exact .inl ⟨Nat.eq_of_beq_eq_true (List.all_eq_true.1 each_once s h), List.all_eq_true.1 names_kn s h⟩
  · refine .inr ⟨?_, ?_⟩
    · unfold cntN
      rw [List.take_of_length_le (by rw [namesL_len]; omega), List.length_eq_zero_iff, List.filter_eq_nil_iff]
      intro x hx hq
      exact h (eqBs_eq hq ▸ hx)
    · cases hk : knB s 256 with
      | false => rfl
      | true =>
        unfold knB at hk
        obtain ⟨j, hj, hq⟩ := List.any_eq_true.1 hk
        rw [Bool.and_eq_true] at hq
        have h1 := List.all_eq_true.1 kn_names j hj
        rw [hq.1] at h1
        have h1 : memN (opR j).name = true := by simpa using h1
        obtain ⟨x, hx, hxq⟩ := List.any_eq_true.1 h1
        exact (h (by rw [← eqBs_eq hq.2, ← eqBs_eq hxq]; exact hx)).elim
end
end Go.Proofs.YtjcpcnoakphecaaDoor
