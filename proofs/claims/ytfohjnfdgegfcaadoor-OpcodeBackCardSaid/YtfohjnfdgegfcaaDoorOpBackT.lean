/-
  The law OpcodeBack at every byte. Conditions: none.
-/
import Derived.Test.YtfohjnfdgegfcaaDoorOpHead
import Derived.Test.YtfohjnfdgegfcaaDoorLogI
namespace Go.Proofs.YtfohjnfdgegfcaaDoor
open Go Go.AE
set_option maxRecDepth 100000
set_option linter.unusedSimpArgs false
set_option maxHeartbeats 1000000
abbrev frK (b fb i : Nat) : List Value := [By b, topV, topV, .pointer (some ⟨0, 0, none⟩), By fb, .bool true, .int .i64 ((upto i).length : Nat), .int .i64 (i : Nat)] ++ List.replicate 48 topV
theorem f12 (b md z c fb : Nat) (kn : Bool) (nm : List UInt8)
    (h33 : ∀ m, ACall Tryd.prog 33 [] m fun v m' => v = .bool true ∧ m' = m)
    (h34 : ∀ m, ACall Tryd.prog 34 [By b] m fun v m' => v = .agg ⟨[S nm, By md, In z, In c]⟩ ∧ m' = m)
    (h36 : ∀ m, ACall Tryd.prog 36 [S nm, By md] m fun v m' => v = .tuple ⟨[By fb, .bool true]⟩ ∧ m' = m)
    (h35b : ∀ m, ACall Tryd.prog 35 [By b] m fun v m' => v = .bool kn ∧ m' = m)
    (h35 : ∀ i : Nat, i < 256 → ∀ m, ACall Tryd.prog 35 [.int .u8 (i : Nat)] m fun v m' => v = .bool (opR i).known ∧ m' = m)
    (hk : kn = true → fb = b) (hu : kn = false → fb = 234 ∧ z = 1) :
    ACall Tryd.prog 12 [By b] [] fun v _ => v = .bool true := by
  refine ACall.of_evR T 100 Tryd.func12 rfl ?_
  refine (h33 _).mono ?_
  rintro v m' ⟨rfl, rfl⟩
  refine br_f rfl ?_
  refine (h34 _).mono ?_
  rintro v m' ⟨rfl, rfl⟩
  refine And.intro rfl ?_
  refine ⟨_, rfl, ⟨_, rfl, ?_⟩⟩
  refine (h36 _).mono ?_
  rintro v m' ⟨rfl, rfl⟩
  refine ⟨_, rfl, ⟨_, rfl, ?_⟩⟩
  refine AWp.loopR T 100 (fun k a m' => ∃ i, k = 256 - i ∧ i ≤ 256 ∧ a = frK b fb i ∧ m' = [some ⟨[S nm, By md, In z, In c], 59, true, true⟩]) 256 ⟨frK b fb 0, _, Sees.to ?_, 0, rfl, by omega, rfl, rfl⟩ ?_
  · repeat (first | exact F2.nil | refine F2.cons (Or.inl rfl) ?_ | refine F2.cons (Or.inr rfl) ?_)
  rintro k a m' ⟨i, rfl, hi, rfl, rfl⟩
  refine And.intro (fun hc => ?_) (fun hc => ?_)
  · have hi' : i < 256 := by
      have := of_decide_eq_true hc
      omega
    have hw : IntKind.i64.wrap ((i : Int) + 1) = ((i + 1 : Nat) : Int) := wrap_i64 (by omega) (by omega)
    have hw8 : IntKind.u8.wrap (i : Int) = (i : Nat) := IntWalk.u8_in _ (by omega)
    have hl := upto_len i
    have c35 : ∀ m, ACall Tryd.prog 35 [.int .u8 (IntKind.u8.wrap (i : Int))] m fun v m' => v = .bool (opR i).known ∧ m' = m := by rw [hw8]; exact h35 i hi'
    refine (c35 _).mono ?_
    rintro v m' ⟨rfl, rfl⟩
    refine And.intro (fun hy => ?_) (fun hy => ?_)
    · have hn : IntKind.i64.wrap (((upto i).length : Nat) + 1) = ((upto (i + 1)).length : Nat) := by
        rw [upto_yes hy, List.length_append]
        exact wrap_i64 (by omega) (by omega)
      refine ⟨256 - (i + 1), frK b fb (i + 1), _, by omega, Sees.to ?_, i + 1, rfl, by omega, rfl, rfl⟩
      repeat (first | exact F2.nil | refine F2.cons (Or.inl rfl) ?_ | refine F2.cons (Or.inr rfl) ?_ | refine F2.cons (Or.inr (congrArg (Value.int .i64) hw.symm)) ?_ | refine F2.cons (Or.inr (congrArg (Value.int .i64) hn.symm)) ?_)
    · have hn : upto (i + 1) = upto i := upto_no hy
      refine ⟨256 - (i + 1), frK b fb (i + 1), _, by omega, Sees.to ?_, i + 1, rfl, by omega, rfl, rfl⟩
      rw [frK, hn]
      repeat (first | exact F2.nil | refine F2.cons (Or.inl rfl) ?_ | refine F2.cons (Or.inr rfl) ?_ | refine F2.cons (Or.inr (congrArg (Value.int .i64) hw.symm)) ?_)
  · have hi' : i = 256 := by
      have := of_decide_eq_false hc
      omega
    subst hi'
    refine (h35b _).mono ?_
    rintro v m' ⟨rfl, rfl⟩
    have h0 : ((((upto 256).length : Nat) : Int) == 234) = true := by rw [count]; rfl
    cases kn with
    | false =>
      obtain ⟨rfl, rfl⟩ := hu rfl
      refine br_t rfl ?_
      refine br_t rfl ?_
      refine br_t rfl (br_t rfl ?_)
      refine ⟨_, rfl, ?_⟩
      refine br_t rfl ?_
      refine br_t rfl (br_t rfl ?_)
      exact ⟨_, rfl, by simp [count]⟩
    | true =>
      obtain rfl := hk rfl
      refine br_f rfl ?_
      have hb : (Int.ofNat fb == Int.ofNat fb) = true := by simp
      refine br_t rfl (br_t rfl (br_t rfl ?_))
      refine br_t (by simp) (br_t (by simp) ?_)
      exact ⟨_, rfl, by simp [count]⟩
theorem eqBs_refl : ∀ l : List UInt8, eqBs l l = true
  | [] => rfl
  | x :: l => by simp [eqBs, beqB_eq, eqBs_refl l]
abbrev OpT := Nat × List UInt8 × Nat × Nat × Nat × Bool
def clash (p q : OpT) : Bool := p.2.2.2.2.2 && (q.2.2.2.2.2 && (Nat.beq p.2.2.1 q.2.2.1 && eqBs p.2.1 q.2.1))
def apart : List OpT → Bool
  | [] => true
  | p :: l => l.all (fun q => !(clash p q)) && apart l
theorem apartO : apart opsO = true := by kernel_rfl
theorem apart_get : ∀ (l : List OpT), apart l = true → ∀ (i j : Nat) (p q : OpT), i < j → l[i]? = some p → l[j]? = some q → clash p q = false
  | [], _, i, j, p, q, _, h, _ => by simp at h
  | x :: l, h, i, j, p, q, hij, hi, hj => by
    simp only [apart, Bool.and_eq_true, List.all_eq_true, Bool.not_eq_true'] at h
    cases j with
    | zero => omega
    | succ j =>
      simp only [List.getElem?_cons_succ] at hj
      cases i with
      | zero =>
        simp only [List.getElem?_cons_zero, Option.some.injEq] at hi
        subst hi
        exact h.1 q (List.mem_of_getElem? hj)
      | succ i =>
        simp only [List.getElem?_cons_succ] at hi
        exact apart_get l h.2 i j p q (by omega) hi hj
theorem opR_get (b : Nat) (hb : b < 256) : ∃ p, opsO[b]? = some p ∧ (opR b).name = p.2.1 ∧ (opR b).mode = p.2.2.1 ∧ (opR b).known = p.2.2.2.2.2 := by
  have hlen : opsO.length = 256 := by simpa using congrArg List.length ix
  have hb' : b < opsO.length := by omega
  exact ⟨opsO[b], List.getElem?_eq_getElem hb', by simp [opR, List.getElem?_eq_getElem hb'], by simp [opR, List.getElem?_eq_getElem hb'], by simp [opR, List.getElem?_eq_getElem hb']⟩
theorem back_yes (b : Nat) (hb : b < 256) (hk : (opR b).known = true) (m : Mem) : ACall Tryd.prog 36 [S (opR b).name, .int .u8 ((opR b).mode : Nat)] m fun v m' => v = .tuple ⟨[.int .u8 (b : Nat), .bool true]⟩ ∧ m' = m := by
  refine find_yes hb (by simp [hitK, hits, hk]) (fun j hj => ?_) m
  cases h : hitK (opR b).name (opR b).mode j with
  | false => rfl
  | true =>
    simp only [hitK, hits, Bool.and_eq_true, beq_iff_eq] at h
    obtain ⟨h1, h2, h3⟩ := h
    obtain ⟨p, hp, p1, p2, p3⟩ := opR_get j (by omega)
    obtain ⟨q, hq, q1, q2, q3⟩ := opR_get b hb
    have := apart_get opsO apartO j b p q hj hp hq
    unfold clash at this
    rw [← p3, ← q3, h1, hk, ← p2, ← q2, h3, ← p1, ← q1, h2, eqBs_refl] at this
    simp at this
theorem noneT : (opsO.all fun p => p.2.2.2.2.2 || (eqBs p.2.1 [78, 79, 80] && (Nat.beq p.2.2.1 0 && Nat.beq p.2.2.2.1 1))) = true := by kernel_rfl
def NOP : List UInt8 := [78, 79, 80]
theorem back_no (m : Mem) : ACall Tryd.prog 36 [S NOP, .int .u8 ((0 : Nat) : Int)] m fun v m' => v = .tuple ⟨[.int .u8 ((234 : Nat) : Int), .bool true]⟩ ∧ m' = m :=
  find_yes (nm := NOP) (md := 0) (k := 234) (by omega) (by kernel_rfl) (all_lt (by kernel_rfl)) m
theorem all12 (b : Nat) (hb : b < 256) : ACall Tryd.prog 12 [By b] [] fun v _ => v = .bool true := by
  have z : ∀ {f : FuncId} {aa : List Value} {v : Value}, EntIs Tryd.prog f ⟨aa, v, []⟩ → plainC v = true → ∀ m, ACall Tryd.prog f aa m fun x m' => x = v ∧ m' = m := fun h hv m => (h m).mono fun x m' ⟨h1, h2⟩ => ⟨by rw [h1]; exact ren_plain _ hv, by rw [h2]; show m ++ [] = m; simp⟩
  have h35 : ∀ i : Nat, i < 256 → ∀ m, ACall Tryd.prog 35 [.int .u8 (i : Nat)] m fun v m' => v = .bool (opR i).known ∧ m' = m := fun i hi => z (of35 i hi) rfl
  cases hk : (opR b).known with
  | true => exact f12 b (opR b).mode (opR b).size (opR b).cycles b true (opR b).name (z (ok33 _ List.mem_cons_self) rfl) (z (of34 b hb) rfl) (back_yes b hb hk) (by have := h35 b hb; rw [hk] at this; exact this) h35 (fun _ => rfl) (fun h => by cases h)
  | false =>
    have hm := List.all_eq_true.1 noneT _ (opAt b hb)
    simp only [hk, Bool.false_or, Bool.and_eq_true] at hm
    have e1 := eqBs_eq hm.1
    have e2 := Nat.eq_of_beq_eq_true hm.2.1
    have e3 := Nat.eq_of_beq_eq_true hm.2.2
    exact f12 b (opR b).mode (opR b).size (opR b).cycles 234 false (opR b).name (z (ok33 _ List.mem_cons_self) rfl) (z (of34 b hb) rfl) (by rw [e1, e2]; exact back_no) (by have := h35 b hb; rw [hk] at this; exact this) h35 (fun h => by cases h) (fun _ => ⟨rfl, e3⟩)
end Go.Proofs.YtfohjnfdgegfcaaDoor
