/-
  An abstract logic for the model (part 3): how frames and memories look, evaluated by functions. Conditions: none.
-/
import Derived.Test.YtfohjnfdgegfcaaDoorAe2
namespace Go.AE

/-- What the evaluator must know of a type. -/
structure TI where
  size : Nat
  bytes : Nat
  zero : Option Value

/-- The program's tables, as far as they were written out. -/
structure Tab (P : Program) where
  und : TypeId → Option TypeDesc
  inf : TypeId → Option TI
  fn : FuncId → Bool
  mixed : P.follows .mixedOrders = true
  plainEq : TypeId → Bool
  plainEq_ok : ∀ t, plainEq t = true → P.eqGuardType P.depth t = false ∧ P.stoodInHeld t = false
  und_ok : ∀ t d, und t = some d → P.underlying t = some d
  inf_ok : ∀ t x, inf t = some x → ∃ i, P.info? t = some i ∧ i.size = x.size ∧ i.bytes = x.bytes ∧ i.zero = x.zero
  fn_ok : ∀ f, fn f = true → ∃ d c, P.funcs[f]? = some d ∧ (d.name == "runtime.NumGoroutine") = false ∧ d.body = some c

variable {P : Program}

theorem run_typeInfo {t : TypeId} {i : TypeInfo} (h : P.info? t = some i) (w : World) : (typeInfo t).run P w = .ok i w := by
  simp [typeInfo, program, Sem.run, h, bind, Sem.bind, pure]
theorem Tab.run_und (T : Tab P) {t : TypeId} {d : TypeDesc} (h : T.und t = some d) (w : World) : (underlying t).run P w = .ok d w := run_underlying (T.und_ok t d h) w
theorem Tab.run_size (T : Tab P) {t : TypeId} {x : TI} (h : T.inf t = some x) (w : World) : (sizeOf t).run P w = .ok x.size w := by
  obtain ⟨i, hi, hs, _⟩ := T.inf_ok t x h
  simp [sizeOf, run_typeInfo hi, hs]
theorem Tab.run_zero (T : Tab P) {t : TypeId} {x : TI} {v : Value} (h : T.inf t = some x) (hz : x.zero = some v) (w : World) : (zeroValue t).run P w = .ok v w := by
  obtain ⟨i, hi, _, _, hz'⟩ := T.inf_ok t x h
  simp [zeroValue, run_typeInfo hi, hz', hz]
theorem Tab.cellsOf (T : Tab P) {t : TypeId} {x : TI} (h : T.inf t = some x) : P.cellsOf t = x.size := by
  obtain ⟨i, hi, hs, _⟩ := T.inf_ok t x h
  simp [Program.cellsOf, hi, hs]
def isAggD : TypeDesc → Bool
  | .struct _ | .array _ _ => true
  | _ => false
theorem Tab.run_isAgg (T : Tab P) {t : TypeId} {d : TypeDesc} (h : T.und t = some d) (w : World) : (isAgg t).run P w = .ok (isAggD d) w := by
  simp only [isAgg, Sem.run_bind, T.run_und h, Result.andThen_ok]
  cases d <;> rfl

/-- Two operands of one integer kind. -/
def intBin (op : BinOp) (k : IntKind) (x y : Int) : Option (List Bool × Value) :=
  match op with
  | .add => some ([], .int k (k.wrap (x + y)))
  | .sub => some ([], .int k (k.wrap (x - y)))
  | .mul => some ([], .int k (k.wrap (x * y)))
  | .quo => some ([y != 0], .int k (k.wrap (x.tdiv y)))
  | .rem => some ([y != 0], .int k (x.tmod y))
  | .and => some ([], .int k (bits .and k x y))
  | .or => some ([], .int k (bits .or k x y))
  | .xor => some ([], .int k (bits .xor k x y))
  | .andNot => some ([], .int k (bits .andNot k x y))
  | .eql => some ([], .bool (x == y))
  | .neq => some ([], .bool (x != y))
  | .lss => some ([], .bool (x < y))
  | .leq => some ([], .bool (x ≤ y))
  | .gtr => some ([], .bool (x > y))
  | .geq => some ([], .bool (x ≥ y))
  | .shl => some ([decide (0 ≤ y)], .int k (k.wrap (x * 2 ^ (min y.toNat k.bits))))
  | .shr => some ([decide (0 ≤ y)], .int k (x.fdiv (2 ^ (min y.toNat k.bits))))

theorem intBin_ok {op : BinOp} {k : IntKind} {x y : Int} {cs : List Bool} {v : Value} (h : intBin op k x y = some (cs, v)) (hc : ∀ c ∈ cs, c = true) (t : TypeId) (W : World) :
    (binOp op t (.int k x) (.int k y)).run P W = .ok v W := by
  cases op <;> simp only [intBin, Option.some.injEq, Prod.mk.injEq] at h <;> obtain ⟨rfl, rfl⟩ := h <;>
    simp only [List.mem_cons, List.not_mem_nil, or_false, forall_eq, bne_iff_ne, decide_eq_true_eq] at hc <;>
    first
      | rfl
      | (simp [binOp, Op.intArith]; done)
      | (simp [binOp, Op.intDiv, hc]; done)
      | (simp [binOp, intBits_and, intBits_or, intBits_xor, intBits_andNot]; done)
      | (simp [binOp, Op.intCmp]; done)
      | (simp [binOp, Op.shift, Int.not_lt.2 hc]; done)

theorem intBin_int {op : BinOp} {k : IntKind} {x y : Int} {cs : List Bool} {v : Value} (h : intBin op k x y = some (cs, v)) (g : List (Option GB)) : VR g v v := by
  cases op <;> simp only [intBin, Option.some.injEq, Prod.mk.injEq] at h <;> obtain ⟨rfl, rfl⟩ := h <;> first | exact .s (.int _ _) | exact .s (.bool _)

/-- Two strings. -/
def strBin (op : BinOp) (x y : ByteArray) : Option (List Bool × Value) :=
  match op with
  | .add => some ([decide (x.data.size + y.data.size ≤ 9223372036854775807)], .string ⟨x.data ++ y.data⟩)
  | .eql => some ([], .bool (x.data.toList == y.data.toList))
  | .neq => some ([], .bool !(x.data.toList == y.data.toList))
  | .lss => some ([], .bool (Op.bytesLess x.data.toList y.data.toList))
  | .leq => some ([], .bool (Op.bytesLess x.data.toList y.data.toList || x.data.toList == y.data.toList))
  | .gtr => some ([], .bool !(Op.bytesLess x.data.toList y.data.toList || x.data.toList == y.data.toList))
  | .geq => some ([], .bool !(Op.bytesLess x.data.toList y.data.toList))
  | _ => none

theorem strBin_ok {op : BinOp} {x y : ByteArray} {cs : List Bool} {v : Value} (h : strBin op x y = some (cs, v)) (hc : ∀ c ∈ cs, c = true) (t : TypeId) (W : World) :
    (binOp op t (.string x) (.string y)).run P W = .ok v W := by
  have e : binOp op t (.string x) (.string y) = Op.stringOp op x y := by cases op <;> rfl
  have hx := ByteArray.toList_eq x
  have hy := ByteArray.toList_eq y
  rw [e]
  cases op <;> simp only [strBin, Option.some.injEq, Prod.mk.injEq, reduceCtorEq] at h <;> obtain ⟨rfl, rfl⟩ := h <;>
    simp only [List.mem_cons, List.not_mem_nil, or_false, forall_eq, decide_eq_true_eq] at hc <;> simp only [Op.stringOp, hx, hy]
  case add =>
    have h1 : ¬ ((x.size + y.size : Nat) : Int) > IntKind.i64.max := by
      rw [IntKind.max_i64]
      show ¬ ((x.data.size + y.data.size : Nat) : Int) > 9223372036854775807
      omega
    rw [if_neg h1]
    have : (x ++ y : ByteArray) = ⟨x.data ++ y.data⟩ := by apply ByteArray.ext; simp
    rw [this]; rfl
  all_goals rfl

theorem strBin_str {op : BinOp} {x y : ByteArray} {cs : List Bool} {v : Value} (h : strBin op x y = some (cs, v)) (g : List (Option GB)) : VR g v v := by
  cases op <;> simp only [strBin, Option.some.injEq, Prod.mk.injEq, reduceCtorEq] at h <;> obtain ⟨rfl, rfl⟩ := h <;> first | exact .s (.str _) | exact .s (.bool _)

/-- '==' and '!=' on values that are no numbers and no strings; 'd': what their type is. -/
def eqBin (d : TypeDesc) (x y : Value) : Option Bool :=
  match d, x, y with
  | .bool, .bool a, .bool b => some (a == b)
  | .pointer _, .pointer none, .pointer none => some true
  | .pointer _, .pointer none, .pointer (some _) => some false
  | .pointer _, .pointer (some _), .pointer none => some false
  | .slice _, .slice none _ _, .slice none _ _ => some true
  | .slice _, .slice none _ _, .slice (some _) _ _ => some false
  | .slice _, .slice (some _) _ _, .slice none _ _ => some false
  | .func _ _ _, .nilFunc, .nilFunc => some true
  | .func _ _ _, .nilFunc, .func _ _ _ => some false
  | .func _ _ _, .func _ _ _, .nilFunc => some false
  | _, _, _ => none

theorem eqBin_in {T : Tab P} {g : List (Option GB)} {t : TypeId} {d : TypeDesc} (ht : T.und t = some d) {x y x' y' : Value} {r : Bool} (h : eqBin d x y = some r) (hx : VR g x x') (hy : VR g y y') (n : Nat) (W : World) :
    (Op.equalIn (n + 1) t x' y').run P W = .ok r W := by
  have hu := T.run_und ht W
  unfold Op.equalIn
  unfold eqBin at h
  split at h <;> simp only [Option.some.injEq, reduceCtorEq] at h <;> subst h
  all_goals
    cases hx with
    | a hx => cases hx with
      | s hx => cases hy with
        | a hy => cases hy with
          | s hy => cases hx <;> cases hy <;> simp only [Sem.run_bind, hu, Result.andThen_ok] <;> rfl

theorem eqBin_ok {T : Tab P} {g : List (Option GB)} {t : TypeId} {d : TypeDesc} (ht : T.und t = some d) {x y x' y' : Value} {r : Bool} (h : eqBin d x y = some r) (hx : VR g x x') (hy : VR g y y') (W : World) :
    (Op.equal t x' y').run P W = .ok r W := eqBin_in ht h hx hy 9999 W

/-- A binary operator, on values whatever. -/
def aBin (op : BinOp) (d : Option TypeDesc) (x y : Value) : Option (List Bool × Value) :=
  match x, y with
  | .int k a, .int k' b =>
    match op with
    | .shl => some ([decide (0 ≤ b)], .int k (k.wrap (a * 2 ^ (min b.toNat k.bits))))
    | .shr => some ([decide (0 ≤ b)], .int k (a.fdiv (2 ^ (min b.toNat k.bits))))
    | op => if k = k' then intBin op k a b else none
  | .string a, .string b => strBin op a b
  | x, y =>
    match op, d with
    | .eql, some d => (eqBin d x y).map fun r => ([], .bool r)
    | .neq, some d => (eqBin d x y).map fun r => ([], .bool !r)
    | _, _ => none

theorem SR.inv_int {g : List (Option GB)} {k : IntKind} {n : Int} {v : Value} (h : VR g (.int k n) v) : v = .int k n := by
  cases h with
  | a h => cases h with
    | s h => cases h; rfl
theorem SR.inv_str {g : List (Option GB)} {s : ByteArray} {v : Value} (h : VR g (.string s) v) : v = .string s := by
  cases h with
  | a h => cases h with
    | s h => cases h; rfl
theorem SR.inv_bool {g : List (Option GB)} {b : Bool} {v : Value} (h : VR g (.bool b) v) : v = .bool b := by
  cases h with
  | a h => cases h with
    | s h => cases h; rfl

theorem eqGuard_of {d : TypeDesc} {x y x' y' : Value} {r : Bool} {g : List (Option GB)} (h : eqBin d x y = some r) (hx : VR g x x') (op : BinOp) (t : TypeId) (u v : Operand) : eqGuard op t u v x' y' = pure () := by
  unfold eqBin at h
  split at h <;> simp only [Option.some.injEq, reduceCtorEq] at h
  all_goals
    cases hx with
    | a hx => cases hx with
      | s hx => cases hx <;> simp only [eqGuard_at_bool, eqGuard_at_pointer, eqGuard_at_slice, eqGuard_at_func, eqGuard_at_nilFunc]

theorem binOp_eql_of {d : TypeDesc} {x y x' y' : Value} {r : Bool} {g : List (Option GB)} (h : eqBin d x y = some r) (hx : VR g x x') (hy : VR g y y') (t : TypeId) :
    binOp .eql t x' y' = (do pure (.bool (← Op.equal t x' y'))) ∧ binOp .neq t x' y' = (do pure (.bool (!(← Op.equal t x' y')))) := by
  unfold eqBin at h
  split at h <;> simp only [Option.some.injEq, reduceCtorEq] at h
  all_goals
    cases hx with
    | a hx => cases hx with
      | s hx => cases hy with
        | a hy => cases hy with
          | s hy => cases hx <;> cases hy <;> exact ⟨rfl, rfl⟩

theorem aBin_ok {T : Tab P} {g : List (Option GB)} {op : BinOp} {t : TypeId} {x y x' y' : Value} {cs : List Bool} {v : Value} (h : aBin op (T.und t) x y = some (cs, v)) (hc : ∀ c ∈ cs, c = true)
    (hx : VR g x x') (hy : VR g y y') (ox oy : Operand) (W : World) :
    (do eqGuard op t ox oy x' y'; binOp op t x' y' : Sem Value).run P W = .ok v W ∧ VR g v v := by
  unfold aBin at h
  split at h
  · rename_i k a k' b
    obtain rfl := SR.inv_int hx
    obtain rfl := SR.inv_int hy
    simp only [eqGuard_at_int, pure_bind]
    split at h
    · simp only [Option.some.injEq, Prod.mk.injEq] at h
      obtain ⟨rfl, rfl⟩ := h
      simp only [List.mem_cons, List.not_mem_nil, or_false, forall_eq, decide_eq_true_eq] at hc
      exact ⟨by simp [binOp, Op.shift, Int.not_lt.2 hc], .s (.int _ _)⟩
    · simp only [Option.some.injEq, Prod.mk.injEq] at h
      obtain ⟨rfl, rfl⟩ := h
      simp only [List.mem_cons, List.not_mem_nil, or_false, forall_eq, decide_eq_true_eq] at hc
      exact ⟨by simp [binOp, Op.shift, Int.not_lt.2 hc], .s (.int _ _)⟩
    · split at h
      · rename_i e; subst e
        exact ⟨intBin_ok h hc t W, intBin_int h g⟩
      · cases h
  · obtain rfl := SR.inv_str hx
    obtain rfl := SR.inv_str hy
    simp only [eqGuard_at_string, pure_bind]
    exact ⟨strBin_ok h hc t W, strBin_str h g⟩
  · split at h
    · rename_i d hd
      cases hr : eqBin d x y with
      | none => rw [hr] at h; cases h
      | some r =>
        rw [hr] at h
        simp only [Option.map_some, Option.some.injEq, Prod.mk.injEq] at h
        obtain ⟨rfl, rfl⟩ := h
        rw [eqGuard_of hr hx, pure_bind, (binOp_eql_of hr hx hy t).1]
        exact ⟨by simp [eqBin_ok hd hr hx hy W], .s (.bool _)⟩
    · rename_i d hd
      cases hr : eqBin d x y with
      | none => rw [hr] at h; cases h
      | some r =>
        rw [hr] at h
        simp only [Option.map_some, Option.some.injEq, Prod.mk.injEq] at h
        obtain ⟨rfl, rfl⟩ := h
        rw [eqGuard_of hr hx, pure_bind, (binOp_eql_of hr hx hy t).2]
        exact ⟨by simp [eqBin_ok hd hr hx hy W], .s (.bool _)⟩
    · cases h
end Go.AE
