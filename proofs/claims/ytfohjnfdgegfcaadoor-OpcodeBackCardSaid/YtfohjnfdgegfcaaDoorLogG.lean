/-
  An abstract logic for the model (part G): how frames and memories look, evaluated by functions. Conditions: none.
-/
import Derived.Test.YtfohjnfdgegfcaaDoorLogF
namespace Go.AE
variable {P : Program}

/-- One quiet operation of a drawn region. -/
def evOne {R : Type} (X : Ops R) (T : Tab P) (o : Oper) (ρ : Operand → Value) (D : Mem) (go : QD → R) : R :=
  match o.op with
  | .call ⟨.value f, args, _⟩ =>
    match ρ f with
    | .func (.func n) ⟨[]⟩ ⟨[]⟩ => if T.fn n then X.pcall n (args.toList.map ρ) D fun v nb => go ⟨v, nb⟩ else X.fl
    | _ => X.fl
  | op =>
    if quietOp op then
      match evOp optO T op ρ D (fun v m => some ([], v, m)) with
      | some (cs, v, m') =>
        match m'.drop D.length with
        | [some b] => cs.foldr X.nd (go ⟨v, some b⟩)
        | _ => cs.foldr X.nd (go ⟨v, none⟩)
      | none => X.fl
    else X.fl

/-- The same, for terms with names in them: a load asks that there is something to load. -/
def evOneP (P : Program) (T : Tab P) (o : Oper) (ρ : Operand → Value) (D : Mem) (go : QD → Prop) : Prop :=
  match o.op with
  | .call ⟨.value f, args, _⟩ =>
    match ρ f with
    | .func (.func n) ⟨[]⟩ ⟨[]⟩ => T.fn n = true ∧ ∃ v nb, ACall P n (args.toList.map ρ) D (fun v' m' => v' = v ∧ m' = D ++ nb.toList.map some) ∧ go ⟨v, nb⟩
    | _ => False
  | .load t x =>
    match T.und t, T.inf t, ρ x with
    | some d, some ti, .pointer (some ⟨j, off, none⟩) =>
      match D[j]? with
      | some (some b) => if isAggD d then decide (off + ti.size ≤ b.cells.length) = true ∧ go ⟨.agg ⟨(b.cells.drop off).take ti.size⟩, none⟩ else ∃ v, b.cells[off]? = some v ∧ go ⟨v, none⟩
      | _ => False
    | _, _, _ => False
  | op =>
    if quietOp op then
      match evOp optO T op ρ D (fun v m => some ([], v, m)) with
      | some (cs, v, m') =>
        match m'.drop D.length with
        | [some b] => cs.foldr (fun c r => c = true ∧ r) (go ⟨v, some b⟩)
        | _ => cs.foldr (fun c r => c = true ∧ r) (go ⟨v, none⟩)
      | none => False
    else False

theorem foldr_and {n₀ : Nat} : ∀ (cs : List Bool) {p q : Prop}, (p → q) → cs.foldr (fun c r => c = true ∧ r) p → cs.foldr (propA P n₀).nd q
  | [], _, _, h, hp => h hp
  | _ :: cs, _, _, h, hp => ⟨hp.1, foldr_and cs h hp.2⟩

theorem evOneP_ok {n₀ : Nat} {T : Tab P} {o : Oper} {ρ : Operand → Value} {D : Mem} {go go' : QD → Prop} (hg : ∀ d, go d → go' d) (h : evOneP P T o ρ D go) : evOne (propA P n₀).toOps T o ρ D go' := by
  unfold evOneP at h
  unfold evOne
  split at h
  · rename_i f args _ hop
    split at h
    case h_2 => exact h.elim
    rename_i n hf
    obtain ⟨hfn, v, nb, hc, h⟩ := h
    simp only [hop, hf, if_pos hfn]
    exact ⟨v, nb, hc, hg _ h⟩
  · rename_i t x hop
    split at h
    case h_2 => exact h.elim
    rename_i d ti j off hd hti hx
    split at h
    case h_2 => exact h.elim
    rename_i b hj
    simp only [hop, quietOp, if_true]
    split at h
    · rename_i hagg
      have e : evOp optO T (.load t x) ρ D (fun v m => some ([], v, m)) = some ([decide (off + ti.size ≤ b.cells.length)], .agg ⟨(b.cells.drop off).take ti.size⟩, D) := by
        simp only [evOp, evLoad, hd, hti, hx, hj, hagg, if_true]
        rfl
      rw [e]
      simp only [List.drop_length]
      exact ⟨h.1, hg _ h.2⟩
    · rename_i hagg
      obtain ⟨v, hv, h⟩ := h
      have e : evOp optO T (.load t x) ρ D (fun v m => some ([], v, m)) = some ([], v, D) := by
        simp only [evOp, evLoad, hd, hti, hx, hj, if_neg hagg, hv]
        rfl
      rw [e]
      simp only [List.drop_length]
      exact hg _ h
  · rename_i op hn1 hn2
    split at h
    case isFalse => exact h.elim
    rename_i hq
    split
    · rename_i f args tys hop
      exact absurd hop (hn1 _ _ _)
    · simp only [hq, if_true]
      split at h
      case h_2 => exact h.elim
      rename_i cs v m' he
      split at h
      · exact foldr_and cs (hg _) h
      · exact foldr_and cs (hg _) h

/-- What follows an operation: the frame laid out anew. -/
def laidF {R : Type} (a : List Value) (dst : Option Tmp) (v : Value) (k : List Value → R) : R := forceV v fun v => forceL (putA a dst v) k
theorem laidF_eq {R : Type} (a : List Value) (dst : Option Tmp) (v : Value) (k : List Value → R) : laidF a dst v k = k (putA a dst v) := by
  unfold laidF
  rw [forceV_eq, forceL_eq]
def evOpsF {R : Type} (X : Ops R) (T : Tab P) (all : List Oper) : List Oper → List Value → Mem → (List Value → Mem → R) → R
  | [], a, m, k => k a m
  | o :: rest, a, m, k =>
    match o.guard with
    | none => evOp X T o.op (aeval a) m fun v m' => laidF a o.dst v fun a => evOpsF X T all rest a m' k
    | some (j, want) =>
      match ((all[j]?).bind (·.dst)).bind (a[·]?) with
      | some (.bool b) => X.br (b == want) (evOp X T o.op (aeval a) m fun v m' => laidF a o.dst v fun a => evOpsF X T all rest a m' k) (laidF a o.dst undef fun a => evOpsF X T all rest a m k)
      | some (.tuple _) => laidF a o.dst undef fun a => evOpsF X T all rest a m k
      | _ => X.fl
theorem evOpsF_eq {R : Type} (X : Ops R) (T : Tab P) (all : List Oper) : ∀ (l : List Oper) (a : List Value) (m : Mem) (k : List Value → Mem → R), evOps X T all l a m k = evOpsF X T all l a m k
  | [], a, m, k => by simp only [evOps, evOpsF, forceL_eq, forceM_eq]
  | o :: rest, a, m, k => by
    have ih := evOpsF_eq X T all rest
    unfold evOps evOpsF
    simp only [laid_eq, laidF_eq, ih]
    rfl

/-- A drawn region's quiet operations. -/
def evQP (P : Program) (T : Tab P) (all : List Oper) (cls : List (List Nat)) (m : Mem) : Nat → List Oper → List Value → Slots → (List Value → Slots → Prop) → Prop
  | _, [], a, sl, k => k a sl
  | i, o :: rest, a, sl, k =>
    let go (d : QD) : Prop := (match d.nb with | some b => b.rw | none => true) = true ∧ (laidF a o.dst d.v fun a => evQP P T all cls m (i + 1) rest a (sl ++ d.nb.toList.map fun b => (i, b)) k)
    if (o.looksAt all.toArray).all fun t => low (m.length + sl.length) (aeval a (.tmp t)) then
      match o.guard with
      | none => evOneP P T o (rhoFor (o.looksAt all.toArray) a) (memFor (cls.getD i []) m sl) go
      | some (j, want) =>
        match ((all[j]?).bind (·.dst)).bind (a[·]?) with
        | some (.bool b) => ((b == want) = true → evOneP P T o (rhoFor (o.looksAt all.toArray) a) (memFor (cls.getD i []) m sl) go) ∧ ((b == want) = false → go ⟨undef, none⟩)
        | _ => False
    else False

theorem evQP_ok {n₀ : Nat} (T : Tab P) (all : List Oper) (cls : List (List Nat)) (m : Mem) : ∀ (l : List Oper) (i : Nat) (a : List Value) (sl : Slots) (k : List Value → Slots → Prop), evQP P T all cls m i l a sl k → evQ (propA P n₀).toOps T all cls m i l a sl k
  | [], _, a, sl, k, h => by
    simp only [evQ, forceL_eq]
    exact h
  | o :: rest, i, a, sl, k, h => by
    have ih := evQP_ok (n₀ := n₀) T all cls m rest
    have go : ∀ d : QD, ((match d.nb with | some b => b.rw | none => true) = true ∧ (laidF a o.dst d.v fun a => evQP P T all cls m (i + 1) rest a (sl ++ d.nb.toList.map fun b => (i, b)) k)) →
        (propA P n₀).nd (match d.nb with | some b => b.rw | none => true) (forceV d.v fun v => evQ (propA P n₀).toOps T all cls m (i + 1) rest (putA a o.dst v) (sl ++ d.nb.toList.map fun b => (i, b)) k) := by
      rintro d ⟨h1, h2⟩
      rw [laidF_eq] at h2
      rw [forceV_eq]
      exact ⟨h1, ih _ _ _ _ h2⟩
    unfold evQP at h
    simp only at h
    split at h
    case isFalse => exact h.elim
    rename_i hl
    unfold evQ
    simp only
    rw [if_pos hl]
    split at h
    · rename_i hg
      simp only [hg]
      exact evOneP_ok go h
    · rename_i j want hg
      simp only [hg]
      split at h
      case h_2 => exact h.elim
      rename_i b hb
      simp only [hb]
      refine ⟨fun e => evOneP_ok go (h.1 e), fun e => go ⟨undef, none⟩ ?_⟩
      obtain ⟨_, h2⟩ := h.2 e
      exact ⟨rfl, h2⟩

/-- No operation behind the quiet ones need be seen later than it is written. -/
def lateOk (all : List Oper) : Nat → Bool
  | 0 => true
  | p + 1 => !(lateAt all p)
theorem lateOk_eq {all : List Oper} {q : Nat} (h : lateOk all q = true) : lateFix all q = all := by
  cases q with
  | zero => rfl
  | succ p =>
    simp only [lateOk] at h
    simp only [lateFix]
    cases hl : lateAt all p with
    | false => rfl
    | true => rw [hl] at h; cases h
def evDrawP (P : Program) (n₀ : Nat) (T : Tab P) (all : List Oper) (q : Nat) (a : List Value) (m : Mem) (k : List Value → Mem → Prop) : Prop :=
  (lateOk all q && drawOk all (closures all) q) = true ∧ evQP P T all (closures all) m 0 (all.take q) a [] fun a' sl' => evOpsF (propA P n₀).toOps T all (all.drop q) a' (m ++ sl'.map fun p => some p.2) k

theorem evDrawP_ok {n₀ : Nat} {T : Tab P} {all : List Oper} {q : Nat} {a : List Value} {m : Mem} {k : List Value → Mem → Prop} (h : evDrawP P n₀ T all q a m k) : evDraw (propA P n₀).toOps T all q a m k := by
  obtain ⟨h1, h⟩ := h
  rw [Bool.and_eq_true] at h1
  unfold evDraw
  rw [lateOk_eq h1.1]
  refine ⟨h1.2, ?_⟩
  have := evQP_ok (n₀ := n₀) _ _ _ _ _ _ _ _ _ h
  simp only [forceM_eq, evOpsF_eq]
  exact this

/-- Code, for terms with names in them. -/
def evP (P : Program) (n₀ : Nat) (T : Tab P) : Nat → Code → List Value → Mem → (Exit → List Value → Mem → Prop) → Prop
  | 0, _, _, _, _ => False
  | n + 1, x, a, m, k =>
    match x with
    | .skip => k .normal a m
    | .ret => k .ret a m
    | .exit id => k (.exit id) a m
    | .label _ => k .normal a m
    | .goto l => k (.goto l) a m
    | .seq x y => evP P n₀ T n x a m fun e a m =>
        match e with
        | .normal => evP P n₀ T n y a m k
        | e => k e a m
    | .block id x => evP P n₀ T n x a m fun e a m =>
        match e with
        | .exit id' => if id' = id then k .normal a m else k (.exit id') a m
        | e => k e a m
    | .cond c x y =>
      match aeval a c with
      | .bool b => (b = true → evP P n₀ T n x a m k) ∧ (b = false → evP P n₀ T n y a m k)
      | _ => False
    | .region _ ops false => evOpsF (propA P n₀).toOps T ops.toList ops.toList a m (k .normal)
    | .region _ ops true => evDrawP P n₀ T ops.toList (quietLen ops.toList) a m (k .normal)
    | x => AWp P n₀ x k a m

theorem evP_ok {n₀ : Nat} {T : Tab P} : ∀ (n : Nat) (x : Code) (a : List Value) (m : Mem) (k : Exit → List Value → Mem → Prop), evP P n₀ T n x a m k → AWp P n₀ x k a m
  | 0, _, _, _, _, h => h.elim
  | n + 1, x, a, m, k, h => by
    unfold evP at h
    split at h
    · exact .skip h
    · exact .ret h
    · exact .exit h
    · exact .label h
    · exact .goto h
    · refine .seq ((evP_ok n _ a m _ h).mono ?_)
      intro e a m h
      cases e with
      | normal => exact evP_ok n _ a m k h
      | exit id => exact h
      | goto l => exact h
      | ret => exact h
      | panic ch => exact h
      | outgrown => exact h
    · rename_i id y
      refine .block ((evP_ok n _ a m _ h).mono ?_)
      intro e a m h
      cases e with
      | exit id' =>
        simp only [inBlk]
        by_cases hid : id' = id
        · simp only [if_pos hid] at h ⊢; exact h
        · simp only [if_neg hid] at h ⊢; exact h
      | normal => exact h
      | goto l => exact h
      | ret => exact h
      | panic ch => exact h
      | outgrown => exact h
    · split at h
      case h_2 => exact h.elim
      rename_i b hb
      exact .cond hb (fun e => evP_ok n _ a m k (h.1 e)) (fun e => evP_ok n _ a m k (h.2 e))
    · rw [← evOpsF_eq] at h
      exact AWp.region (X := propA P n₀) h fun a m h => h
    · exact AWp.draw (X := propA P n₀) (evDrawP_ok h) fun a m h => h
    · exact h

theorem ACall.of_evP {f : FuncId} {fn : Func} {code : Code} {args : List Value} {m : Mem} {K : Value → Mem → Prop} (T : Tab P) (n : Nat) (hf : P.funcs[f]? = some fn) (hb : fn.body = some code)
    (h : evP P m.length T n code (args ++ List.replicate (fn.ntmps - args.length) undef) m fun e a' m' =>
      match e with
      | .normal => ∃ v, resA T fn.results.toList a' m' = some v ∧ K v m'
      | .ret => ∃ v, resA T fn.results.toList a' m' = some v ∧ K v m'
      | _ => False) : ACall P f args m K := by
  refine .of_code (T := T) hf hb ((evP_ok n code _ m _ h).mono ?_)
  intro e a' m' h
  cases e with
  | normal => exact ⟨.inl rfl, h⟩
  | ret => exact ⟨.inr rfl, h⟩
  | exit id => exact h.elim
  | goto l => exact h.elim
  | panic ch => exact h.elim
  | outgrown => exact h.elim

/-- A loop: one round, reckoned. -/
theorem AWp.loopP {n₀ : Nat} {x : Code} {K : Exit → List Value → Mem → Prop} {a : List Value} {m : Mem} (T : Tab P) (fuel : Nat) (I : Nat → List Value → Mem → Prop) (k₀ : Nat) (h₀ : ∃ a' m', Sees n₀ a m a' m' ∧ I k₀ a' m')
    (round : ∀ k a m, I k a m → evP P n₀ T fuel x a m fun e a' m' => match e with
      | .normal => ∃ k' a'' m'', k' < k ∧ Sees n₀ a' m' a'' m'' ∧ I k' a'' m''
      | e => K e a' m') : AWp P n₀ (.loop x) K a m := by
  refine AWp.loop I k₀ h₀ fun k a m hI => ?_
  refine (evP_ok fuel x a m _ (round k a m hI)).mono ?_
  intro e a' m' h
  cases e <;> exact h
end Go.AE
