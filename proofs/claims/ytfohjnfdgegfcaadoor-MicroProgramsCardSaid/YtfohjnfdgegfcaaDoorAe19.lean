/-
  An abstract logic for the model (part 19): how frames and memories look, evaluated by functions. Conditions: none.
-/
import Derived.Test.YtfohjnfdgegfcaaDoorAe18
namespace Go.AE
variable {P : Program}

/-- How many operations of a region may be seen as quiet. -/
def quietLen : List Oper → Nat
  | [] => 0
  | o :: l => if (match o.op with
    | .call ⟨.value _, _, _⟩ => true
    | op => quietOp op) then quietLen l + 1 else 0

/-- Code. -/
def evC {R : Type} (X : Ops R) (T : Tab P) : Nat → Code → List Value → Mem → (Exit → List Value → Mem → R) → R
  | 0, _, _, _, _ => X.fl
  | n + 1, x, a, m, k =>
    match x with
    | .skip => k .normal a m
    | .ret => k .ret a m
    | .exit id => k (.exit id) a m
    | .label _ => k .normal a m
    | .goto l => k (.goto l) a m
    | .seq x y => evC X T n x a m fun e a m =>
        match e with
        | .normal => evC X T n y a m k
        | e => k e a m
    | .block id x => evC X T n x a m fun e a m =>
        match e with
        | .exit id' => if id' = id then k .normal a m else k (.exit id') a m
        | e => k e a m
    | .cond c x y =>
      match aeval a c with
      | .bool b => X.br b (evC X T n x a m k) (evC X T n y a m k)
      | _ => X.fl
    | .region _ ops false => evOps X T ops.toList ops.toList a m (k .normal)
    | .region _ ops true => evDraw X T ops.toList (quietLen ops.toList) a m (k .normal)
    | x => X.code x a m k

theorem AWp.cond {n₀ : Nat} {K : Exit → List Value → Mem → Prop} {a : List Value} {m : Mem} {c : Operand} {x y : Code} {b : Bool} (hc : aeval a c = .bool b) (h1 : b = true → AWp P n₀ x K a m) (h2 : b = false → AWp P n₀ y K a m) : AWp P n₀ (.cond c x y) K a m := by
  intro cx g₀ g A W hn hr ha
  have := ha.eval c
  rw [hc] at this
  have := SR.inv_bool this
  refine wp_cond this ?_
  cases b with
  | true => exact h1 rfl cx g₀ g A W hn hr ha
  | false => exact h2 rfl cx g₀ g A W hn hr ha

theorem AWp.region {n₀ : Nat} {R : Type} {X : Ans P n₀ R} {T : Tab P} {K : Exit → List Value → Mem → Prop} {a : List Value} {m : Mem} {id : Nat} {ops : Array Oper} {k : List Value → Mem → R} (h : X.holds (evOps X T ops.toList ops.toList a m k))
    (hk : ∀ a m, X.holds (k a m) → K .normal a m) : AWp P n₀ (.region id ops false) K a m := by
  intro c g₀ g A W _ hr ha
  have := evOps_ok (c := c) (g₀ := g₀) (K := K) ops.toList a m k h hk g A W hr ha
  exact wp_region_list (by simpa using this)

theorem evC_ok {n₀ : Nat} {R : Type} {X : Ans P n₀ R} {T : Tab P} : ∀ (n : Nat) (x : Code) (a : List Value) (m : Mem) (k : Exit → List Value → Mem → R), X.holds (evC X T n x a m k) → AWp P n₀ x (fun e a m => X.holds (k e a m)) a m
  | 0, _, _, _, _, h => absurd h X.fl_ok
  | n + 1, x, a, m, k, h => by
    unfold evC at h
    split at h
    · exact .skip h
    · exact .ret h
    · exact .exit h
    · exact .label h
    · exact .goto h
    · refine .seq ((evC_ok n _ a m _ h).mono ?_)
      intro e a m h
      cases e with
      | normal => exact evC_ok n _ a m k h
      | exit id => exact h
      | goto l => exact h
      | ret => exact h
      | panic ch => exact h
      | outgrown => exact h
    · rename_i id y
      refine .block ((evC_ok n _ a m _ h).mono ?_)
      intro e a m h
      cases e with
      | exit id' =>
        simp only [inBlk]
        by_cases hid : id' = id
        · simp only [if_pos hid] at h ⊢; exact h
        · simp only [if_neg hid] at h ⊢; exact h
      | normal => exact h
      | goto l => exact h
      | ret => exact h
      | panic ch => exact h
      | outgrown => exact h
    · split at h
      case h_2 => exact absurd h X.fl_ok
      rename_i b hb
      obtain ⟨h1, h2⟩ := X.br_ok _ _ _ h
      exact .cond hb (fun e => evC_ok n _ a m k (h1 e)) (fun e => evC_ok n _ a m k (h2 e))
    · exact AWp.region h fun a m h => h
    · exact AWp.draw h fun a m h => h
    · exact X.code_ok _ _ _ _ h

/-- A label's scope, jump by jump. -/
def evJumps {R : Type} (X : Ops R) (T : Tab P) (fuel : Nat) (c : Code) : Nat → Code → List Value → Mem → (Exit → List Value → Mem → R) → R
  | 0, _, _, _, _ => X.fl
  | n + 1, x, a, m, k => evC X T fuel x a m fun e a m =>
      match e with
      | .goto l => match findLabel c l with
        | some rest => evJumps X T fuel c n rest a m k
        | none => k (.goto l) a m
      | e => k e a m
theorem evJumps_ok {n₀ : Nat} {R : Type} {X : Ans P n₀ R} {T : Tab P} {fuel : Nat} {c : Code} {k : Exit → List Value → Mem → R} : ∀ (n : Nat) (x : Code) (a : List Value) (m : Mem), X.holds (evJumps X T fuel c n x a m k) → Jumps P n₀ c (fun e a m => X.holds (k e a m)) n x a m
  | 0, _, _, _, h => absurd h X.fl_ok
  | n + 1, x, a, m, h => by
    refine (evC_ok fuel x a m _ h).mono ?_
    intro e a' m' h
    cases e with
    | goto l =>
      simp only at h ⊢
      cases hf : findLabel c l with
      | none => simp only [hf] at h ⊢; exact h
      | some rest => simp only [hf] at h ⊢; exact evJumps_ok n rest a' m' h
    | normal => exact h
    | exit id => exact h
    | ret => exact h
    | panic ch => exact h
    | outgrown => exact h

/-- A load, for results. -/
def loadA (T : Tab P) (t : TypeId) (addr : Value) (m : Mem) : Option Value :=
  match T.und t, T.inf t, addr with
  | some d, some ti, .pointer (some ⟨j, off, none⟩) =>
    match m[j]? with
    | some (some b) => if isAggD d then (if off + ti.size ≤ b.cells.length then some (.agg ⟨(b.cells.drop off).take ti.size⟩) else none) else b.cells[off]?
    | _ => none
  | _, _, _ => none

theorem loadA_ok {T : Tab P} {t : TypeId} {addr addr' v : Value} {m : Mem} (h : loadA T t addr m = some v) {c : Ctx} {g : List (Option GB)} {W : World} (hr : Rel P c g m W) (ha : VR g addr addr') :
    ∃ w a, addr' = .pointer (some a) ∧ (loadVar t a).run P W = .ok w W ∧ VR g v w := by
  unfold loadA at h
  split at h
  case h_2 => cases h
  rename_i d ti j off hd hti
  split at h
  case h_2 => cases h
  rename_i b hj
  cases ha with
  | a ha => cases ha with
    | s ha => cases ha with
      | ptr _ _ gb hg =>
        split at h
        · rename_i hagg
          split at h
          case isFalse => cases h
          rename_i hc
          simp only [Option.some.injEq] at h
          subst h
          obtain ⟨ys, hys, hf⟩ := hr.loadCells hj hg hc
          refine ⟨.agg ⟨ys⟩, _, rfl, ?_, .agg hf⟩
          simp [loadVar, T.run_isAgg hd, hagg, T.run_size hti, hys]
        · rename_i hagg
          obtain ⟨w, hw, hs⟩ := hr.cell hj hg h
          exact ⟨w, _, rfl, by simp [loadVar, T.run_isAgg hd, hagg, hw], .s hs⟩

def resOf (T : Tab P) (a : List Value) (m : Mem) : ResultVar → Option Value
  | .tmp t => some ((a[t]?).getD undef)
  | .cell t ty => loadA T ty ((a[t]?).getD undef) m

/-- What may stand in a tuple. -/
def tupOk : Value → Bool
  | .tuple _ => false
  | .map (some 0) => false
  | _ => true
theorem VR.tupOk {g : List (Option GB)} {v w : Value} (h : VR g v w) (hc : tupOk v = true) : AR g v w := by
  cases h with
  | a h => exact h
  | tup _ => cases hc
  | top _ => cases hc

/-- What a function hands back. -/
def resA (T : Tab P) (rs : List ResultVar) (a : List Value) (m : Mem) : Option Value :=
  match rs.mapM (resOf T a m) with
  | some [v] => some v
  | some vs => if vs.all tupOk then some (.tuple ⟨vs⟩) else none
  | none => none

def resM (tmps : Array Value) : ResultVar → Sem Value
  | .tmp t => pure (tmps.getD t undef)
  | .cell a t => do loadVar t (← asAddr (tmps.getD a undef))

theorem resOf_ok {T : Tab P} {a : List Value} {m : Mem} {A : Act} {c : Ctx} {g : List (Option GB)} {W : World} (hr : Rel P c g m W) (ha : ARel g a A) {r : ResultVar} {v : Value} (h : resOf T a m r = some v) :
    ∃ w, (resM A.tmps r).run P W = .ok w W ∧ VR g v w := by
  cases r with
  | tmp t =>
    simp only [resOf, Option.some.injEq] at h
    subst h
    exact ⟨_, rfl, ha.eval (.tmp t)⟩
  | cell t ty =>
    obtain ⟨w, ad, he, hw, hv⟩ := loadA_ok h hr (ha.eval (.tmp t))
    refine ⟨w, ?_, hv⟩
    have he' : A.tmps.getD t undef = .pointer (some ad) := he
    simp only [resM, he', asAddr, pure_bind]
    exact hw

theorem resM_ok {T : Tab P} {a : List Value} {m : Mem} {A : Act} {c : Ctx} {g : List (Option GB)} {W : World} (hr : Rel P c g m W) (ha : ARel g a A) : ∀ (rs : List ResultVar) (vs : List Value), rs.mapM (resOf T a m) = some vs →
    ∃ ws, (rs.mapM (resM A.tmps)).run P W = .ok ws W ∧ F2 (VR g) vs ws
  | [], vs, h => by simp at h; subst h; exact ⟨[], rfl, .nil⟩
  | r :: rs, vs, h => by
    rw [List.mapM_cons] at h
    cases hx : resOf T a m r with
    | none => rw [hx] at h; simp at h
    | some v =>
      cases hy : rs.mapM (resOf T a m) with
      | none => rw [hx, hy] at h; simp at h
      | some us =>
        rw [hx, hy] at h
        simp at h
        subst h
        obtain ⟨w, hw, hv⟩ := resOf_ok hr ha hx
        obtain ⟨ws, hws, hf⟩ := resM_ok hr ha rs us hy
        refine ⟨w :: ws, ?_, .cons hv hf⟩
        rw [List.mapM_cons]
        simp only [Sem.run_bind, hw, Result.andThen_ok, hws, Sem.run_pure]

theorem resA_ok {T : Tab P} {a : List Value} {m : Mem} {A : Act} {c : Ctx} {g : List (Option GB)} {W : World} (hr : Rel P c g m W) (ha : ARel g a A) {fn : Func} {v : Value} (h : resA T fn.results.toList a m = some v) :
    ∃ w, (results fn A.tmps).run P W = .ok w W ∧ VR g v w := by
  unfold resA at h
  have run : ∀ ws, (fn.results.toList.mapM (resM A.tmps)).run P W = .ok ws W → (results fn A.tmps).run P W = .ok (if h : ws.toArray.size = 1 then ws.toArray[0] else .tuple ws.toArray) W := by
    intro ws hw
    have e : results fn A.tmps = (do let vs ← fn.results.mapM (resM A.tmps); pure (if h : vs.size = 1 then vs[0] else .tuple vs) : Sem Value) := rfl
    rw [e, Array.mapM_eq_mapM_toList]
    simp only [Sem.run_bind, Sem.run_map, hw, Result.andThen_ok, Sem.run_pure]
  split at h
  · rename_i u hm
    simp only [Option.some.injEq] at h
    subst h
    obtain ⟨ws, hws, hf⟩ := resM_ok hr ha _ _ hm
    cases hf with
    | cons hv hf => cases hf; exact ⟨_, by rw [run _ hws]; rfl, hv⟩
  · rename_i vs hne hm
    split at h
    case isFalse => cases h
    rename_i hall
    simp only [Option.some.injEq] at h
    subst h
    obtain ⟨ws, hws, hf⟩ := resM_ok hr ha _ _ hm
    have hl := hf.length
    have h1 : ¬ ws.toArray.size = 1 := by
      intro h1
      have : vs.length = 1 := by simpa [hl] using h1
      match vs, this with
      | [v], _ => exact hne v rfl
    refine ⟨_, run _ hws, ?_⟩
    rw [dif_neg h1]
    refine .tup ?_
    clear hws hm h1 hne hl
    induction hf with
    | nil => exact .nil
    | cons hv _ ih =>
      simp only [List.all_cons, Bool.and_eq_true] at hall
      exact .cons (hv.tupOk hall.1) (ih hall.2)
  · cases h

/-- A function. -/
def evF {R : Type} (X : Ops R) (T : Tab P) (n : Nat) (code : Code) (ntmps : Nat) (rs : List ResultVar) (args : List Value) (m : Mem) (k : Value → Mem → R) : R :=
  evC X T n code (args ++ List.replicate (ntmps - args.length) undef) m fun e a' m' =>
    match e with
    | .normal => X.ld (resA T rs a' m') fun v => k v m'
    | .ret => X.ld (resA T rs a' m') fun v => k v m'
    | _ => X.fl

theorem ACall.of_code {f : FuncId} {fn : Func} {code : Code} {args : List Value} {m : Mem} {K : Value → Mem → Prop} {T : Tab P} (hf : P.funcs[f]? = some fn) (hb : fn.body = some code)
    (h : AWp P m.length code (fun e a' m' => (e = .normal ∨ e = .ret) ∧ ∃ v, resA T fn.results.toList a' m' = some v ∧ K v m') (args ++ List.replicate (fn.ntmps - args.length) undef) m) : ACall P f args m K := by
  intro c g W args' hr hargs
  refine calls_of_wp hf hb ?_
  have ha : ARel g (args ++ List.replicate (fn.ntmps - args.length) undef) { tmps := (⟨args'⟩ : Array Value) ++ Array.replicate (fn.ntmps - (⟨args'⟩ : Array Value).size) undef, defers := [] } := by
    refine ⟨?_, rfl⟩
    have hl := hargs.length
    rw [Array.toList_append, Array.toList_replicate]
    simp only [List.size_toArray]
    rw [← hl]
    exact hargs.append (F2.replicate _ (.undef g))
  refine wp_mono (h c g [] _ W hr.len (by simpa using hr) (by simpa using ha)) ?_
  intro e A' W' ⟨a', m', g', ⟨he, v, hv, hK⟩, hr', ha'⟩
  obtain ⟨w, hw, hvw⟩ := resA_ok hr' ha' hv
  rcases he with rfl | rfl
  · exact ⟨ha'.defers, w, hw, v, w, m', g', rfl, hK, hr', hvw⟩
  · exact ⟨ha'.defers, w, hw, v, w, m', g', rfl, hK, hr', hvw⟩

theorem ACall.of_ev {f : FuncId} {fn : Func} {code : Code} {args : List Value} {m : Mem} {R : Type} (X : Ans P m.length R) (T : Tab P) (n : Nat) {k : Value → Mem → R} (hf : P.funcs[f]? = some fn) (hb : fn.body = some code)
    (h : X.holds (evF X T n code fn.ntmps fn.results.toList args m k)) : ACall P f args m fun v m' => X.holds (k v m') := by
  refine .of_code (T := T) hf hb ((evC_ok n code _ m _ h).mono ?_)
  intro e a' m' h
  cases e with
  | normal => exact ⟨.inl rfl, X.ld_ok _ _ h⟩
  | ret => exact ⟨.inr rfl, X.ld_ok _ _ h⟩
  | exit id => exact absurd h X.fl_ok
  | goto l => exact absurd h X.fl_ok
  | panic ch => exact absurd h X.fl_ok
  | outgrown => exact absurd h X.fl_ok

end Go.AE
namespace Go.AE
/-- The tables of a program, looked up where they stand. -/
def tabOf (P : Program) (h : P.funcs.toList.all (fun d => !(d.name == "runtime.NumGoroutine")) = true) (hm : P.follows .mixedOrders = true) : Tab P where
  mixed := hm
  plainEq t := !(P.eqGuardType P.depth t) && !(P.stoodInHeld t)
  plainEq_ok t h := by simpa using h
  und t := P.underlying t
  inf t := (P.info? t).map fun i => ⟨i.size, i.bytes, i.zero⟩
  fn f := ((P.funcs[f]?).bind (·.body)).isSome
  und_ok _ _ h := h
  inf_ok t x h := by
    cases hi : P.info? t with
    | none => rw [hi] at h; cases h
    | some i =>
      rw [hi] at h
      simp only [Option.map_some, Option.some.injEq] at h
      subst h
      exact ⟨i, rfl, rfl, rfl, rfl⟩
  fn_ok f hf := by
    cases hd : P.funcs[f]? with
    | none => rw [hd] at hf; cases hf
    | some d =>
      rw [hd] at hf
      simp only [Option.bind_some] at hf
      cases hb : d.body with
      | none => rw [hb] at hf; cases hf
      | some c =>
        refine ⟨d, c, rfl, ?_, hb⟩
        have hm : d ∈ P.funcs.toList := by
          have := Array.getElem?_eq_some_iff.1 hd
          obtain ⟨hlt, rfl⟩ := this
          simp
        have := List.all_eq_true.1 h d hm
        simpa using this
end Go.AE
