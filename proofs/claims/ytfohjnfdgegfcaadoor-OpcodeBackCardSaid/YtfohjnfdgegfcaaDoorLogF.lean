/-
  An abstract logic for the model (part F): how frames and memories look, evaluated by functions. Conditions: none.
-/
import Derived.Test.YtfohjnfdgegfcaaDoorLogE
namespace Go.AE
variable {P : Program}

/-- A value's addresses, numbered anew; what is let go is unknown. -/
def reS (ρ : Nat → Option Nat) : Value → Value
  | .pointer (some ⟨j, o, s⟩) => match ρ j with
    | some i => .pointer (some ⟨i, o, s⟩)
    | none => topV
  | .slice (some ⟨j, o, s⟩) n c => match ρ j with
    | some i => .slice (some ⟨i, o, s⟩) n c
    | none => topV
  | v => v
def re1 (ρ : Nat → Option Nat) : Value → Value
  | .agg ⟨l⟩ => .agg ⟨l.map (reS ρ)⟩
  | v => reS ρ v
def re (ρ : Nat → Option Nat) : Value → Value
  | .tuple ⟨l⟩ => .tuple ⟨l.map (re1 ρ)⟩
  | v => re1 ρ v
def Moves (ρ : Nat → Option Nat) (g g' : List (Option GB)) : Prop := ∀ (j i : Nat) (gb : GB), ρ j = some i → g[j]? = some (some gb) → g'[i]? = some (some gb)

theorem SR.mv {g g' : List (Option GB)} {ρ : Nat → Option Nat} (h : Moves ρ g g') {v w : Value} (hv : SR g v w) : SR g' (reS ρ v) w := by
  cases hv with
  | top _ h => exact .top _ h
  | ptr j off gb hg =>
    simp only [reS]
    cases hρ : ρ j with
    | none => exact .top _ rfl
    | some i => exact .ptr i off gb (h j i gb hρ hg)
  | slice j off len cap gb hg =>
    simp only [reS]
    cases hρ : ρ j with
    | none => exact .top _ rfl
    | some i => exact .slice i off len cap gb (h j i gb hρ hg)
  | bool => exact .bool _
  | int => exact .int _ _
  | str => exact .str _
  | ptr0 => exact .ptr0
  | slice0 => exact .slice0
  | nilFunc => exact .nilFunc
  | nilIface => exact .nilIface
  | func => exact .func _
theorem re1_scalar {ρ : Nat → Option Nat} {v : Value} (h : scalarV v = true) : re1 ρ v = reS ρ v := by
  cases v <;> first | rfl | cases h
theorem SR.scalarL {g : List (Option GB)} {v w : Value} (h : SR g v w) : scalarV v = true := by
  cases h <;> rfl
theorem AR.mv {g g' : List (Option GB)} {ρ : Nat → Option Nat} (h : Moves ρ g g') {v w : Value} (hv : AR g v w) : AR g' (re1 ρ v) w := by
  cases hv with
  | s hs => rw [re1_scalar hs.scalarL]; exact .s (hs.mv h)
  | agg hf => exact .agg (by simpa using hf.map (f' := id) (S := SR g') fun _ _ h' => h'.mv h)
theorem AR.notTup {g : List (Option GB)} {v w : Value} (h : AR g v w) {ρ : Nat → Option Nat} : re ρ v = re1 ρ v := by
  cases h with
  | s hs => cases hs <;> rfl
  | agg _ => rfl
theorem VR.mv {g g' : List (Option GB)} {ρ : Nat → Option Nat} (h : Moves ρ g g') {v w : Value} (hv : VR g v w) : VR g' (re ρ v) w := by
  cases hv with
  | a ha => rw [ha.notTup]; exact .a (ha.mv h)
  | tup hf => exact .tup (by simpa using hf.map (f' := id) (S := AR g') fun _ _ h' => h'.mv h)
  | top => exact .top _
/-- Where a block goes: the caller's stay, the kept ones follow. -/
def packN (n₀ : Nat) (js : List Nat) (j : Nat) : Option Nat := if j < n₀ then some j else (js.idxOf? j).map (n₀ + ·)
def packB (ρ : Nat → Option Nat) (b : ABlk) : ABlk := { b with cells := b.cells.map (reS ρ) }
def packM (n₀ : Nat) (js : List Nat) (m : Mem) : Mem := ((m.take n₀) ++ js.map fun j => m.getD j none).map fun b => b.map (packB (packN n₀ js))

theorem Sees.pack {n₀ : Nat} {a : List Value} {m : Mem} (js : List Nat) (hn : n₀ ≤ m.length) (hjs : ∀ j ∈ js, n₀ ≤ j ∧ j < m.length) (hd : js.Nodup) : Sees n₀ a m (a.map (re (packN n₀ js))) (packM n₀ js m) := by
  intro P c g₀ g A W hg₀ hr ha
  have hGl : (g₀ ++ g).length = m.length := hr.len
  -- where the new blocks come from
  have src : ∀ i : Nat, i < n₀ + js.length → ∃ j, j < m.length ∧ packN n₀ js j = some i ∧ (((m.take n₀) ++ js.map fun j => m.getD j none)[i]? = m[j]?) ∧ ((g₀ ++ js.map fun j => (g₀ ++ g).getD j none)[i]? = (g₀ ++ g)[j]?) := by
    intro i hi
    rcases Nat.lt_or_ge i n₀ with hl | hl
    · refine ⟨i, by omega, by simp [packN, hl], ?_, ?_⟩
      · rw [List.getElem?_append_left (by simp; omega), List.getElem?_take, if_pos hl]
      · rw [List.getElem?_append_left (by omega), List.getElem?_append_left (by omega)]
    · have hk : i - n₀ < js.length := by omega
      have hjm := hjs _ (List.getElem_mem hk)
      refine ⟨js[i - n₀], hjm.2, ?_, ?_, ?_⟩
      · have : js.idxOf? js[i - n₀] = some (i - n₀) := by
          rw [List.idxOf?_eq_some_iff]
          exact ⟨hk, rfl, fun j hj h => List.pairwise_iff_getElem.1 hd j (i - n₀) (by omega) hk hj h⟩
        simp only [packN, if_neg (by omega : ¬ js[i - n₀] < n₀), this, Option.map_some]
        congr 1; omega
      · rw [List.getElem?_append_right (by simp; omega), List.getElem?_map]
        have e : (List.take n₀ m).length = n₀ := by simp [hn]
        rw [e, List.getElem?_eq_getElem hk, Option.map_some, List.getD_eq_getElem?_getD, List.getElem?_eq_getElem hjm.2]
        rfl
      · rw [List.getElem?_append_right (by omega), List.getElem?_map, hg₀, List.getElem?_eq_getElem hk, Option.map_some, List.getD_eq_getElem?_getD, List.getElem?_eq_getElem (by omega)]
        rfl
  have mv : Moves (packN n₀ js) (g₀ ++ g) (g₀ ++ js.map fun j => (g₀ ++ g).getD j none) := by
    intro j i gb hρ hj
    unfold packN at hρ
    split at hρ
    · rename_i hlt
      cases hρ
      rw [List.getElem?_append_left (by omega)] at hj ⊢
      exact hj
    · cases hx : js.idxOf? j with
      | none => rw [hx] at hρ; cases hρ
      | some k =>
        rw [hx] at hρ
        simp only [Option.map_some, Option.some.injEq] at hρ
        subst hρ
        obtain ⟨hk, hjk, _⟩ := List.idxOf?_eq_some_iff.1 hx
        rw [List.getElem?_append_right (by omega), List.getElem?_map, hg₀, show n₀ + k - n₀ = k from by omega, List.getElem?_eq_getElem hk, hjk, Option.map_some, List.getD_eq_getElem?_getD, hj]
        rfl
  have pull : ∀ (i : Nat) (b : ABlk) (gb : GB), (packM n₀ js m)[i]? = some (some b) → (g₀ ++ js.map fun j => (g₀ ++ g).getD j none)[i]? = some (some gb) → ∃ j b0, packN n₀ js j = some i ∧ m[j]? = some (some b0) ∧ b = packB (packN n₀ js) b0 ∧ (g₀ ++ g)[j]? = some (some gb) := by
    intro i b gb hi hgi
    have hil : i < n₀ + js.length := by
      have := lt_of_getElem? hgi
      simp at this; omega
    obtain ⟨j, hj, hρ, h1, h2⟩ := src i hil
    unfold packM at hi
    rw [List.getElem?_map, h1] at hi
    rw [h2] at hgi
    cases hmj : m[j]? with
    | none => rw [hmj] at hi; cases hi
    | some x =>
      rw [hmj] at hi
      cases x with
      | none => simp at hi
      | some b0 =>
        simp only [Option.map_some, Option.some.injEq] at hi
        exact ⟨j, b0, hρ, hmj, hi.symm, hgi⟩
  refine ⟨js.map fun j => (g₀ ++ g).getD j none, ⟨?_, ?_, ?_, hr.frame, hr.size, hr.os, hr.tape, hr.output⟩, ⟨?_, ha.defers⟩⟩
  · simp [packM, hn, hg₀]
  · intro i b gb hi hgi
    obtain ⟨j, b0, _, hj, rfl, hgj⟩ := pull i b gb hi hgi
    obtain ⟨cs, fr, hh, hf, hsz, rest⟩ := hr.blk j b0 gb hj hgj
    refine ⟨cs, fr, hh, ?_, by simpa [packB] using hsz, rest⟩
    simp only [packB, List.length_map]
    have := hf.map (S := SR (g₀ ++ js.map fun j => (g₀ ++ g).getD j none)) (f := reS (packN n₀ js)) (f' := id) fun _ _ h' => h'.mv mv
    simpa using this
  · intro p q bp bq gp gq hne hp hq hrw hgp hgq
    obtain ⟨jp, b0, e1, h1, rfl, h2⟩ := pull p bp gp hp hgp
    obtain ⟨jq, b1, e2, h3, rfl, h4⟩ := pull q bq gq hq hgq
    exact hr.inj jp jq b0 b1 gp gq (fun e => hne (by rw [e, e2] at e1; exact (Option.some.inj e1).symm)) h1 h3 hrw h2 h4
  · have := ha.tmps.map (S := VR (g₀ ++ js.map fun j => (g₀ ++ g).getD j none)) (f := re (packN n₀ js)) (f' := id) fun _ _ h' => h'.mv mv
    simpa using this
end Go.AE
namespace Go.AE
variable {P : Program}

/-- What is kept of a value: itself, or nothing. -/
def Less (v u : Value) : Prop := u = topV ∨ u = v

theorem F2.less {g : List (Option GB)} {a a' : List Value} (h : F2 Less a a') : ∀ {t : List Value}, F2 (VR g) a t → F2 (VR g) a' t := by
  induction h with
  | nil => intro t ht; cases ht; exact .nil
  | cons hr _ ih =>
    intro t ht
    cases ht with
    | cons hv hf =>
      refine .cons ?_ (ih hf)
      rcases hr with rfl | rfl
      · exact .top _
      · exact hv

/-- Kept blocks numbered anew, what is no longer wanted let go. -/
theorem Sees.packTo {n₀ : Nat} {a a'' : List Value} {m m'' : Mem} (js : List Nat) (hn : n₀ ≤ m.length) (hjs : ∀ j ∈ js, n₀ ≤ j ∧ j < m.length) (hd : js.Nodup) (hm : packM n₀ js m = m'') (ha : F2 Less (a.map (re (packN n₀ js))) a'') : Sees n₀ a m a'' m'' := by
  refine (Sees.pack (a := a) js hn hjs hd).trans ?_
  rw [hm]
  exact fun _ _ _ g _ _ _ hr har => ⟨g, hr, ⟨F2.less ha har.tmps, har.defers⟩⟩

theorem Sees.to {n₀ : Nat} {a a'' : List Value} {m : Mem} (ha : F2 Less a a'') : Sees n₀ a m a'' m :=
  fun _ _ _ g _ _ _ hr har => ⟨g, hr, ⟨F2.less ha har.tmps, har.defers⟩⟩

/-- A byte's cell. -/
abbrev Byt (x : UInt8) : Value := .int .u8 (x.toNat : Nat)
theorem re_bys (ρ : Nat → Option Nat) (l : List UInt8) : (l.map Byt).map (reS ρ) = l.map Byt := by
  rw [List.map_map]
  exact List.map_congr_left fun _ _ => rfl
theorem ren_bys (ρ : Nat → Nat) (l : List UInt8) : (l.map Byt).map (renS ρ) = l.map Byt := by
  rw [List.map_map]
  exact List.map_congr_left fun _ _ => rfl

/-- A contract at no memory serves every memory. -/
theorem ACall.lift {f : FuncId} {aa : List Value} {v : Value} {nb : List ABlk} (h : ACall P f aa [] fun x m' => x = v ∧ m' = nb.map some) (hnb : nb.all (·.rw) = true) (has : aa.all plainC = true) (m : Mem) :
    ACall P f aa m fun x m' => x = ren (place [] m.length) v ∧ m' = m ++ nb.map fun b => some (renBlk (place [] m.length) b) := by
  have := ACall.frame (m0 := []) (K := fun x l => x = v ∧ l = nb.map some) (h.mono fun x m' ⟨h1, h2⟩ => ⟨nb, by simpa using h2, hnb, h1, rfl⟩) m [] ⟨rfl, fun i b hb => by simp at hb⟩ (fun j hj => by cases hj)
    (List.all_eq_true.2 fun x hx => low_plain (List.all_eq_true.1 has x hx) _)
  have e : aa.map (ren (place [] m.length)) = aa := by
    conv => rhs; rw [← List.map_id aa]
    exact List.map_congr_left fun x hx => ren_plain _ (List.all_eq_true.1 has x hx)
  rw [e] at this
  refine this.mono ?_
  rintro x m' ⟨v0, nb', ⟨rfl, h2⟩, rfl, rfl⟩
  have : nb' = nb := map_some_inj h2
  subst this
  exact ⟨rfl, rfl⟩
end Go.AE
namespace Go.AE
variable {P : Program}
/-- A value that names no block. -/
def restS : Value → Bool
  | .pointer (some _) => false
  | .slice (some _) _ _ => false
  | .agg _ => false
  | .tuple _ => false
  | _ => true
def restC : Value → Bool
  | .agg ⟨l⟩ => l.all restS
  | v => restS v
theorem renS_rest (ρ : Nat → Nat) {v : Value} (h : restS v = true) : renS ρ v = v := by
  unfold renS
  split <;> first | rfl | cases h
theorem ren_rest (ρ : Nat → Nat) {v : Value} (h : restC v = true) : ren ρ v = v := by
  cases v with
  | agg a =>
    obtain ⟨xs⟩ := a
    show Value.agg ⟨xs.map (renS ρ)⟩ = Value.agg ⟨xs⟩
    have : xs.map (renS ρ) = xs := by
      conv => rhs; rw [← List.map_id xs]
      exact List.map_congr_left fun x hx => renS_rest ρ (List.all_eq_true.1 h x hx)
    rw [this]
  | tuple a => cases h
  | pointer a => exact renS_rest ρ h
  | slice a _ _ => exact renS_rest ρ h
  | _ => rfl
theorem low_rest {v : Value} (h : restC v = true) (n : Nat) : low n v = true := by
  have hs : ∀ v, restS v = true → lowS n v = true := by
    intro v hv
    unfold lowS
    split <;> first | rfl | cases hv
  cases v with
  | agg a =>
    obtain ⟨l⟩ := a
    exact List.all_eq_true.2 fun x hx => hs x (List.all_eq_true.1 h x hx)
  | tuple a => cases h
  | pointer a => exact hs _ h
  | slice a _ _ => exact hs _ h
  | _ => rfl

noncomputable def entTOk (T : Tab P) (O : Orc P) (lf cf n : Nat) (fn : Func) (c : Code) (e : Ent) : Bool :=
  forceL e.args fun args => match evF (runO T O lf cf n) T cf c fn.ntmps fn.results.toList args [] (fun v m' => some (gcR 0 v m')) with
  | some (v, m') => qV v e.v && eqMem m' e.nb && e.nb.all (·.rw) && e.args.all restC
  | none => false

theorem entTOk_ok {T : Tab P} {O : Orc P} {lf cf n : Nat} {f : FuncId} {fn : Func} {c : Code} {e : Ent} (hf : P.funcs[f]? = some fn) (hb : fn.body = some c) (h : entTOk T O lf cf n fn c e = true) : EntIs P f e := by
  intro m
  unfold entTOk at h
  rw [forceL_eq] at h
  split at h
  · rename_i v m' hev
    simp only [Bool.and_eq_true] at h
    obtain ⟨⟨⟨h1, h2⟩, h3⟩, h4⟩ := h
    have hv := qV_eq h1
    have hm := eqMem_eq h2
    have := ACall.of_run (O := O) (m := []) hf hb hev
    have hl : e.args.map (ren (place [] m.length)) = e.args := by
      conv => rhs; rw [← List.map_id e.args]
      exact List.map_congr_left fun x hx => ren_rest _ (List.all_eq_true.1 h4 x hx)
    have := ACall.frame (K := fun v' m'' => v' = v ∧ m'' = m') (this.mono fun v' m'' ⟨h1, h2⟩ => ⟨e.nb, by rw [h2, hm]; rfl, h3, h1, by rw [hm]⟩) m [] ⟨rfl, fun i b hb => by simp at hb⟩ (fun j hj => by cases hj)
      (List.all_eq_true.2 fun x hx => low_rest (List.all_eq_true.1 h4 x hx) _)
    rw [hl] at this
    refine this.mono ?_
    rintro v' m'' ⟨v0, nb, ⟨rfl, hnb⟩, rfl, rfl⟩
    have hnb' : nb = e.nb := by
      rw [hm] at hnb
      exact map_some_inj hnb
    rw [hv, hnb']
    exact ⟨rfl, rfl⟩
  · cases h

theorem entsTOk_ok {T : Tab P} {O : Orc P} {lf cf n : Nat} {f : FuncId} {fn : Func} {c : Code} {l : List Ent} (hf : P.funcs[f]? = some fn) (hb : fn.body = some c) (h : (l.all (entTOk T O lf cf n fn c)) = true) : ∀ e ∈ l, EntIs P f e :=
  fun e he => entTOk_ok hf hb (List.all_eq_true.1 h e he)

/-- A contract serves arguments of which less is known. -/
theorem ACall.args {f : FuncId} {aa aa' : List Value} {m : Mem} {K : Value → Mem → Prop} (h : ACall P f aa m K) (hw : ∀ (g : List (Option GB)) (ws : List Value), F2 (VR g) aa' ws → F2 (VR g) aa ws) : ACall P f aa' m K :=
  fun c g W args' hr ha => h c g W args' hr (hw g args' ha)
end Go.AE
namespace Go.AE
variable {P : Program}
/-- A loop: one round, reckoned. -/
theorem AWp.loopE {n₀ : Nat} {T : Tab P} {x : Code} {K : Exit → List Value → Mem → Prop} {a : List Value} {m : Mem} (fuel : Nat) (I : Nat → List Value → Mem → Prop) (k₀ : Nat) (h₀ : ∃ a' m', Sees n₀ a m a' m' ∧ I k₀ a' m')
    (round : ∀ k a m, I k a m → evC (propA P n₀).toOps T fuel x a m fun e a' m' => match e with
      | .normal => ∃ k' a'' m'', k' < k ∧ Sees n₀ a' m' a'' m'' ∧ I k' a'' m''
      | e => K e a' m') : AWp P n₀ (.loop x) K a m := by
  refine AWp.loop I k₀ h₀ fun k a m hI => ?_
  refine (evC_ok (X := propA P n₀) fuel x a m _ (round k a m hI)).mono ?_
  intro e a' m' h
  cases e <;> exact h
end Go.AE
namespace Go.AE
variable {P : Program}

/-- The evaluator, nothing laid out ahead: for terms with names in them. -/
def evOpsN {R : Type} (X : Ops R) (T : Tab P) (all : List Oper) : List Oper → List Value → Mem → (List Value → Mem → R) → R
  | [], a, m, k => k a m
  | o :: rest, a, m, k =>
    match o.guard with
    | none => evOp X T o.op (aeval a) m fun v m' => evOpsN X T all rest (putA a o.dst v) m' k
    | some (j, want) =>
      match ((all[j]?).bind (·.dst)).bind (a[·]?) with
      | some (.bool b) => X.br (b == want) (evOp X T o.op (aeval a) m fun v m' => evOpsN X T all rest (putA a o.dst v) m' k) (evOpsN X T all rest (putA a o.dst undef) m k)
      | some (.tuple _) => evOpsN X T all rest (putA a o.dst undef) m k
      | _ => X.fl
theorem evOpsN_eq {R : Type} (X : Ops R) (T : Tab P) (all : List Oper) : ∀ (l : List Oper) (a : List Value) (m : Mem) (k : List Value → Mem → R), evOps X T all l a m k = evOpsN X T all l a m k
  | [], a, m, k => by simp only [evOps, evOpsN, forceL_eq, forceM_eq]
  | o :: rest, a, m, k => by
    have ih := evOpsN_eq X T all rest
    unfold evOps evOpsN
    simp only [laid_eq, ih]
    rfl

def evQN {R : Type} (X : Ops R) (T : Tab P) (all : List Oper) (cls : List (List Nat)) (m : Mem) : Nat → List Oper → List Value → Slots → (List Value → Slots → R) → R
  | _, [], a, sl, k => k a sl
  | i, o :: rest, a, sl, k =>
    let D := memFor (cls.getD i []) m sl
    let ρ := rhoFor (o.looksAt all.toArray) a
    let go (d : QD) : R := X.nd (match d.nb with | some b => b.rw | none => true) (evQN X T all cls m (i + 1) rest (putA a o.dst d.v) (sl ++ d.nb.toList.map fun b => (i, b)) k)
    let one : R := match o.op with
      | .call ⟨.value f, args, _⟩ =>
        match ρ f with
        | .func (.func n) ⟨[]⟩ ⟨[]⟩ => if T.fn n then X.pcall n (args.toList.map ρ) D fun v nb => go ⟨v, nb⟩ else X.fl
        | _ => X.fl
      | op =>
        if quietOp op then
          match evOp optO T op ρ D (fun v m => some ([], v, m)) with
          | some (cs, v, m') =>
            match m'.drop D.length with
            | [some b] => cs.foldr X.nd (go ⟨v, some b⟩)
            | _ => cs.foldr X.nd (go ⟨v, none⟩)
          | none => X.fl
        else X.fl
    if (o.looksAt all.toArray).all fun t => low (m.length + sl.length) (aeval a (.tmp t)) then
      match o.guard with
      | none => one
      | some (j, want) =>
        match ((all[j]?).bind (·.dst)).bind (a[·]?) with
        | some (.bool b) => X.br (b == want) one (go ⟨undef, none⟩)
        | _ => X.fl
    else X.fl
theorem evQN_eq {R : Type} (X : Ops R) (T : Tab P) (all : List Oper) (cls : List (List Nat)) (m : Mem) : ∀ (l : List Oper) (i : Nat) (a : List Value) (sl : Slots) (k : List Value → Slots → R), evQ X T all cls m i l a sl k = evQN X T all cls m i l a sl k
  | [], _, a, sl, k => by simp only [evQ, evQN, forceL_eq]
  | o :: rest, i, a, sl, k => by
    have ih := evQN_eq X T all cls m rest
    unfold evQ evQN
    simp only [forceV_eq, ih]
    rfl

def evDrawN {R : Type} (X : Ops R) (T : Tab P) (all : List Oper) (q : Nat) (a : List Value) (m : Mem) (k : List Value → Mem → R) : R :=
  X.nd (drawOk (lateFix all q) (closures (lateFix all q)) q) (evQN X T (lateFix all q) (closures (lateFix all q)) m 0 ((lateFix all q).take q) a [] fun a' sl' => evOpsN X T (lateFix all q) ((lateFix all q).drop q) a' (m ++ sl'.map fun p => some p.2) k)
theorem evDrawN_eq {R : Type} (X : Ops R) (T : Tab P) (all : List Oper) (q : Nat) (a : List Value) (m : Mem) (k : List Value → Mem → R) : evDraw X T all q a m k = evDrawN X T all q a m k := by
  unfold evDraw evDraw1 evDrawN
  simp only [evQN_eq, forceM_eq, evOpsN_eq]

def evN {R : Type} (X : Ops R) (T : Tab P) : Nat → Code → List Value → Mem → (Exit → List Value → Mem → R) → R
  | 0, _, _, _, _ => X.fl
  | n + 1, x, a, m, k =>
    match x with
    | .skip => k .normal a m
    | .ret => k .ret a m
    | .exit id => k (.exit id) a m
    | .label _ => k .normal a m
    | .goto l => k (.goto l) a m
    | .seq x y => evN X T n x a m fun e a m =>
        match e with
        | .normal => evN X T n y a m k
        | e => k e a m
    | .block id x => evN X T n x a m fun e a m =>
        match e with
        | .exit id' => if id' = id then k .normal a m else k (.exit id') a m
        | e => k e a m
    | .cond c x y =>
      match aeval a c with
      | .bool b => X.br b (evN X T n x a m k) (evN X T n y a m k)
      | _ => X.fl
    | .region _ ops false => evOpsN X T ops.toList ops.toList a m (k .normal)
    | .region _ ops true => evDrawN X T ops.toList (quietLen ops.toList) a m (k .normal)
    | x => X.code x a m k
theorem evN_eq {R : Type} (X : Ops R) (T : Tab P) : ∀ (n : Nat) (x : Code) (a : List Value) (m : Mem) (k : Exit → List Value → Mem → R), evC X T n x a m k = evN X T n x a m k
  | 0, _, _, _, _ => rfl
  | n + 1, x, a, m, k => by
    have ih := evN_eq X T n
    unfold evC evN
    simp only [ih, evOpsN_eq, evDrawN_eq]
    rfl

/-- A function, with names in its arguments. -/
theorem ACall.of_evN {f : FuncId} {fn : Func} {code : Code} {args : List Value} {m : Mem} {K : Value → Mem → Prop} (T : Tab P) (n : Nat) (hf : P.funcs[f]? = some fn) (hb : fn.body = some code)
    (h : evN (propA P m.length).toOps T n code (args ++ List.replicate (fn.ntmps - args.length) undef) m fun e a' m' =>
      match e with
      | .normal => ∃ v, resA T fn.results.toList a' m' = some v ∧ K v m'
      | .ret => ∃ v, resA T fn.results.toList a' m' = some v ∧ K v m'
      | _ => False) : ACall P f args m K := by
  refine ACall.of_ev (propA P m.length) T n hf hb ?_
  show evF _ _ _ _ _ _ _ _ _
  unfold evF
  rw [evN_eq]
  exact h

theorem AWp.of_evN {n₀ : Nat} {x : Code} {a : List Value} {m : Mem} {K : Exit → List Value → Mem → Prop} (T : Tab P) (n : Nat) (h : evN (propA P n₀).toOps T n x a m K) : AWp P n₀ x K a m := by
  rw [← evN_eq] at h
  exact evC_ok (X := propA P n₀) n x a m _ h

/-- A loop: one round, reckoned. -/
theorem AWp.loopN {n₀ : Nat} {x : Code} {K : Exit → List Value → Mem → Prop} {a : List Value} {m : Mem} (T : Tab P) (fuel : Nat) (I : Nat → List Value → Mem → Prop) (k₀ : Nat) (h₀ : ∃ a' m', Sees n₀ a m a' m' ∧ I k₀ a' m')
    (round : ∀ k a m, I k a m → evN (propA P n₀).toOps T fuel x a m fun e a' m' => match e with
      | .normal => ∃ k' a'' m'', k' < k ∧ Sees n₀ a' m' a'' m'' ∧ I k' a'' m''
      | e => K e a' m') : AWp P n₀ (.loop x) K a m := by
  refine AWp.loop I k₀ h₀ fun k a m hI => ?_
  refine (AWp.of_evN T fuel (round k a m hI)).mono ?_
  intro e a' m' h
  cases e <;> exact h
end Go.AE
namespace Go.AE
theorem br_t {c : Bool} {A B : Prop} (h : c = true) (a : A) : (c = true → A) ∧ (c = false → B) := by
  subst h; exact ⟨fun _ => a, fun h' => by cases h'⟩
theorem br_f {c : Bool} {A B : Prop} (h : c = false) (b : B) : (c = true → A) ∧ (c = false → B) := by
  subst h; exact ⟨fun h' => (by cases h'), fun _ => b⟩
end Go.AE
namespace Go.AE
theorem Sees.packL {n₀ : Nat} {a a'' : List Value} {m m'' : Mem} (js : List Nat) (L : Nat) (hL : m.length = L) (hc : (decide (n₀ ≤ L) && js.all (fun j => decide (n₀ ≤ j) && decide (j < L)) && decide js.Nodup) = true)
    (hm : packM n₀ js m = m'') (ha : F2 Less (a.map (re (packN n₀ js))) a'') : Sees n₀ a m a'' m'' := by
  subst hL
  simp only [Bool.and_eq_true, List.all_eq_true, decide_eq_true_eq] at hc
  exact Sees.packTo js hc.1.1 hc.1.2 hc.2 hm ha
theorem wrap_i64 {n : Int} (h0 : -9223372036854775808 ≤ n) (h1 : n ≤ 9223372036854775807) : IntKind.i64.wrap n = n := IntWalk.i64_in n ⟨h0, h1⟩
theorem wrap_u8 (c : UInt8) : IntKind.u8.wrap (c.toNat : Nat) = (c.toNat : Nat) := IntWalk.u8_in _ (by have := c.toNat_lt; omega)
end Go.AE
