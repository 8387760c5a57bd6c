/-
  An abstract logic for the model (part 14): how frames and memories look, evaluated by functions. Conditions: none.
-/
import Derived.Test.YtfohjnfdgegfcaaDoorAe13
namespace Go.AE
set_option linter.unusedSimpArgs false
variable {P : Program}

/-- Which operations an operation waits for. -/
def waits (o : Oper) : List Nat := (o.after.toList.filter (Region.binds .any)).map (·.on)
/-- The same, and what those wait for, and so on. -/
def closures (all : List Oper) : List (List Nat) := all.foldl (fun acc o => acc ++ [(waits o).flatMap fun j => j :: acc.getD j []]) []

/-- The new blocks so far: whose they are, and what they bear. -/
abbrev Slots := List (Nat × ABlk)
/-- The memory that operation i sees. -/
def memFor (cl : List Nat) (m : Mem) (sl : Slots) : Mem := roM m ++ sl.map fun p => if cl.contains p.1 then some (roBlk p.2) else none
/-- The frame that an operation sees: what it does not look at is not known. -/
def rhoFor (rd : List Tmp) (a : List Value) : Operand → Value
  | .tmp t => if rd.contains t then aeval a (.tmp t) else topV
  | x => aeval a x

/-- What is asked of the state in which a quiet operation is met (in the order of the text), and of what it comes to. -/
def QtOK (P : Program) (all : List Oper) (cl : List Nat) (m : Mem) (o : Oper) (a : List Value) (sl : Slots) (d : QD) : Prop :=
  (∀ t ∈ o.looksAt all.toArray, low (m.length + sl.length) (aeval a (.tmp t)) = true) ∧
  (match o.guard with
   | none => Quiet P o (rhoFor (o.looksAt all.toArray) a) (memFor cl m sl) d
   | some (j, want) => ∃ b, ((all[j]?).bind (·.dst)).bind (a[·]?) = some (.bool b) ∧ (b = want → Quiet P o (rhoFor (o.looksAt all.toArray) a) (memFor cl m sl) d) ∧ (b ≠ want → d = ⟨undef, none⟩))

/-- The quiet operations from number i on, and where they lead to. -/
inductive Qts (P : Program) (all : List Oper) (cls : List (List Nat)) (m : Mem) : Nat → List Oper → List Value → Slots → List QD → List Value → Slots → Prop
  | nil (i : Nat) (a : List Value) (sl : Slots) : Qts P all cls m i [] a sl [] a sl
  | cons {i : Nat} {o : Oper} {rest : List Oper} {a a' : List Value} {sl sl' : Slots} {d : QD} {ds : List QD} : (∀ b, d.nb = some b → b.rw = true) → QtOK P all (cls.getD i []) m o a sl d →
      Qts P all cls m (i + 1) rest (putA a o.dst d.v) (sl ++ d.nb.toList.map fun b => (i, b)) ds a' sl' → Qts P all cls m i (o :: rest) a sl (d :: ds) a' sl'

/-- Operations that leave the memory as it is, but for one new block. -/
def quietOp : Op → Bool
  | .store _ _ _ => false
  | .call ⟨.builtin .append, _, _⟩ => false
  | .call ⟨.value _, _, _⟩ => false
  | _ => true

/-- What the evaluation of a region's quiet operations asks. -/
def evQ {R : Type} (X : Ops R) (T : Tab P) (all : List Oper) (cls : List (List Nat)) (m : Mem) : Nat → List Oper → List Value → Slots → (List Value → Slots → R) → R
  | _, [], a, sl, k => forceL a fun a => k a sl
  | i, o :: rest, a, sl, k =>
    let D := memFor (cls.getD i []) m sl
    let ρ := rhoFor (o.looksAt all.toArray) a
    let go (d : QD) : R := X.nd (match d.nb with | some b => b.rw | none => true) (forceV d.v fun v => evQ X T all cls m (i + 1) rest (putA a o.dst v) (sl ++ d.nb.toList.map fun b => (i, b)) k)
    let one : R := match o.op with
      | .call ⟨.value f, args, _⟩ =>
        match ρ f with
        | .func (.func n) ⟨[]⟩ ⟨[]⟩ => if T.fn n then X.pcall n (args.toList.map ρ) D fun v nb => go ⟨v, nb⟩ else X.fl
        | _ => X.fl
      | op =>
        if quietOp op then
          match evOp optO T op ρ D (fun v m => some ([], v, m)) with
          | some (cs, v, m') =>
            match m'.drop D.length with
            | [some b] => cs.foldr X.nd (go ⟨v, some b⟩)
            | _ => cs.foldr X.nd (go ⟨v, none⟩)
          | none => X.fl
        else X.fl
    if (o.looksAt all.toArray).all fun t => low (m.length + sl.length) (aeval a (.tmp t)) then
      match o.guard with
      | none => one
      | some (j, want) =>
        match ((all[j]?).bind (·.dst)).bind (a[·]?) with
        | some (.bool b) => X.br (b == want) one (go ⟨undef, none⟩)
        | _ => X.fl
    else X.fl

/-- Which of the region's temporaries are whose. -/
def slotsOk (all : List Oper) (q : Nat) : Bool :=
  (List.range q).all fun i => (List.range q).all fun k => i == k ||
    match all[i]?, all[k]? with
    | some oi, some ok =>
      match ok.dst with
      | some t => oi.dst != some t && (!(oi.looksAt all.toArray).contains t || (decide (k < i) && (waits oi).contains k) || (decide (i < k) && (waits ok).contains i))
      | none => true
    | _, _ => true

/-- Every operation waits for earlier ones alone; those from number q on wait for all ahead of them. -/
def orderOk (all : List Oper) (cls : List (List Nat)) (q : Nat) : Bool :=
  (List.range all.length).all fun i =>
    (match all[i]? with
     | some o => (waits o).all fun j => decide (j < i)
     | none => true) && (decide (i < q) || (List.range i).all fun j => (cls.getD i []).contains j)

theorem foldr_opt : ∀ (l : List Bool) (r : Option (List Bool × Value × Mem)) {cs : List Bool} {v : Value} {m' : Mem}, l.foldr optO.nd r = some (cs, v, m') → ∃ cs', r = some (cs', v, m')
  | [], r, cs, v, m', h => ⟨cs, h⟩
  | c :: l, r, cs, v, m', h => by
    have h : (l.foldr optO.nd r).map (fun p => (c :: p.1, p.2)) = some (cs, v, m') := h
    cases hr : l.foldr optO.nd r with
    | none => rw [hr] at h; cases h
    | some p =>
      rw [hr] at h
      simp only [Option.map_some, Option.some.injEq, Prod.mk.injEq] at h
      obtain ⟨p1, p2⟩ := p
      simp only at h
      obtain ⟨_, rfl⟩ := h
      exact foldr_opt l r hr
theorem nd_opt {c : Bool} {r : Option (List Bool × Value × Mem)} {cs : List Bool} {v : Value} {m' : Mem} (h : optO.nd c r = some (cs, v, m')) : ∃ cs', r = some (cs', v, m') := foldr_opt [c] r h

theorem quiet_mem {T : Tab P} {op : Op} (hq : quietOp op = true) {ρ : Operand → Value} {D : Mem} {cs : List Bool} {v : Value} {m' : Mem} (h : evOp optO T op ρ D (fun v m => some ([], v, m)) = some (cs, v, m')) :
    m' = D ∨ ∃ b, m' = D ++ [some b] := by
  have same : ∀ {v' : Value} {m1 : Mem} {cs' : List Bool}, (some (([] : List Bool), v', m1) : Option (List Bool × Value × Mem)) = some (cs', v, m') → m' = m1 := by
    intro v' m1 cs' h
    simp only [Option.some.injEq, Prod.mk.injEq] at h
    exact h.2.2.symm
  cases op with
  | store _ _ _ => cases hq
  | pick c a b =>
    simp only [evOp, evPick, evAlloc, evOpt, evCond, evBuildSlice, evNil, evExtract, evBuiltin, evCall] at h
    split at h
    · split at h
      · exact .inl (same h)
      · split at h
        · exact .inl (same h)
        · cases h
      · exact .inl (same h)
      · cases h
    · cases h
  | alloc e =>
    simp only [evOp, evPick, evAlloc, evOpt, evCond, evBuildSlice, evNil, evExtract, evBuiltin, evCall] at h
    repeat' (split at h)
    all_goals first | (cases h; done) | exact .inr ⟨_, same h⟩
  | box e x =>
    simp only [evOp, evPick, evAlloc, evOpt, evCond, evBuildSlice, evNil, evExtract, evBuiltin, evCall] at h
    split at h
    · exact .inr ⟨_, same h⟩
    · cases h
  | buildSlice t' len parts =>
    simp only [evOp, evPick, evAlloc, evOpt, evCond, evBuildSlice, evNil, evExtract, evBuiltin, evCall] at h
    split at h
    · exact .inr ⟨_, same h⟩
    · cases h
  | load t' a =>
    simp only [evOp, evLoad] at h
    split at h
    case h_2 => cases h
    split at h
    case h_2 => cases h
    split at h
    · obtain ⟨cs', h⟩ := nd_opt h
      exact .inl (same h)
    · simp only [optO] at h
      split at h
      · exact .inl (same h)
      · cases h
  | slice t' x lo hi mx =>
    cases mx with
    | some _ => cases h
    | none =>
      simp only [evOp, evSlice] at h
      split at h
      · split at h
        · obtain ⟨cs', h⟩ := foldr_opt _ _ h
          exact .inl (same h)
        · cases h
      · split at h
        case h_2 => cases h
        obtain ⟨cs', h⟩ := nd_opt h
        split at h
        · cases h
        · obtain ⟨cs', h⟩ := nd_opt h
          exact .inl (same h)
      · split at h
        case h_2 => cases h
        obtain ⟨cs', h⟩ := nd_opt h
        exact .inl (same h)
      · split at h
        case h_2 => cases h
        obtain ⟨cs', h⟩ := nd_opt h
        exact .inl (same h)
      · cases h
  | extract x i =>
    simp only [evOp, evPick, evAlloc, evOpt, evCond, evBuildSlice, evNil, evExtract, evBuiltin, evCall] at h
    split at h
    · simp only [optO] at h
      split at h
      · exact .inl (same h)
      · cases h
    · cases h
  | call cl =>
    obtain ⟨callee, args, ts⟩ := cl
    cases callee with
    | invoke _ _ => cases h
    | value f => cases hq
    | builtin b =>
      cases b with
      | append => cases hq
      | len =>
        simp only [evOp, evPick, evAlloc, evOpt, evCond, evBuildSlice, evNil, evExtract, evBuiltin, evCall] at h
        repeat' (split at h)
        all_goals first | (cases h; done) | exact .inl (same h)
      | min =>
        simp only [evOp, evPick, evAlloc, evOpt, evCond, evBuildSlice, evNil, evExtract, evBuiltin, evCall] at h
        repeat' (split at h)
        all_goals first | (cases h; done) | exact .inl (same h)
      | max =>
        simp only [evOp, evPick, evAlloc, evOpt, evCond, evBuildSlice, evNil, evExtract, evBuiltin, evCall] at h
        repeat' (split at h)
        all_goals first | (cases h; done) | exact .inl (same h)
      | _ => cases h
  | move x => exact .inl (same h)
  | assign x => exact .inl (same h)
  | build _ _ =>
    simp only [evOp, evPick, evAlloc, evOpt, evCond, evBuildSlice, evNil, evExtract, evBuiltin, evCall] at h
    split at h
    · exact .inl (same h)
    · cases h
  | nilCheck _ =>
    simp only [evOp, evPick, evAlloc, evOpt, evCond, evBuildSlice, evNil, evExtract, evBuiltin, evCall] at h
    split at h
    · exact .inl (same h)
    · cases h
  | binOp _ _ _ _ _ =>
    simp only [evOp, evPick, evAlloc, evOpt, evCond, evBuildSlice, evNil, evExtract, evBuiltin, evCall] at h
    split at h
    · obtain ⟨cs', h⟩ := foldr_opt _ _ h
      exact .inl (same h)
    · cases h
  | unOp _ _ _ =>
    simp only [evOp, evPick, evAlloc, evOpt, evCond, evBuildSlice, evNil, evExtract, evBuiltin, evCall] at h
    split at h
    · exact .inl (same h)
    · cases h
  | convert _ _ _ =>
    simp only [evOp, evConv] at h
    split at h
    · split at h
      · split at h
        · obtain ⟨cs', h⟩ := nd_opt h
          exact .inl (same h)
        · cases h
      · cases h
    · split at h
      · split at h
        · exact .inl (same h)
        · cases h
      · cases h
    · simp only [evOpt] at h
      split at h
      · exact .inl (same h)
      · cases h
  | fieldAddr _ _ _ =>
    simp only [evOp, evPick, evAlloc, evOpt, evCond, evBuildSlice, evNil, evExtract, evBuiltin, evCall] at h
    split at h
    · exact .inl (same h)
    · cases h
  | field _ _ _ =>
    simp only [evOp, evPick, evAlloc, evOpt, evCond, evBuildSlice, evNil, evExtract, evBuiltin, evCall] at h
    split at h
    · exact .inl (same h)
    · cases h
  | indexAddr _ _ _ =>
    simp only [evOp, evPick, evAlloc, evOpt, evCond, evBuildSlice, evNil, evExtract, evBuiltin, evCall] at h
    split at h
    · obtain ⟨cs', h⟩ := foldr_opt _ _ h
      exact .inl (same h)
    · cases h
  | index _ _ _ =>
    simp only [evOp, evPick, evAlloc, evOpt, evCond, evBuildSlice, evNil, evExtract, evBuiltin, evCall] at h
    split at h
    · obtain ⟨cs', h⟩ := foldr_opt _ _ h
      exact .inl (same h)
    · cases h
  | _ => cases h

theorem evQ_ok {n₀ : Nat} {R : Type} {X : Ans P n₀ R} {T : Tab P} {all : List Oper} {cls : List (List Nat)} {m : Mem} : ∀ (l : List Oper) (i : Nat) (a : List Value) (sl : Slots) (k : List Value → Slots → R),
    X.holds (evQ X T all cls m i l a sl k) → ∃ ds a' sl', Qts P all cls m i l a sl ds a' sl' ∧ X.holds (k a' sl')
  | [], i, a, sl, k, h => by
    simp only [evQ, forceL_eq] at h
    exact ⟨[], a, sl, .nil i a sl, h⟩
  | o :: rest, i, a, sl, k, h => by
    simp only [evQ, forceV_eq] at h
    split at h
    case isFalse => exact absurd h X.fl_ok
    rename_i hlow
    have hlow' : ∀ t ∈ o.looksAt all.toArray, low (m.length + sl.length) (aeval a (.tmp t)) = true := fun t ht => List.all_eq_true.1 hlow t ht
    -- one operation
    have one : X.holds (match o.op with
      | .call ⟨.value f, args, _⟩ =>
        match rhoFor (o.looksAt all.toArray) a f with
        | .func (.func n) ⟨[]⟩ ⟨[]⟩ => if T.fn n then X.pcall n (args.toList.map (rhoFor (o.looksAt all.toArray) a)) (memFor (cls.getD i []) m sl) fun v nb => X.nd (match nb with | some b => b.rw | none => true) (evQ X T all cls m (i + 1) rest (putA a o.dst v) (sl ++ nb.toList.map fun b => (i, b)) k) else X.fl
        | _ => X.fl
      | op =>
        if quietOp op then
          match evOp optO T op (rhoFor (o.looksAt all.toArray) a) (memFor (cls.getD i []) m sl) (fun v m => some ([], v, m)) with
          | some (cs, v, m') =>
            match m'.drop (memFor (cls.getD i []) m sl).length with
            | [some b] => cs.foldr X.nd (X.nd b.rw (evQ X T all cls m (i + 1) rest (putA a o.dst v) (sl ++ (some b : Option ABlk).toList.map fun b => (i, b)) k))
            | _ => cs.foldr X.nd (X.nd true (evQ X T all cls m (i + 1) rest (putA a o.dst v) (sl ++ (none : Option ABlk).toList.map fun b => (i, b)) k))
          | none => X.fl
        else X.fl) →
        ∃ d : QD, (∀ b, d.nb = some b → b.rw = true) ∧ Quiet P o (rhoFor (o.looksAt all.toArray) a) (memFor (cls.getD i []) m sl) d ∧ X.holds (evQ X T all cls m (i + 1) rest (putA a o.dst d.v) (sl ++ d.nb.toList.map fun b => (i, b)) k) := by
      intro h
      split at h
      · rename_i f args ts hop
        split at h
        case h_2 => exact absurd h X.fl_ok
        rename_i n hf
        split at h
        case isFalse => exact absurd h X.fl_ok
        rename_i hfn
        obtain ⟨v, nb, hc, hk⟩ := X.pcall_ok _ _ _ _ h
        obtain ⟨hrw, hk⟩ := X.nd_ok _ _ hk
        exact ⟨⟨v, nb⟩, fun b hb => by have hb : nb = some b := hb; rw [hb] at hrw; exact hrw, Quiet.of_call hop hf hfn hc, hk⟩
      · split at h
        case isFalse => exact absurd h X.fl_ok
        rename_i hq
        split at h
        case h_2 => exact absurd h X.fl_ok
        rename_i cs v m' hev
        rcases quiet_mem hq hev with hm | ⟨b, hm⟩
        · have hd : m'.drop (memFor (cls.getD i []) m sl).length = [] := by rw [hm]; simp
          rw [hd] at h
          obtain ⟨hc, hk⟩ := foldr_nd _ _ h
          obtain ⟨_, hk⟩ := X.nd_ok _ _ hk
          refine ⟨⟨v, none⟩, fun b hb => (by cases hb), Quiet.of_ev (T := T) (cs := cs) ?_ hc, hk⟩
          rw [hev, hm]; simp
        · have hd : m'.drop (memFor (cls.getD i []) m sl).length = [some b] := by rw [hm]; simp
          rw [hd] at h
          obtain ⟨hc, hk⟩ := foldr_nd _ _ h
          obtain ⟨hrw, hk⟩ := X.nd_ok _ _ hk
          refine ⟨⟨v, some b⟩, fun b' hb => (by cases hb; exact hrw), Quiet.of_ev (T := T) (cs := cs) ?_ hc, hk⟩
          rw [hev, hm]; simp
    split at h
    · rename_i hg
      obtain ⟨d, hrw, hQ, hk⟩ := one h
      obtain ⟨ds, a', sl', hqs, hk'⟩ := evQ_ok rest _ _ _ k hk
      exact ⟨d :: ds, a', sl', .cons hrw ⟨hlow', by rw [hg]; exact hQ⟩ hqs, hk'⟩
    · rename_i j want hg
      split at h
      case h_2 => exact absurd h X.fl_ok
      rename_i b hb
      obtain ⟨h1, h2⟩ := X.br_ok _ _ _ h
      by_cases hbw : b = want
      · obtain ⟨d, hrw, hQ, hk⟩ := one (h1 (by simpa using hbw))
        obtain ⟨ds, a', sl', hqs, hk'⟩ := evQ_ok rest _ _ _ k hk
        exact ⟨d :: ds, a', sl', .cons hrw ⟨hlow', by rw [hg]; exact ⟨b, hb, fun _ => hQ, fun h => absurd hbw h⟩⟩ hqs, hk'⟩
      · obtain ⟨_, h2⟩ := X.nd_ok _ _ (h2 (by simpa using hbw))
        obtain ⟨ds, a', sl', hqs, hk'⟩ := evQ_ok rest (i + 1) (putA a o.dst undef) (sl ++ (none : Option ABlk).toList.map fun b => (i, b)) k h2
        exact ⟨⟨undef, none⟩ :: ds, a', sl', .cons (d := ⟨undef, none⟩) (fun b hb => by cases hb) ⟨hlow', by rw [hg]; exact ⟨b, hb, fun h => absurd h hbw, fun _ => rfl⟩⟩ hqs, hk'⟩
end Go.AE