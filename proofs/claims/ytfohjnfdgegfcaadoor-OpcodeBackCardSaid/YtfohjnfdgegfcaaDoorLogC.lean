/-
  An abstract logic for the model (part C): how frames and memories look, evaluated by functions. Conditions: none.
-/
import Derived.Test.YtfohjnfdgegfcaaDoorLogB
namespace Go.AE
variable {P : Program}

/-- What a quiet operation comes to: a value, and perhaps a new block. -/
structure QD where
  v : Value
  nb : Option ABlk

def roM (m : Mem) : Mem := m.map fun b => b.map roBlk

/-- The quiet end of an operation that was begun in world 'W', its memory 'D' seen through 'g'. -/
def QFin (P : Program) (g : List (Option GB)) (D : Mem) (W : World) (d : QD) (w : Value) (W' : World) : Prop :=
  ∃ g' gd, Rel P ⟨W, fun _ => False, gd⟩ (g ++ g') (D ++ d.nb.toList.map some) W' ∧ VR (g ++ g') d.v w

/-- An operation is quiet: whatever the world, it yields this one value and this new block, and leaves all that was there as it was. -/
def Quiet (P : Program) (o : Oper) (ρ : Operand → Value) (D : Mem) (d : QD) : Prop :=
  ∀ g W ρ' gd, Rel P ⟨W, fun _ => False, gd⟩ g D W → (∀ x, VR g (ρ x) (ρ' x)) → match (execOp ρ' o).run P W with
    | .ok (.value w) W' => QFin P g D W d w W'
    | .ok .skip W' => QFin P g D W d undef W'
    | .ok (.enter f args) W' => Calls P f args W' fun e W'' => ∃ w, e = .returned w ∧ QFin P g D W d w W''
    | _ => False

/-- Answers by one value, on conditions. -/
def optO : Ops (Option (List Bool × Value × Mem)) where
  br _ _ _ := none
  nd c r := r.map fun p => (c :: p.1, p.2)
  fl := none
  ld o k := match o with
    | some v => k v
    | none => none
  call _ _ _ _ := none
  code _ _ _ _ := none
  pcall _ _ _ _ := none
def optA (P : Program) (n₀ : Nat) (tgt : Value × Mem) : Ans P n₀ (Option (List Bool × Value × Mem)) where
  toOps := optO
  holds r := ∃ cs, r = some (cs, tgt) ∧ ∀ c ∈ cs, c = true
  br_ok _ _ _ h := by obtain ⟨_, h, _⟩ := h; cases h
  nd_ok c r h := by
    obtain ⟨cs, h, hc⟩ := h
    cases r with
    | none => cases h
    | some p =>
      obtain ⟨cs', q⟩ := p
      simp only [optO, Option.map_some, Option.some.injEq, Prod.mk.injEq] at h
      obtain ⟨rfl, rfl⟩ := h
      exact ⟨hc c (by simp), cs', rfl, fun c' h' => hc c' (by simp [h'])⟩
  fl_ok h := by obtain ⟨_, h, _⟩ := h; cases h
  ld_ok o k h := by
    cases o with
    | none => obtain ⟨_, h, _⟩ := h; cases h
    | some v => exact ⟨v, rfl, h⟩
  call_ok _ _ _ _ h := by obtain ⟨_, h, _⟩ := h; cases h
  code_ok _ _ _ _ h := by obtain ⟨_, h, _⟩ := h; cases h
  pcall_ok _ _ _ _ h := by obtain ⟨_, h, _⟩ := h; cases h

theorem Quiet.of_ev {T : Tab P} {o : Oper} {ρ : Operand → Value} {D : Mem} {cs : List Bool} {v : Value} {nb : Option ABlk}
    (h : evOp optO T o.op ρ D (fun v m => some ([], v, m)) = some (cs, v, D ++ nb.toList.map some)) (hc : ∀ c ∈ cs, c = true) : Quiet P o ρ D ⟨v, nb⟩ := by
  intro g W ρ' gd hr hv
  have := evOp_ok (X := optA P 0 (v, D ++ nb.toList.map some)) (T := T) (o := o) (ρ := ρ) (ρ' := ρ') (m := D) (k := fun v m => some ([], v, m)) ⟨cs, h, hc⟩ (c := ⟨W, fun _ => False, gd⟩) (g₀ := []) (g := g) (W := W) hr hv
  unfold OpDone at this
  have key : ∀ (v' : Value) (m' : Mem), (optA P 0 (v, D ++ nb.toList.map some)).holds (some ([], v', m')) → v' = v ∧ m' = D ++ nb.toList.map some := by
    rintro v' m' ⟨cs, h, _⟩
    simp only [Option.some.injEq, Prod.mk.injEq] at h
    exact ⟨h.2.1, h.2.2⟩
  generalize hrun : (execOp ρ' o).run P W = r at this ⊢
  split at this
  · obtain ⟨v', m', g', hN, hr', hvw⟩ := this
    obtain ⟨rfl, rfl⟩ := key _ _ hN
    exact ⟨g', gd, hr', hvw⟩
  · obtain ⟨m', g', hN, hr'⟩ := this
    obtain ⟨rfl, rfl⟩ := key _ _ hN
    exact ⟨g', gd, hr', .undef _⟩
  · refine this.mono ?_
    rintro e W'' ⟨v', w, m', g', rfl, hN, hr', hvw⟩
    obtain ⟨rfl, rfl⟩ := key _ _ hN
    exact ⟨w, rfl, g', gd, hr', hvw⟩
  · exact this.elim

/-- What was there stays as it was. -/
theorem Rel.still {c : Ctx} {g : List (Option GB)} {m : Mem} {W W' : World} (h : Rel P c g m W) (hf : ∀ k, k < W.heap.size → W'.heap[k]? = W.heap[k]?) (hs : W.heap.size ≤ W'.heap.size) (ho : W'.os = W.os) (ht : W'.tape = W.tape) (hu : W'.output = W.output) : Rel P c g m W' := by
  refine ⟨h.len, ?_, h.inj, fun k hk hF => by rw [hf k (Nat.lt_of_lt_of_le hk h.size), h.frame k hk hF], Nat.le_trans h.size hs, ho.trans h.os, ht.trans h.tape, hu.trans h.output⟩
  intro j b gb hj hg
  obtain ⟨cs, fr, hh, rest⟩ := h.blk j b gb hj hg
  have hlt : gb.b < W.heap.size := by
    rcases Nat.lt_or_ge gb.b W.heap.size with h' | h'
    · exact h'
    · rw [Array.getElem?_eq_none h'] at hh; cases hh
  exact ⟨cs, fr, by rw [hf _ hlt]; exact hh, rest⟩

/-- What a call without a right to write has left. -/
theorem Rel.regrow {g g' : List (Option GB)} {D m' : Mem} {W W' : World} {gd : Good W fun _ => False} {nb : List (Option ABlk)} (hr : Rel P ⟨W, fun _ => False, gd⟩ g D W) (hr' : Rel P ⟨W, fun _ => False, gd⟩ (g ++ g') m' W') (hl : D.length ≤ m'.length) (hd : m'.drop D.length = nb) :
    Rel P ⟨W, fun _ => False, gd⟩ (g ++ g') (D ++ nb) W' := by
  have still : Rel P ⟨W, fun _ => False, gd⟩ g D W' := hr.still (fun k hk => hr'.frame k hk (fun h => h)) hr'.size hr'.os hr'.tape hr'.output
  have hnb : nb.length = m'.length - D.length := by rw [← hd]; simp
  have hlt : ∀ (j : Nat) (b : ABlk) (gb : GB), D[j]? = some (some b) → g[j]? = some (some gb) → gb.b < W.heap.size := by
    intro j b gb hj hg
    obtain ⟨cs, fr, hh, _⟩ := hr.blk j b gb hj hg
    rcases Nat.lt_or_ge gb.b W.heap.size with h' | h'
    · exact h'
    · rw [Array.getElem?_eq_none h'] at hh; cases hh
  have split : ∀ (j : Nat) (b : ABlk) (gb : GB), (D ++ nb)[j]? = some (some b) → (g ++ g')[j]? = some (some gb) → (D[j]? = some (some b) ∧ g[j]? = some (some gb)) ∨ (D.length ≤ j ∧ m'[j]? = some (some b)) := by
    intro j b gb hj hg
    rcases Nat.lt_or_ge j D.length with hlj | hlj
    · rw [List.getElem?_append_left hlj] at hj
      rw [List.getElem?_append_left (by rw [hr.len]; exact hlj)] at hg
      exact .inl ⟨hj, hg⟩
    · rw [List.getElem?_append_right hlj, ← hd, List.getElem?_drop, show D.length + (j - D.length) = j from by omega] at hj
      exact .inr ⟨hlj, hj⟩
  refine ⟨by rw [hr'.len, List.length_append, hnb]; omega, ?_, ?_, hr'.frame, hr'.size, hr'.os, hr'.tape, hr'.output⟩
  · intro j b gb hj hg
    rcases split j b gb hj hg with ⟨hj, hg⟩ | ⟨_, hj⟩
    · obtain ⟨cs, fr, hh, hf, rest⟩ := still.blk j b gb hj hg
      exact ⟨cs, fr, hh, hf.imp fun _ _ h => h.app, rest⟩
    · exact hr'.blk j b gb hj hg
  · intro p q bp bq gp gq hne hp hq hrw hgp hgq
    rcases split p bp gp hp hgp with ⟨hp2, hgp2⟩ | ⟨_, hp2⟩
    · obtain ⟨_, _, _, _, _, hown, _⟩ := hr.blk p bp gp hp2 hgp2
      have := hlt p bp gp hp2 hgp2
      rcases (hown hrw).2 with h | h
      · simp only at h; omega
      · exact h.elim
    · rcases split q bq gq hq hgq with ⟨hq2, hgq2⟩ | ⟨_, hq2⟩
      · obtain ⟨_, _, _, _, _, hown, _⟩ := hr'.blk p bp gp hp2 hgp
        have := hlt q bq gq hq2 hgq2
        rcases (hown hrw).2 with h | h
        · simp only at h; omega
        · exact h.elim
      · exact hr'.inj p q bp bq gp gq hne hp2 hq2 hrw hgp hgq

theorem Quiet.of_call {T : Tab P} {o : Oper} {ρ : Operand → Value} {D : Mem} {v : Value} {nb : Option ABlk} {f : Operand} {n : FuncId} {args : Array Operand} {ts : Array TypeId} (ho : o.op = .call ⟨.value f, args, ts⟩) (hf : ρ f = .func (.func n) #[] #[])
    (hfn : T.fn n = true) (h : ACall P n (args.toList.map ρ) D fun v' m' => v' = v ∧ D.length ≤ m'.length ∧ m'.drop D.length = nb.toList.map some) : Quiet P o ρ D ⟨v, nb⟩ := by
  intro g W ρ' gd hr hv
  have := evOp_ok (X := propA P 0) (T := T) (o := o) (ρ := ρ) (ρ' := ρ') (m := D) (k := fun v' m' => v' = v ∧ D.length ≤ m'.length ∧ m'.drop D.length = nb.toList.map some) (by
    rw [ho]
    simp only [evOp, evCall, hf, hfn]
    exact h) (c := ⟨W, fun _ => False, gd⟩) (g₀ := []) (g := g) (W := W) hr hv
  unfold OpDone at this
  generalize hrun : (execOp ρ' o).run P W = r at this ⊢
  split at this
  · obtain ⟨v', m', g', ⟨rfl, h1, h2⟩, hr', hvw⟩ := this
    exact ⟨g', gd, hr.regrow hr' h1 h2, hvw⟩
  · obtain ⟨m', g', ⟨rfl, h1, h2⟩, hr'⟩ := this
    exact ⟨g', gd, hr.regrow hr' h1 h2, .undef _⟩
  · refine this.mono ?_
    rintro e W'' ⟨v', w, m', g', rfl, ⟨rfl, h1, h2⟩, hr', hvw⟩
    exact ⟨w, rfl, g', gd, hr.regrow hr' h1 h2, hvw⟩
  · exact this.elim

/-- More is known of what the numbers stand for. -/
def Gle (g g' : List (Option GB)) : Prop := ∀ (j : Nat) (gb : GB), g[j]? = some (some gb) → g'[j]? = some (some gb)
theorem SR.gle {g g' : List (Option GB)} (h : Gle g g') {v w : Value} (hv : SR g v w) : SR g' v w := by
  cases hv with
  | top _ h => exact .top _ h
  | ptr j off gb hg => exact .ptr _ off gb (h j gb hg)
  | slice j off len cap gb hg => exact .slice _ off len cap gb (h j gb hg)
  | bool => exact .bool _
  | int => exact .int _ _
  | str => exact .str _
  | ptr0 => exact .ptr0
  | slice0 => exact .slice0
  | nilFunc => exact .nilFunc
  | nilIface => exact .nilIface
  | func => exact .func _
theorem AR.gle {g g' : List (Option GB)} (h : Gle g g') {v w : Value} (hv : AR g v w) : AR g' v w := by
  cases hv with
  | s hs => exact .s (hs.gle h)
  | agg hf => exact .agg (hf.imp fun _ _ h' => h'.gle h)
theorem VR.gle {g g' : List (Option GB)} (h : Gle g g') {v w : Value} (hv : VR g v w) : VR g' v w := by
  cases hv with
  | a ha => exact .a (ha.gle h)
  | tup hf => exact .tup (hf.imp fun _ _ h' => h'.gle h)
  | top => exact .top _

theorem getElem?_take_of_lt {α : Type} {l : List α} {n i : Nat} (h : i < n) : (l.take n)[i]? = l[i]? := by rw [List.getElem?_take, if_pos h]

theorem SR.low {g : List (Option GB)} {n : Nat} {v w : Value} (hv : SR g v w) (hl : lowS n v = true) : SR (g.take n) v w := by
  cases hv with
  | top _ h => exact .top _ h
  | ptr j off gb hg => exact .ptr _ off gb (by rw [getElem?_take_of_lt (by simpa [lowS] using hl)]; exact hg)
  | slice j off len cap gb hg => exact .slice _ off len cap gb (by rw [getElem?_take_of_lt (by simpa [lowS] using hl)]; exact hg)
  | bool => exact .bool _
  | int => exact .int _ _
  | str => exact .str _
  | ptr0 => exact .ptr0
  | slice0 => exact .slice0
  | nilFunc => exact .nilFunc
  | nilIface => exact .nilIface
  | func => exact .func _
theorem F2.low {R S : Value → Value → Prop} {p : Value → Bool} (h : ∀ v w, R v w → p v = true → S v w) : ∀ {l l' : List Value}, F2 R l l' → l.all p = true → F2 S l l'
  | [], [], _, _ => .nil
  | v :: l, w :: l', .cons hr hf, hp => by
    simp only [List.all_cons, Bool.and_eq_true] at hp
    exact .cons (h v w hr hp.1) (F2.low h hf hp.2)
theorem AR.low {g : List (Option GB)} {n : Nat} {v w : Value} (hv : AR g v w) (hl : low1 n v = true) : AR (g.take n) v w := by
  cases hv with
  | s hs =>
    refine .s (hs.low ?_)
    have := hs.scalar.1
    cases v <;> first | exact hl | cases this
  | agg hf => exact .agg (F2.low (p := lowS n) (fun _ _ h hp => SR.low h hp) hf hl)
theorem VR.low {g : List (Option GB)} {n : Nat} {v w : Value} (hv : VR g v w) (hl : AE.low n v = true) : VR (g.take n) v w := by
  cases hv with
  | a ha =>
    refine .a (ha.low ?_)
    cases ha with
    | s hs =>
      have := hs.scalar.1
      cases v <;> first | exact hl | cases this
    | agg _ => exact hl
  | tup hf => exact .tup (F2.low (p := low1 n) (fun _ _ h hp => AR.low h hp) hf hl)
  | top => exact .top _
end Go.AE
namespace Go.AE
set_option linter.unusedSimpArgs false
variable {P : Program}

/-- Which operations an operation waits for. -/
def waits (o : Oper) : List Nat := (o.after.toList.filter (Region.binds .any)).map (·.on)
/-- The same, and what those wait for, and so on. -/
def closures (all : List Oper) : List (List Nat) := all.foldl (fun acc o => acc ++ [(waits o).flatMap fun j => j :: acc.getD j []]) []

/-- The new blocks so far: whose they are, and what they bear. -/
abbrev Slots := List (Nat × ABlk)
/-- The memory that operation i sees. -/
def memFor (cl : List Nat) (m : Mem) (sl : Slots) : Mem := roM m ++ sl.map fun p => if cl.contains p.1 then some (roBlk p.2) else none
/-- The frame that an operation sees: what it does not look at is not known. -/
def rhoFor (rd : List Tmp) (a : List Value) : Operand → Value
  | .tmp t => if rd.contains t then aeval a (.tmp t) else topV
  | x => aeval a x

/-- What is asked of the state in which a quiet operation is met (in the order of the text), and of what it comes to. -/
def QtOK (P : Program) (all : List Oper) (cl : List Nat) (m : Mem) (o : Oper) (a : List Value) (sl : Slots) (d : QD) : Prop :=
  (∀ t ∈ o.looksAt all.toArray, low (m.length + sl.length) (aeval a (.tmp t)) = true) ∧
  (match o.guard with
   | none => Quiet P o (rhoFor (o.looksAt all.toArray) a) (memFor cl m sl) d
   | some (j, want) => ∃ b, ((all[j]?).bind (·.dst)).bind (a[·]?) = some (.bool b) ∧ (b = want → Quiet P o (rhoFor (o.looksAt all.toArray) a) (memFor cl m sl) d) ∧ (b ≠ want → d = ⟨undef, none⟩))

/-- The quiet operations from number i on, and where they lead to. -/
inductive Qts (P : Program) (all : List Oper) (cls : List (List Nat)) (m : Mem) : Nat → List Oper → List Value → Slots → List QD → List Value → Slots → Prop
  | nil (i : Nat) (a : List Value) (sl : Slots) : Qts P all cls m i [] a sl [] a sl
  | cons {i : Nat} {o : Oper} {rest : List Oper} {a a' : List Value} {sl sl' : Slots} {d : QD} {ds : List QD} : (∀ b, d.nb = some b → b.rw = true) → QtOK P all (cls.getD i []) m o a sl d →
      Qts P all cls m (i + 1) rest (putA a o.dst d.v) (sl ++ d.nb.toList.map fun b => (i, b)) ds a' sl' → Qts P all cls m i (o :: rest) a sl (d :: ds) a' sl'

/-- Operations that leave the memory as it is, but for one new block. -/
def quietOp : Op → Bool
  | .store _ _ _ => false
  | .call ⟨.builtin .append, _, _⟩ => false
  | .call ⟨.value _, _, _⟩ => false
  | _ => true

/-- What the evaluation of a region's quiet operations asks. -/
def evQ {R : Type} (X : Ops R) (T : Tab P) (all : List Oper) (cls : List (List Nat)) (m : Mem) : Nat → List Oper → List Value → Slots → (List Value → Slots → R) → R
  | _, [], a, sl, k => forceL a fun a => k a sl
  | i, o :: rest, a, sl, k =>
    let D := memFor (cls.getD i []) m sl
    let ρ := rhoFor (o.looksAt all.toArray) a
    let go (d : QD) : R := X.nd (match d.nb with | some b => b.rw | none => true) (forceV d.v fun v => evQ X T all cls m (i + 1) rest (putA a o.dst v) (sl ++ d.nb.toList.map fun b => (i, b)) k)
    let one : R := match o.op with
      | .call ⟨.value f, args, _⟩ =>
        match ρ f with
        | .func (.func n) ⟨[]⟩ ⟨[]⟩ => if T.fn n then X.pcall n (args.toList.map ρ) D fun v nb => go ⟨v, nb⟩ else X.fl
        | _ => X.fl
      | op =>
        if quietOp op then
          match evOp optO T op ρ D (fun v m => some ([], v, m)) with
          | some (cs, v, m') =>
            match m'.drop D.length with
            | [some b] => cs.foldr X.nd (go ⟨v, some b⟩)
            | _ => cs.foldr X.nd (go ⟨v, none⟩)
          | none => X.fl
        else X.fl
    if (o.looksAt all.toArray).all fun t => low (m.length + sl.length) (aeval a (.tmp t)) then
      match o.guard with
      | none => one
      | some (j, want) =>
        match ((all[j]?).bind (·.dst)).bind (a[·]?) with
        | some (.bool b) => X.br (b == want) one (go ⟨undef, none⟩)
        | _ => X.fl
    else X.fl

/-- Which of the region's temporaries are whose. -/
def slotsOk (all : List Oper) (q : Nat) : Bool :=
  (List.range q).all fun i => (List.range q).all fun k => i == k ||
    match all[i]?, all[k]? with
    | some oi, some ok =>
      match ok.dst with
      | some t => oi.dst != some t && (!(oi.looksAt all.toArray).contains t || (decide (k < i) && (waits oi).contains k) || (decide (i < k) && (waits ok).contains i))
      | none => true
    | _, _ => true

/-- Every operation waits for earlier ones alone; those from number q on wait for all ahead of them. -/
def orderOk (all : List Oper) (cls : List (List Nat)) (q : Nat) : Bool :=
  (List.range all.length).all fun i =>
    (match all[i]? with
     | some o => (waits o).all fun j => decide (j < i)
     | none => true) && (decide (i < q) || (List.range i).all fun j => (cls.getD i []).contains j)

theorem foldr_opt : ∀ (l : List Bool) (r : Option (List Bool × Value × Mem)) {cs : List Bool} {v : Value} {m' : Mem}, l.foldr optO.nd r = some (cs, v, m') → ∃ cs', r = some (cs', v, m')
  | [], r, cs, v, m', h => ⟨cs, h⟩
  | c :: l, r, cs, v, m', h => by
    have h : (l.foldr optO.nd r).map (fun p => (c :: p.1, p.2)) = some (cs, v, m') := h
    cases hr : l.foldr optO.nd r with
    | none => rw [hr] at h; cases h
    | some p =>
      rw [hr] at h
      simp only [Option.map_some, Option.some.injEq, Prod.mk.injEq] at h
      obtain ⟨p1, p2⟩ := p
      simp only at h
      obtain ⟨_, rfl⟩ := h
      exact foldr_opt l r hr
theorem nd_opt {c : Bool} {r : Option (List Bool × Value × Mem)} {cs : List Bool} {v : Value} {m' : Mem} (h : optO.nd c r = some (cs, v, m')) : ∃ cs', r = some (cs', v, m') := foldr_opt [c] r h

theorem quiet_mem {T : Tab P} {op : Op} (hq : quietOp op = true) {ρ : Operand → Value} {D : Mem} {cs : List Bool} {v : Value} {m' : Mem} (h : evOp optO T op ρ D (fun v m => some ([], v, m)) = some (cs, v, m')) :
    m' = D ∨ ∃ b, m' = D ++ [some b] := by
  have same : ∀ {v' : Value} {m1 : Mem} {cs' : List Bool}, (some (([] : List Bool), v', m1) : Option (List Bool × Value × Mem)) = some (cs', v, m') → m' = m1 := by
    intro v' m1 cs' h
    simp only [Option.some.injEq, Prod.mk.injEq] at h
    exact h.2.2.symm
  cases op with
  | store _ _ _ => cases hq
  | pick c a b =>
    simp only [evOp, evPick, evAlloc, evOpt, evCond, evBuildSlice, evNil, evExtract, evBuiltin, evCall] at h
    split at h
    · split at h
      · exact .inl (same h)
      · split at h
        · exact .inl (same h)
        · cases h
      · exact .inl (same h)
      · cases h
    · cases h
  | alloc e =>
    simp only [evOp, evPick, evAlloc, evOpt, evCond, evBuildSlice, evNil, evExtract, evBuiltin, evCall] at h
    repeat' (split at h)
    all_goals first | (cases h; done) | exact .inr ⟨_, same h⟩
  | box e x =>
    simp only [evOp, evPick, evAlloc, evOpt, evCond, evBuildSlice, evNil, evExtract, evBuiltin, evCall] at h
    split at h
    · exact .inr ⟨_, same h⟩
    · cases h
  | buildSlice t' len parts =>
    simp only [evOp, evPick, evAlloc, evOpt, evCond, evBuildSlice, evNil, evExtract, evBuiltin, evCall] at h
    split at h
    · exact .inr ⟨_, same h⟩
    · cases h
  | load t' a =>
    simp only [evOp, evLoad] at h
    split at h
    case h_2 => cases h
    split at h
    case h_2 => cases h
    split at h
    · obtain ⟨cs', h⟩ := nd_opt h
      exact .inl (same h)
    · simp only [optO] at h
      split at h
      · exact .inl (same h)
      · cases h
  | slice t' x lo hi mx =>
    cases mx with
    | some _ => cases h
    | none =>
      simp only [evOp, evSlice] at h
      split at h
      · split at h
        · obtain ⟨cs', h⟩ := foldr_opt _ _ h
          exact .inl (same h)
        · cases h
      · split at h
        case h_2 => cases h
        obtain ⟨cs', h⟩ := nd_opt h
        split at h
        · cases h
        · obtain ⟨cs', h⟩ := nd_opt h
          exact .inl (same h)
      · split at h
        case h_2 => cases h
        obtain ⟨cs', h⟩ := nd_opt h
        exact .inl (same h)
      · split at h
        case h_2 => cases h
        obtain ⟨cs', h⟩ := nd_opt h
        exact .inl (same h)
      · cases h
  | extract x i =>
    simp only [evOp, evPick, evAlloc, evOpt, evCond, evBuildSlice, evNil, evExtract, evBuiltin, evCall] at h
    split at h
    · simp only [optO] at h
      split at h
      · exact .inl (same h)
      · cases h
    · cases h
  | call cl =>
    obtain ⟨callee, args, ts⟩ := cl
    cases callee with
    | invoke _ _ => cases h
    | value f => cases hq
    | builtin b =>
      cases b with
      | append => cases hq
      | len =>
        simp only [evOp, evPick, evAlloc, evOpt, evCond, evBuildSlice, evNil, evExtract, evBuiltin, evCall] at h
        repeat' (split at h)
        all_goals first | (cases h; done) | exact .inl (same h)
      | min =>
        simp only [evOp, evPick, evAlloc, evOpt, evCond, evBuildSlice, evNil, evExtract, evBuiltin, evCall] at h
        repeat' (split at h)
        all_goals first | (cases h; done) | exact .inl (same h)
      | max =>
        simp only [evOp, evPick, evAlloc, evOpt, evCond, evBuildSlice, evNil, evExtract, evBuiltin, evCall] at h
        repeat' (split at h)
        all_goals first | (cases h; done) | exact .inl (same h)
      | _ => cases h
  | move x => exact .inl (same h)
  | assign x => exact .inl (same h)
  | build _ _ =>
    simp only [evOp, evPick, evAlloc, evOpt, evCond, evBuildSlice, evNil, evExtract, evBuiltin, evCall] at h
    split at h
    · exact .inl (same h)
    · cases h
  | nilCheck _ =>
    simp only [evOp, evPick, evAlloc, evOpt, evCond, evBuildSlice, evNil, evExtract, evBuiltin, evCall] at h
    split at h
    · exact .inl (same h)
    · cases h
  | binOp _ _ _ _ _ =>
    simp only [evOp, evPick, evAlloc, evOpt, evCond, evBuildSlice, evNil, evExtract, evBuiltin, evCall] at h
    split at h
    · obtain ⟨cs', h⟩ := foldr_opt _ _ h
      exact .inl (same h)
    · cases h
  | unOp _ _ _ =>
    simp only [evOp, evPick, evAlloc, evOpt, evCond, evBuildSlice, evNil, evExtract, evBuiltin, evCall] at h
    split at h
    · exact .inl (same h)
    · cases h
  | convert _ _ _ =>
    simp only [evOp, evConv] at h
    split at h
    · split at h
      · split at h
        · obtain ⟨cs', h⟩ := nd_opt h
          exact .inl (same h)
        · cases h
      · cases h
    · split at h
      · split at h
        · exact .inl (same h)
        · cases h
      · cases h
    · simp only [evOpt] at h
      split at h
      · exact .inl (same h)
      · cases h
  | fieldAddr _ _ _ =>
    simp only [evOp, evPick, evAlloc, evOpt, evCond, evBuildSlice, evNil, evExtract, evBuiltin, evCall] at h
    split at h
    · exact .inl (same h)
    · cases h
  | field _ _ _ =>
    simp only [evOp, evPick, evAlloc, evOpt, evCond, evBuildSlice, evNil, evExtract, evBuiltin, evCall] at h
    split at h
    · exact .inl (same h)
    · cases h
  | indexAddr _ _ _ =>
    simp only [evOp, evPick, evAlloc, evOpt, evCond, evBuildSlice, evNil, evExtract, evBuiltin, evCall] at h
    split at h
    · obtain ⟨cs', h⟩ := foldr_opt _ _ h
      exact .inl (same h)
    · cases h
  | index _ _ _ =>
    simp only [evOp, evPick, evAlloc, evOpt, evCond, evBuildSlice, evNil, evExtract, evBuiltin, evCall] at h
    split at h
    · obtain ⟨cs', h⟩ := foldr_opt _ _ h
      exact .inl (same h)
    · cases h
  | _ => cases h

theorem evQ_ok {n₀ : Nat} {R : Type} {X : Ans P n₀ R} {T : Tab P} {all : List Oper} {cls : List (List Nat)} {m : Mem} : ∀ (l : List Oper) (i : Nat) (a : List Value) (sl : Slots) (k : List Value → Slots → R),
    X.holds (evQ X T all cls m i l a sl k) → ∃ ds a' sl', Qts P all cls m i l a sl ds a' sl' ∧ X.holds (k a' sl')
  | [], i, a, sl, k, h => by
    simp only [evQ, forceL_eq] at h
    exact ⟨[], a, sl, .nil i a sl, h⟩
  | o :: rest, i, a, sl, k, h => by
    simp only [evQ, forceV_eq] at h
    split at h
    case isFalse => exact absurd h X.fl_ok
    rename_i hlow
    have hlow' : ∀ t ∈ o.looksAt all.toArray, low (m.length + sl.length) (aeval a (.tmp t)) = true := fun t ht => List.all_eq_true.1 hlow t ht
    -- one operation
    have one : X.holds (match o.op with
      | .call ⟨.value f, args, _⟩ =>
        match rhoFor (o.looksAt all.toArray) a f with
        | .func (.func n) ⟨[]⟩ ⟨[]⟩ => if T.fn n then X.pcall n (args.toList.map (rhoFor (o.looksAt all.toArray) a)) (memFor (cls.getD i []) m sl) fun v nb => X.nd (match nb with | some b => b.rw | none => true) (evQ X T all cls m (i + 1) rest (putA a o.dst v) (sl ++ nb.toList.map fun b => (i, b)) k) else X.fl
        | _ => X.fl
      | op =>
        if quietOp op then
          match evOp optO T op (rhoFor (o.looksAt all.toArray) a) (memFor (cls.getD i []) m sl) (fun v m => some ([], v, m)) with
          | some (cs, v, m') =>
            match m'.drop (memFor (cls.getD i []) m sl).length with
            | [some b] => cs.foldr X.nd (X.nd b.rw (evQ X T all cls m (i + 1) rest (putA a o.dst v) (sl ++ (some b : Option ABlk).toList.map fun b => (i, b)) k))
            | _ => cs.foldr X.nd (X.nd true (evQ X T all cls m (i + 1) rest (putA a o.dst v) (sl ++ (none : Option ABlk).toList.map fun b => (i, b)) k))
          | none => X.fl
        else X.fl) →
        ∃ d : QD, (∀ b, d.nb = some b → b.rw = true) ∧ Quiet P o (rhoFor (o.looksAt all.toArray) a) (memFor (cls.getD i []) m sl) d ∧ X.holds (evQ X T all cls m (i + 1) rest (putA a o.dst d.v) (sl ++ d.nb.toList.map fun b => (i, b)) k) := by
      intro h
      split at h
      · rename_i f args ts hop
        split at h
        case h_2 => exact absurd h X.fl_ok
        rename_i n hf
        split at h
        case isFalse => exact absurd h X.fl_ok
        rename_i hfn
        obtain ⟨v, nb, hc, hk⟩ := X.pcall_ok _ _ _ _ h
        obtain ⟨hrw, hk⟩ := X.nd_ok _ _ hk
        exact ⟨⟨v, nb⟩, fun b hb => by have hb : nb = some b := hb; rw [hb] at hrw; exact hrw, Quiet.of_call hop hf hfn hc, hk⟩
      · split at h
        case isFalse => exact absurd h X.fl_ok
        rename_i hq
        split at h
        case h_2 => exact absurd h X.fl_ok
        rename_i cs v m' hev
        rcases quiet_mem hq hev with hm | ⟨b, hm⟩
        · have hd : m'.drop (memFor (cls.getD i []) m sl).length = [] := by rw [hm]; simp
          rw [hd] at h
          obtain ⟨hc, hk⟩ := foldr_nd _ _ h
          obtain ⟨_, hk⟩ := X.nd_ok _ _ hk
          refine ⟨⟨v, none⟩, fun b hb => (by cases hb), Quiet.of_ev (T := T) (cs := cs) ?_ hc, hk⟩
          rw [hev, hm]; simp
        · have hd : m'.drop (memFor (cls.getD i []) m sl).length = [some b] := by rw [hm]; simp
          rw [hd] at h
          obtain ⟨hc, hk⟩ := foldr_nd _ _ h
          obtain ⟨hrw, hk⟩ := X.nd_ok _ _ hk
          refine ⟨⟨v, some b⟩, fun b' hb => (by cases hb; exact hrw), Quiet.of_ev (T := T) (cs := cs) ?_ hc, hk⟩
          rw [hev, hm]; simp
    split at h
    · rename_i hg
      obtain ⟨d, hrw, hQ, hk⟩ := one h
      obtain ⟨ds, a', sl', hqs, hk'⟩ := evQ_ok rest _ _ _ k hk
      exact ⟨d :: ds, a', sl', .cons hrw ⟨hlow', by rw [hg]; exact hQ⟩ hqs, hk'⟩
    · rename_i j want hg
      split at h
      case h_2 => exact absurd h X.fl_ok
      rename_i b hb
      obtain ⟨h1, h2⟩ := X.br_ok _ _ _ h
      by_cases hbw : b = want
      · obtain ⟨d, hrw, hQ, hk⟩ := one (h1 (by simpa using hbw))
        obtain ⟨ds, a', sl', hqs, hk'⟩ := evQ_ok rest _ _ _ k hk
        exact ⟨d :: ds, a', sl', .cons hrw ⟨hlow', by rw [hg]; exact ⟨b, hb, fun _ => hQ, fun h => absurd hbw h⟩⟩ hqs, hk'⟩
      · obtain ⟨_, h2⟩ := X.nd_ok _ _ (h2 (by simpa using hbw))
        obtain ⟨ds, a', sl', hqs, hk'⟩ := evQ_ok rest (i + 1) (putA a o.dst undef) (sl ++ (none : Option ABlk).toList.map fun b => (i, b)) k h2
        exact ⟨⟨undef, none⟩ :: ds, a', sl', .cons (d := ⟨undef, none⟩) (fun b hb => by cases hb) ⟨hlow', by rw [hg]; exact ⟨b, hb, fun h => absurd h hbw, fun _ => rfl⟩⟩ hqs, hk'⟩
end Go.AE
namespace Go.AE
variable {P : Program}

/-- A region's data: its operations, what they wait for, what the quiet ones (the first q) come to. -/
structure RD where
  all : List Oper
  cls : List (List Nat)
  q : Nat
  m : Mem
  a : List Value
  fr : Nat → List Value
  sl : Nat → Slots
  d : Nat → QD

def RD.dst (r : RD) (k : Nat) : Option Tmp := (r.all[k]?).bind (·.dst)

/-- What is known of the data. -/
structure RDOK (P : Program) (r : RD) : Prop where
  le : r.q ≤ r.all.length
  fr0 : r.fr 0 = r.a
  sl0 : r.sl 0 = []
  step : ∀ i o, i < r.q → r.all[i]? = some o → (∀ b, (r.d i).nb = some b → b.rw = true) ∧ QtOK P r.all (r.cls.getD i []) r.m o (r.fr i) (r.sl i) (r.d i) ∧
    r.fr (i + 1) = putA (r.fr i) o.dst (r.d i).v ∧ r.sl (i + 1) = r.sl i ++ (r.d i).nb.toList.map fun b => (i, b)
  early : ∀ i o, r.all[i]? = some o → ∀ j ∈ waits o, j < i
  cl : ∀ i o, r.all[i]? = some o → ∀ x ∈ r.cls.getD i [], x ∈ waits o ∨ ∃ j ∈ waits o, x ∈ r.cls.getD j []
  tail : ∀ i j, r.q ≤ i → i < r.all.length → j < i → j ∈ r.cls.getD i []
  dsts : ∀ i k t, i < r.q → k < r.q → i ≠ k → r.dst k = some t → r.dst i ≠ some t
  looks : ∀ i k oi ok t, i < r.q → k < r.q → i ≠ k → r.all[i]? = some oi → r.all[k]? = some ok → ok.dst = some t → t ∈ oi.looksAt r.all.toArray → (k < i ∧ k ∈ waits oi) ∨ (i < k ∧ i ∈ waits ok)

/-- The frame when just the operations of E have come up. -/
def RD.frE (r : RD) (E : Nat → Bool) : List Value :=
  (List.range r.a.length).map fun t => match (List.range r.q).find? (fun k => E k && r.dst k == some t) with
    | some k => (r.d k).v
    | none => (r.a[t]?).getD undef
/-- The memory then. -/
def RD.mE (r : RD) (E : Nat → Bool) : Mem := r.m ++ (r.sl r.q).map fun p => if E p.1 then some p.2 else none

theorem find_congr {p p' : Nat → Bool} {n : Nat} (h : ∀ k, k < n → p k = p' k) : (List.range n).find? p = (List.range n).find? p' := by
  have : ∀ l : List Nat, (∀ k ∈ l, p k = p' k) → l.find? p = l.find? p' := by
    intro l
    induction l with
    | nil => intro _; rfl
    | cons x l ih =>
      intro hl
      rw [List.find?_cons, List.find?_cons, hl x (by simp), ih fun k hk => hl k (by simp [hk])]
  exact this _ fun k hk => h k (List.mem_range.1 hk)
theorem find_unique {p : Nat → Bool} {n i : Nat} (hi : i < n) (hp : p i = true) (h : ∀ k, k < n → p k = true → k = i) : (List.range n).find? p = some i := by
  cases hf : (List.range n).find? p with
  | none =>
    have := List.find?_eq_none.1 hf i (List.mem_range.2 hi)
    exact absurd hp this
  | some k =>
    have h1 := List.find?_some hf
    have h2 := List.mem_of_find?_eq_some hf
    rw [h k (List.mem_range.1 h2) h1]

variable {r : RD} {G₀ : List (Option GB)}

theorem RD.frE_get (r : RD) (E : Nat → Bool) (t : Nat) : (r.frE E)[t]? = if t < r.a.length then some (match (List.range r.q).find? (fun k => E k && r.dst k == some t) with
    | some k => (r.d k).v
    | none => (r.a[t]?).getD undef) else none := by
  unfold RD.frE
  rw [List.getElem?_map]
  split
  · rename_i h; rw [List.getElem?_range h]; rfl
  · rename_i h; rw [List.getElem?_eq_none (by simpa using Nat.le_of_not_lt h)]; rfl

theorem RD.frE_congr (r : RD) {E E' : Nat → Bool} (h : ∀ k, k < r.q → E k = E' k) : r.frE E = r.frE E' := by
  apply List.ext_getElem?
  intro t
  rw [r.frE_get, r.frE_get, find_congr (p' := fun k => E' k && r.dst k == some t)]
  intro k hk
  rw [h k hk]

theorem RD.frE_put (h : RDOK P r) {E : Nat → Bool} {i : Nat} (hi : i < r.q) (hE : E i = false) : r.frE (fun k => E k || k == i) = putA (r.frE E) (r.dst i) (r.d i).v := by
  apply List.ext_getElem?
  intro t
  rw [r.frE_get]
  have other : r.dst i ≠ some t → (List.range r.q).find? (fun k => (E k || k == i) && r.dst k == some t) = (List.range r.q).find? (fun k => E k && r.dst k == some t) := by
    intro hne
    apply find_congr
    intro k hk
    by_cases hki : k = i
    · subst hki
      have : (r.dst k == some t) = false := by simpa using hne
      rw [this]; simp
    · have : (k == i) = false := by simpa using hki
      rw [this]; simp
  cases hd : r.dst i with
  | none =>
    simp only [putA]
    rw [r.frE_get, other (by rw [hd]; simp)]
  | some u =>
    simp only [putA]
    rw [List.getElem?_set, r.frE_get]
    by_cases hut : u = t
    · subst hut
      rw [if_pos rfl]
      have hl : (r.frE E).length = r.a.length := by simp [RD.frE]
      rw [hl]
      have hf : (List.range r.q).find? (fun k => (E k || k == i) && r.dst k == some u) = some i := by
        refine find_unique hi (by simp [hd]) ?_
        intro k hk hp
        rcases Classical.em (k = i) with hki | hki
        · exact hki
        · exfalso
          simp only [Bool.and_eq_true, beq_iff_eq] at hp
          exact h.dsts k i u hk hi hki hd hp.2
      rw [hf]
    · rw [if_neg hut, other (by rw [hd]; simpa using hut)]

theorem RD.fr_lex (h : RDOK P r) : ∀ i, i ≤ r.q → r.fr i = r.frE (fun k => decide (k < i))
  | 0, _ => by
    rw [h.fr0]
    apply List.ext_getElem?
    intro t
    rw [r.frE_get]
    have : (List.range r.q).find? (fun k => decide (k < 0) && r.dst k == some t) = none := by
      rw [List.find?_eq_none]; intro k _; simp
    rw [this]
    split
    · rename_i hl; rw [List.getElem?_eq_getElem hl]; rfl
    · rename_i hl; exact List.getElem?_eq_none (Nat.le_of_not_lt hl)
  | i + 1, hi => by
    have hil : i < r.all.length := by have := h.le; omega
    obtain ⟨_, _, hf, _⟩ := h.step i r.all[i] (by omega) (List.getElem?_eq_getElem hil)
    rw [hf, RD.fr_lex h i (by omega)]
    have hd : r.dst i = r.all[i].dst := by simp [RD.dst, List.getElem?_eq_getElem hil]
    rw [← hd, ← RD.frE_put h (by omega) (by simp)]
    apply r.frE_congr
    intro k hk
    by_cases h1 : k < i
    · simp [h1]; omega
    · by_cases h2 : k = i
      · simp [h2]
      · have : ¬ k < i + 1 := by omega
        simp [h1, h2, this]

theorem RD.sl_prefix (h : RDOK P r) : ∀ n i, i + n ≤ r.q → ∃ more : Slots, r.sl (i + n) = r.sl i ++ more ∧ ∀ p ∈ more, i ≤ p.1 ∧ p.1 < i + n
  | 0, i, _ => ⟨[], by simp, by simp⟩
  | n + 1, i, hi => by
    obtain ⟨more, hm, hp⟩ := RD.sl_prefix h n i (by omega)
    have hil : i + n < r.all.length := by have := h.le; omega
    obtain ⟨_, _, _, hs⟩ := h.step (i + n) r.all[i + n] (by omega) (List.getElem?_eq_getElem hil)
    refine ⟨more ++ (r.d (i + n)).nb.toList.map fun b => (i + n, b), by rw [← Nat.add_assoc, hs, hm, List.append_assoc], ?_⟩
    intro p hp'
    rcases List.mem_append.1 hp' with hp' | hp'
    · have := hp p hp'; omega
    · obtain ⟨b, _, rfl⟩ := List.mem_map.1 hp'
      simp only; omega

theorem RD.sl_low (h : RDOK P r) {i : Nat} (hi : i ≤ r.q) : ∀ p ∈ r.sl i, p.1 < i := by
  obtain ⟨more, hm, hp⟩ := RD.sl_prefix h i 0 (by omega)
  rw [Nat.zero_add, h.sl0, List.nil_append] at hm
  intro p hp'
  rw [hm] at hp'
  have := hp p hp'
  omega

theorem RD.sl_split (h : RDOK P r) {i : Nat} (hi : i < r.q) : ∃ more : Slots, r.sl r.q = r.sl i ++ ((r.d i).nb.toList.map fun b => (i, b)) ++ more ∧ ∀ p ∈ more, i < p.1 := by
  obtain ⟨more, hm, hp⟩ := RD.sl_prefix h (r.q - (i + 1)) (i + 1) (by omega)
  rw [show i + 1 + (r.q - (i + 1)) = r.q from by omega] at hm
  have hil : i < r.all.length := by have := h.le; omega
  obtain ⟨_, _, _, hs⟩ := h.step i r.all[i] hi (List.getElem?_eq_getElem hil)
  rw [hs] at hm
  exact ⟨more, hm, fun p hp' => by have := hp p hp'; omega⟩

/-- Where operation i's new block lies. -/
def RD.id (r : RD) (i : Nat) : Nat := r.m.length + (r.sl i).length

theorem RD.mE_length (r : RD) (E : Nat → Bool) : (r.mE E).length = r.m.length + (r.sl r.q).length := by simp [RD.mE]

theorem RD.mE_none (h : RDOK P r) {E : Nat → Bool} {i : Nat} (hi : i < r.q) (hn : (r.d i).nb = none) : r.mE (fun k => E k || k == i) = r.mE E := by
  obtain ⟨more, hm, hp⟩ := RD.sl_split h hi
  rw [hn] at hm
  simp only [Option.toList_none, List.map_nil, List.append_nil] at hm
  unfold RD.mE
  congr 1
  apply List.map_congr_left
  intro p hp'
  have hne : p.1 ≠ i := by
    rw [hm] at hp'
    rcases List.mem_append.1 hp' with h1 | h1
    · have := RD.sl_low h (Nat.le_of_lt hi) p h1; omega
    · have := hp p h1; omega
  simp [hne]

theorem RD.mE_some (h : RDOK P r) {E : Nat → Bool} {i : Nat} (hi : i < r.q) (hE : E i = false) {b : ABlk} (hb : (r.d i).nb = some b) :
    r.id i < (r.mE E).length ∧ (r.mE E)[r.id i]? = some none ∧ r.mE (fun k => E k || k == i) = (r.mE E).set (r.id i) (some b) := by
  obtain ⟨more, hm, hp⟩ := RD.sl_split h hi
  rw [hb] at hm
  simp only [Option.toList_some, List.map_cons, List.map_nil] at hm
  have e0 : r.mE E = (r.m ++ (r.sl i).map fun p => if E p.1 then some p.2 else none) ++ none :: more.map fun p => if E p.1 then some p.2 else none := by
    unfold RD.mE
    rw [hm]
    simp [hE]
  have e1 : r.mE (fun k => E k || k == i) = (r.m ++ (r.sl i).map fun p => if E p.1 then some p.2 else none) ++ some b :: more.map fun p => if E p.1 then some p.2 else none := by
    unfold RD.mE
    rw [hm]
    simp only [List.map_append, List.map_cons, List.append_assoc, List.singleton_append, beq_self_eq_true, Bool.or_true, if_true]
    congr 1
    have g1 : ∀ p ∈ r.sl i, (if (E p.1 || p.1 == i) = true then some p.2 else none) = if E p.1 = true then some p.2 else none := by
      intro p hp'
      have := RD.sl_low h (Nat.le_of_lt hi) p hp'
      have : (p.1 == i) = false := by simpa using Nat.ne_of_lt this
      rw [this]; simp
    have g2 : ∀ p ∈ more, (if (E p.1 || p.1 == i) = true then some p.2 else none) = if E p.1 = true then some p.2 else none := by
      intro p hp'
      have := hp p hp'
      have : (p.1 == i) = false := by simpa using Nat.ne_of_gt this
      rw [this]; simp
    rw [List.map_congr_left g1, List.map_congr_left g2]
  have hl : (r.m ++ (r.sl i).map fun p => if E p.1 then some p.2 else none).length = r.id i := by simp [RD.id]
  refine ⟨by rw [e0]; simp [RD.id], ?_, ?_⟩
  · rw [e0, List.getElem?_append_right (by rw [hl]; exact Nat.le_refl _), hl]; simp
  · rw [e1, e0, List.set_append_right _ _ (by rw [hl]; exact Nat.le_refl _), hl]; simp

theorem SR.lowS {g : List (Option GB)} {v w : Value} (h : SR g v w) : AE.lowS g.length v = true := by
  cases h with
  | ptr j off gb hg => simpa [AE.lowS] using lt_of_getElem? hg
  | slice j off len cap gb hg => simpa [AE.lowS] using lt_of_getElem? hg
  | top => rfl
  | bool => rfl
  | int => rfl
  | str => rfl
  | ptr0 => rfl
  | slice0 => rfl
  | nilFunc => rfl
  | nilIface => rfl
  | func => rfl
theorem F2.lowS {g : List (Option GB)} {l l' : List Value} (h : F2 (SR g) l l') : l.all (AE.lowS g.length) = true := by
  induction h with
  | nil => rfl
  | cons hr _ ih => simp only [List.all_cons, Bool.and_eq_true]; exact ⟨hr.lowS, ih⟩
theorem lowS_le {n n' : Nat} (h : n ≤ n') {v : Value} (hl : AE.lowS n v = true) : AE.lowS n' v = true := by
  unfold AE.lowS at *
  split at hl <;> simp_all <;> omega
theorem all_lowS_le {n n' : Nat} (h : n ≤ n') {l : List Value} (hl : l.all (AE.lowS n) = true) : l.all (AE.lowS n') = true :=
  List.all_eq_true.2 fun v hv => lowS_le h (List.all_eq_true.1 hl v hv)

/-- The world 'W' and the frame 'A' when just the operations of E have come up. -/
structure RSt (P : Program) (r : RD) (c : Ctx) (G₀ : List (Option GB)) (E : Nat → Bool) (G : List (Option GB)) (A : Act) (W : World) : Prop where
  rel : Rel P c G (r.mE E) W
  frm : ARel G (r.frE E) A
  base : ∀ j, j < r.m.length → G[j]? = G₀[j]?
  none_ : ∀ i b, i < r.q → E i = false → (r.d i).nb = some b → G[r.id i]? = some none
  low : ∀ (j : Nat) (b : ABlk) (gb : GB), (r.mE E)[j]? = some (some b) → G[j]? = some (some gb) → b.cells.all (AE.lowS (max r.m.length (j + 1))) = true

theorem Gle.refl (g : List (Option GB)) : Gle g g := fun _ _ h => h
theorem Gle.set {g : List (Option GB)} {i : Nat} (h : g[i]? = some none) (x : Option GB) : Gle g (g.set i x) := by
  intro j gb hj
  rw [List.getElem?_set]
  split
  · rename_i e; subst e; rw [h] at hj; simp at hj
  · exact hj
theorem Gle.take (g : List (Option GB)) (n : Nat) : Gle (g.take n) g := by
  intro j gb hj
  rw [List.getElem?_take] at hj
  split at hj
  · exact hj
  · cases hj
theorem Gle.take_set {g : List (Option GB)} {n : Nat} (x : Option GB) (hn : n < g.length) : Gle (g.take n ++ [x]) (g.set n x) := by
  intro j gb hj
  have hl : (g.take n).length = n := by simp; omega
  rcases Nat.lt_trichotomy j n with h | h | h
  · rw [List.getElem?_append_left (by rw [hl]; exact h), getElem?_take_of_lt h] at hj
    rw [List.getElem?_set, if_neg (by omega)]; exact hj
  · subst h
    rw [List.getElem?_append_right (by rw [hl]; exact Nat.le_refl _), hl] at hj
    rw [List.getElem?_set, if_pos rfl, if_pos hn]
    simpa using hj
  · rw [List.getElem?_eq_none (by simp; omega)] at hj; cases hj

theorem contains_iff {l : List Nat} {x : Nat} : l.contains x = true ↔ x ∈ l := by simp

/-- The memory that operation i sees is there. -/
theorem RSt.view {c : Ctx} {E : Nat → Bool} {G : List (Option GB)} {A : Act} {W : World} (h : RDOK P r) (s : RSt P r c G₀ E G A W) {i : Nat} (hi : i < r.q) (hcl : ∀ j ∈ r.cls.getD i [], E j = true) :
    Rel P ⟨W, fun _ => False, s.rel.good⟩ (G.take (r.id i)) (memFor (r.cls.getD i []) r.m (r.sl i)) W := by
  obtain ⟨more, hm, _⟩ := RD.sl_split h hi
  have hlen : r.id i ≤ G.length := by
    rw [s.rel.len, r.mE_length, hm]; simp [RD.id]
  have see : ∀ (j : Nat) (b : ABlk), (memFor (r.cls.getD i []) r.m (r.sl i))[j]? = some (some b) → j < r.id i ∧ ∃ b0, b = roBlk b0 ∧ (r.mE E)[j]? = some (some b0) := by
    intro j b hj
    have hjl := lt_of_getElem? hj
    have hml : (memFor (r.cls.getD i []) r.m (r.sl i)).length = r.id i := by simp [memFor, roM, RD.id]
    rw [hml] at hjl
    refine ⟨hjl, ?_⟩
    unfold memFor at hj
    have hrl : (roM r.m).length = r.m.length := by simp [roM]
    rcases Nat.lt_or_ge j r.m.length with hlt | hge
    · rw [List.getElem?_append_left (by rw [hrl]; exact hlt)] at hj
      unfold roM at hj
      rw [List.getElem?_map, List.getElem?_eq_getElem hlt] at hj
      simp only [Option.map_some, Option.some.injEq] at hj
      cases hb0 : r.m[j] with
      | none => rw [hb0] at hj; cases hj
      | some b0 =>
        rw [hb0] at hj
        simp only [Option.map_some, Option.some.injEq] at hj
        refine ⟨b0, hj.symm, ?_⟩
        unfold RD.mE
        rw [List.getElem?_append_left hlt, List.getElem?_eq_getElem hlt, hb0]
    · rw [List.getElem?_append_right (by rw [hrl]; exact hge), hrl, List.getElem?_map] at hj
      cases hp : (r.sl i)[j - r.m.length]? with
      | none => rw [hp] at hj; cases hj
      | some p =>
        rw [hp] at hj
        simp only [Option.map_some, Option.some.injEq] at hj
        split at hj
        case isFalse => cases hj
        rename_i hc
        simp only [Option.some.injEq] at hj
        refine ⟨p.2, hj.symm, ?_⟩
        unfold RD.mE
        rw [List.getElem?_append_right hge, hm, List.getElem?_map, List.append_assoc, List.getElem?_append_left (lt_of_getElem? hp), hp]
        simp [hcl p.1 (contains_iff.1 hc)]
  refine ⟨?_, ?_, ?_, fun _ _ _ => rfl, Nat.le_refl _, rfl, rfl, rfl⟩
  · rw [List.length_take, Nat.min_eq_left hlen]; simp [memFor, roM, RD.id]
  · intro j b gb hj hg
    obtain ⟨hjl, b0, rfl, hb0⟩ := see j b hj
    rw [getElem?_take_of_lt hjl] at hg
    obtain ⟨cs, fr, hh, hf, hsz, _, hex⟩ := s.rel.blk j b0 gb hb0 hg
    refine ⟨cs, fr, hh, ?_, hsz, fun h => (by cases h), hex⟩
    have hlow := s.low j b0 gb hb0 hg
    have hid : max r.m.length (j + 1) ≤ r.id i := by simp only [RD.id] at hjl ⊢; omega
    exact F2.low (p := AE.lowS (r.id i)) (fun v w hr hp => SR.low hr hp) hf (all_lowS_le hid hlow)
  · intro p q bp bq gp gq _ hp _ hrw
    obtain ⟨_, b0, rfl, _⟩ := see p bp hp
    cases hrw

/-- What operation i looks at is as the text has it. -/
theorem RD.same_looks (h : RDOK P r) {E : Nat → Bool} {i : Nat} {o : Oper} (hi : i < r.q) (ho : r.all[i]? = some o) (hE : E i = false) (hready : ∀ j ∈ waits o, E j = true) (hclosed : ∀ k ok, E k = true → r.all[k]? = some ok → ∀ j ∈ waits ok, E j = true)
    {t : Tmp} (ht : t ∈ o.looksAt r.all.toArray) : (r.frE E)[t]? = (r.fr i)[t]? := by
  rw [RD.fr_lex h i (Nat.le_of_lt hi), r.frE_get, r.frE_get]
  have : (List.range r.q).find? (fun k => E k && r.dst k == some t) = (List.range r.q).find? (fun k => decide (k < i) && r.dst k == some t) := by
    apply find_congr
    intro k hk
    cases hd : (r.dst k == some t) with
    | false => simp
    | true =>
      simp only [Bool.and_true]
      have hd : r.dst k = some t := by simpa using hd
      by_cases hki : k = i
      · subst hki; rw [hE]; simp
      · have hkl : k < r.all.length := by have := h.le; omega
        have hok : r.all[k]? = some r.all[k] := List.getElem?_eq_getElem hkl
        have hdk : r.all[k].dst = some t := by simpa [RD.dst, hok] using hd
        rcases h.looks i k o r.all[k] t hi hk (fun e => hki e.symm) ho hok hdk ht with ⟨h1, h2⟩ | ⟨h1, h2⟩
        · rw [hready k h2]; simp [h1]
        · have : E k = false := by
            cases hEk : E k with
            | false => rfl
            | true =>
              have := hclosed k r.all[k] hEk hok i h2
              rw [hE] at this; cases this
          rw [this]
          have : ¬ k < i := by omega
          simp [this]
  rw [this]
end Go.AE
namespace Go.AE
variable {P : Program} {r : RD} {G₀ : List (Option GB)}

/-- One quiet operation comes up. -/
theorem RSt.next {c : Ctx} {E : Nat → Bool} {G : List (Option GB)} {A : Act} {W W' : World} (h : RDOK P r) (s : RSt P r c G₀ E G A W) {i : Nat} {o : Oper} (hi : i < r.q) (ho : r.all[i]? = some o) (hE : E i = false) {w : Value}
    (hf : QFin P (G.take (r.id i)) (memFor (r.cls.getD i []) r.m (r.sl i)) W (r.d i) w W') (hrw : ∀ b, (r.d i).nb = some b → b.rw = true) : ∃ G', RSt P r c G₀ (fun k => E k || k == i) G' (A.put o.dst w) W' := by
  obtain ⟨g', gd, hr', hv⟩ := hf
  have hdst : r.dst i = o.dst := by simp [RD.dst, ho]
  have hold : ∀ k, k < W.heap.size → W'.heap[k]? = W.heap[k]? := fun k hk => hr'.frame k hk (fun h => h)
  have still : Rel P c G (r.mE E) W' := s.rel.still hold hr'.size hr'.os hr'.tape hr'.output
  obtain ⟨more, hm, _⟩ := RD.sl_split h hi
  have hidl : r.id i ≤ G.length := by rw [s.rel.len, r.mE_length, hm]; simp [RD.id]
  have htl : (G.take (r.id i)).length = r.id i := by rw [List.length_take, Nat.min_eq_left hidl]
  have hml : (memFor (r.cls.getD i []) r.m (r.sl i)).length = r.id i := by simp [memFor, roM, RD.id]
  cases hnb : (r.d i).nb with
  | none =>
    rw [hnb] at hr'
    have hg' : g' = [] := by
      have := hr'.len
      simp only [List.length_append, htl, hml, Option.toList_none, List.map_nil, List.length_nil] at this
      exact List.length_eq_zero_iff.1 (by omega)
    subst hg'
    rw [List.append_nil] at hv
    refine ⟨G, ?_, ?_, s.base, ?_, ?_⟩
    · rw [RD.mE_none h hi hnb]; exact still
    · rw [RD.frE_put h hi hE, hdst]; exact s.frm.putA o.dst (hv.gle (Gle.take _ _))
    · intro k b hk hEk hb
      simp only [Bool.or_eq_false_iff] at hEk
      exact s.none_ k b hk hEk.1 hb
    · intro j b gb hj hg
      rw [RD.mE_none h hi hnb] at hj
      exact s.low j b gb hj hg
  | some b =>
    rw [hnb] at hr'
    have hg' : ∃ x, g' = [x] := by
      have := hr'.len
      simp only [List.length_append, htl, hml, Option.toList_some, List.map_cons, List.map_nil, List.length_cons, List.length_nil] at this
      exact List.length_eq_one_iff.1 (by omega)
    obtain ⟨x, rfl⟩ := hg'
    obtain ⟨hlt, hnone, hset⟩ := RD.mE_some h hi hE hnb
    have hidG : r.id i < G.length := by rw [s.rel.len]; exact hlt
    have hGn : G[r.id i]? = some none := s.none_ i b hi hE hnb
    have hle : Gle G (G.set (r.id i) x) := Gle.set hGn x
    have hle2 : Gle (G.take (r.id i) ++ [x]) (G.set (r.id i) x) := Gle.take_set x hidG
    have hbrw := hrw b hnb
    have hlast : (memFor (r.cls.getD i []) r.m (r.sl i) ++ (some b : Option ABlk).toList.map some)[r.id i]? = some (some b) := by
      rw [List.getElem?_append_right (by rw [hml]; exact Nat.le_refl _), hml]; simp
    have hlastg : (G.take (r.id i) ++ [x])[r.id i]? = some x := by
      rw [List.getElem?_append_right (by rw [htl]; exact Nat.le_refl _), htl]; simp
    have newb : ∀ gb, x = some gb → ∃ cs fr, W'.heap[gb.b]? = some (.cells cs b.elem fr) ∧ F2 (SR (G.take (r.id i) ++ [x])) b.cells (cs.toList.take b.cells.length) ∧ b.cells.length + gb.extra * P.cellsOf b.elem ≤ cs.size ∧
        (fr = (0, 0) ∧ W.heap.size ≤ gb.b) ∧ (b.ex = true → gb.extra = 0) := by
      intro gb hx
      obtain ⟨cs, fr, hh, hf, hsz, hown, hex⟩ := hr'.blk (r.id i) b gb hlast (by rw [hlastg, hx])
      obtain ⟨h1, h2⟩ := hown hbrw
      exact ⟨cs, fr, hh, hf, hsz, ⟨h1, h2.resolve_right (fun h => h)⟩, hex⟩
    have oldb : ∀ (j : Nat) (bj : ABlk) (gj : GB), (r.mE E)[j]? = some (some bj) → G[j]? = some (some gj) → gj.b < W.heap.size := by
      intro j bj gj hj hgj
      obtain ⟨cs, fr, hh, _⟩ := s.rel.blk j bj gj hj hgj
      rcases Nat.lt_or_ge gj.b W.heap.size with h' | h'
      · exact h'
      · rw [Array.getElem?_eq_none h'] at hh; cases hh
    have split : ∀ (j : Nat) (bj : ABlk) (gj : GB), ((r.mE E).set (r.id i) (some b))[j]? = some (some bj) → (G.set (r.id i) x)[j]? = some (some gj) →
        (j ≠ r.id i ∧ (r.mE E)[j]? = some (some bj) ∧ G[j]? = some (some gj)) ∨ (j = r.id i ∧ bj = b ∧ x = some gj) := by
      intro j bj gj hj hgj
      by_cases e : r.id i = j
      · rw [List.getElem?_set, if_pos e, if_pos hlt] at hj
        rw [List.getElem?_set, if_pos e, if_pos hidG] at hgj
        simp only [Option.some.injEq] at hj hgj
        exact .inr ⟨e.symm, hj.symm, hgj⟩
      · rw [List.getElem?_set, if_neg e] at hj hgj
        exact .inl ⟨fun h => e h.symm, hj, hgj⟩
    refine ⟨G.set (r.id i) x, ?_, ?_, fun j hj => by rw [List.getElem?_set, if_neg (by simp only [RD.id]; omega)]; exact s.base j hj, ?_, ?_⟩
    · rw [hset]
      refine ⟨by simp [still.len], ?_, ?_, still.frame, still.size, still.os, still.tape, still.output⟩
      · intro j bj gj hj hgj
        rcases split j bj gj hj hgj with ⟨_, hj, hgj⟩ | ⟨rfl, rfl, hx⟩
        · obtain ⟨cs, fr, hh, hf, rest⟩ := still.blk j bj gj hj hgj
          exact ⟨cs, fr, hh, hf.imp fun _ _ h => h.gle hle, rest⟩
        · obtain ⟨cs, fr, hh, hf, hsz, ⟨h1, h2⟩, hex⟩ := newb gj hx
          exact ⟨cs, fr, hh, hf.imp fun _ _ h => h.gle hle2, hsz, fun _ => ⟨h1, .inl (Nat.le_trans s.rel.size h2)⟩, hex⟩
      · intro p q bp bq gp gq hne hp hq hrwp hgp hgq
        rcases split p bp gp hp hgp with ⟨np, hp2, hgp2⟩ | ⟨ep, ebp, hx⟩ <;> rcases split q bq gq hq hgq with ⟨nq, hq2, hgq2⟩ | ⟨eq, ebq, hx'⟩
        · exact still.inj p q bp bq gp gq hne hp2 hq2 hrwp hgp2 hgq2
        · obtain ⟨_, _, _, _, _, ⟨_, h2⟩, _⟩ := newb gq hx'
          have := oldb p bp gp hp2 hgp2
          omega
        · obtain ⟨_, _, _, _, _, ⟨_, h2⟩, _⟩ := newb gp hx
          have := oldb q bq gq hq2 hgq2
          omega
        · exact absurd (ep.trans eq.symm) hne
    · rw [RD.frE_put h hi hE, hdst]
      exact ARel.putA ⟨s.frm.tmps.imp fun _ _ h => h.gle hle, s.frm.defers⟩ o.dst (hv.gle hle2)
    · intro k bk hk hEk hb
      simp only [Bool.or_eq_false_iff, beq_eq_false_iff_ne] at hEk
      have h1 := s.none_ k bk hk hEk.1 hb
      rw [List.getElem?_set, if_neg]
      · exact h1
      · intro e
        -- two new blocks never share a place
        have lt_id : ∀ p q, p < q → q < r.q → ∀ bb, (r.d p).nb = some bb → r.id p < r.id q := by
          intro p q hpq hq bb hbb
          obtain ⟨more, hm, _⟩ := RD.sl_prefix h (q - (p + 1)) (p + 1) (by omega)
          rw [show p + 1 + (q - (p + 1)) = q from by omega] at hm
          have hpl : p < r.all.length := by have := h.le; omega
          obtain ⟨_, _, _, hs⟩ := h.step p r.all[p] (by omega) (List.getElem?_eq_getElem hpl)
          rw [hs, hbb] at hm
          simp only [RD.id, hm]
          simp
        rcases Nat.lt_trichotomy i k with hl | hl | hl
        · have := lt_id i k hl hk b hnb; omega
        · exact hEk.2 hl.symm
        · have := lt_id k i hl hi bk hb; omega
    · intro j bj gj hj hgj
      rw [hset] at hj
      rcases split j bj gj hj hgj with ⟨_, hj2, hgj2⟩ | ⟨rfl, rfl, hx⟩
      · exact s.low j bj gj hj2 hgj2
      · obtain ⟨cs, fr, hh, hf, _⟩ := newb gj hx
        have := hf.lowS
        rw [List.length_append, htl] at this
        refine all_lowS_le ?_ this
        simp; omega

/-- How many of the first n are among E. -/
def cnt (E : Nat → Bool) (n : Nat) : Nat := ((List.range n).filter E).length
theorem cnt_succ (E : Nat → Bool) (n : Nat) : cnt E (n + 1) = cnt E n + if E n then 1 else 0 := by
  unfold cnt
  rw [List.range_succ, List.filter_append]
  cases h : E n <;> simp [h]
theorem cnt_le (E : Nat → Bool) : ∀ n, cnt E n ≤ n
  | 0 => by simp [cnt]
  | n + 1 => by rw [cnt_succ]; have := cnt_le E n; split <;> omega
theorem cnt_congr {E E' : Nat → Bool} : ∀ {n : Nat}, (∀ k, k < n → E k = E' k) → cnt E n = cnt E' n
  | 0, _ => rfl
  | n + 1, h => by rw [cnt_succ, cnt_succ, cnt_congr fun k hk => h k (by omega), h n (by omega)]
theorem cnt_or {E : Nat → Bool} {i : Nat} (hE : E i = false) : ∀ {n : Nat}, i < n → cnt (fun k => E k || k == i) n = cnt E n + 1
  | 0, h => by omega
  | n + 1, h => by
    rw [cnt_succ, cnt_succ]
    by_cases hn : i = n
    · subst hn
      have : cnt (fun k => E k || k == i) i = cnt E i := cnt_congr fun k hk => by
        have : (k == i) = false := by simpa using Nat.ne_of_lt hk
        simp [this]
      rw [this, hE]; simp
    · have : (n == i) = false := by simpa using fun e => hn e.symm
      rw [cnt_or hE (by omega), this]; simp; omega
theorem cnt_full {E : Nat → Bool} : ∀ {n : Nat}, cnt E n = n → ∀ k, k < n → E k = true
  | 0, _, k, hk => by omega
  | n + 1, h, k, hk => by
    rw [cnt_succ] at h
    have := cnt_le E n
    cases hn : E n with
    | false => rw [hn] at h; simp at h; omega
    | true =>
      rw [hn] at h
      simp at h
      by_cases e : k = n
      · subst e; exact hn
      · exact cnt_full h k (by omega)
end Go.AE
namespace Go.AE
variable {P : Program} {r : RD} {G₀ : List (Option GB)}

theorem RSt.congr {c : Ctx} {E E' : Nat → Bool} {G : List (Option GB)} {A : Act} {W : World} (h : RDOK P r) (s : RSt P r c G₀ E G A W) (he : ∀ k, k < r.q → E k = E' k) : RSt P r c G₀ E' G A W := by
  have hm : r.mE E = r.mE E' := by
    unfold RD.mE
    congr 1
    apply List.map_congr_left
    intro p hp
    rw [he p.1 (RD.sl_low h (Nat.le_refl _) p hp)]
  refine ⟨hm ▸ s.rel, (r.frE_congr he) ▸ s.frm, s.base, fun i b hi hE hb => s.none_ i b hi (by rw [he i hi]; exact hE) hb, fun j b gb hj hg => s.low j b gb (by rw [hm]; exact hj) hg⟩

theorem cl_sub (h : RDOK P r) {E : Nat → Bool} (hclosed : ∀ k ok, E k = true → r.all[k]? = some ok → ∀ j ∈ waits ok, E j = true) : ∀ (n i : Nat) (o : Oper), i < n → r.all[i]? = some o → (∀ j ∈ waits o, E j = true) → ∀ x ∈ r.cls.getD i [], E x = true
  | 0, i, _, hi, _, _, _, _ => by omega
  | n + 1, i, o, hi, ho, hw, x, hx => by
    rcases h.cl i o ho x hx with hx | ⟨j, hj, hxj⟩
    · exact hw x hx
    · have hji := h.early i o ho j hj
      have hjl : j < r.all.length := Nat.lt_trans hji (lt_of_getElem? ho)
      have hoj : r.all[j]? = some r.all[j] := List.getElem?_eq_getElem hjl
      exact cl_sub h hclosed n j r.all[j] (by omega) hoj (hclosed j _ (hw j hj) hoj) x hxj

theorem ready_iff {ops : Array Oper} (hops : ops.toList = r.all) {listed : Array Bool} (hl : listed.size = r.all.length) {i : Nat} : i ∈ Region.ready .any ops listed ↔
    i < r.all.length ∧ listed.getD i false = false ∧ ∃ o, r.all[i]? = some o ∧ ∀ j ∈ waits o, listed.getD j false = true := by
  have hsz : ops.size = r.all.length := by rw [← hops]; simp
  unfold Region.ready
  rw [List.mem_filter, List.mem_range, hsz]
  constructor
  · rintro ⟨h1, h2⟩
    simp only [Bool.and_eq_true, Bool.not_eq_true'] at h2
    obtain ⟨h2, h3⟩ := h2
    have ho : ops[i]? = r.all[i]? := by rw [← hops]; simp
    have hi' : i < listed.size := by rw [hl]; exact h1
    refine ⟨h1, ?_, r.all[i], List.getElem?_eq_getElem h1, ?_⟩
    · simp only [Array.getD, hi', dif_pos] at h2 ⊢; exact h2
    · rw [ho, List.getElem?_eq_getElem h1] at h3
      simp only [Option.map_some, Option.getD_some] at h3
      intro j hj
      obtain ⟨e, he, rfl⟩ := List.mem_map.1 hj
      obtain ⟨he1, he2⟩ := List.mem_filter.1 he
      have := Array.all_eq_true'.1 h3 e (Array.mem_toList_iff.1 he1)
      rw [he2] at this
      simpa using this
  · rintro ⟨h1, h2, o, ho, hw⟩
    refine ⟨h1, ?_⟩
    have hi' : i < listed.size := by rw [hl]; exact h1
    have ho' : ops[i]? = some o := by rw [← ho, ← hops]; simp
    simp only [Bool.and_eq_true, Bool.not_eq_true', ho', Option.map_some, Option.getD_some]
    refine ⟨?_, ?_⟩
    · simp only [Array.getD, hi', dif_pos] at h2 ⊢; exact h2
    · refine Array.all_eq_true'.2 fun e he => ?_
      cases hb : Region.binds .any e with
      | false => rfl
      | true =>
        simp only [Bool.not_true, Bool.false_or]
        exact hw e.on (List.mem_map.2 ⟨e, List.mem_filter.2 ⟨Array.mem_toList_iff.2 he, hb⟩, rfl⟩)

/-- As long as one has not come up, one is ready. -/
theorem ready_some (h : RDOK P r) {ops : Array Oper} (hops : ops.toList = r.all) {listed : Array Bool} (hl : listed.size = r.all.length) {i : Nat} (hi : i < r.all.length) (hE : listed.getD i false = false) : Region.ready .any ops listed ≠ [] := by
  have : ∀ n i, i < n → i < r.all.length → listed.getD i false = false → ∃ k, k ∈ Region.ready .any ops listed := by
    intro n
    induction n with
    | zero => intro i hi; omega
    | succ n ih =>
      intro i hin hi hE
      have ho : r.all[i]? = some r.all[i] := List.getElem?_eq_getElem hi
      by_cases hw : ∀ j ∈ waits r.all[i], listed.getD j false = true
      · exact ⟨i, (ready_iff hops hl).2 ⟨hi, hE, _, ho, hw⟩⟩
      · rcases Classical.em (∃ j, j ∈ waits r.all[i] ∧ listed.getD j false = false) with ⟨j, hj, hjE⟩ | hno
        · have := h.early i _ ho j hj
          exact ih j (by omega) (by omega) hjE
        · exfalso
          apply hw
          intro j hj
          cases hjE : listed.getD j false with
          | true => rfl
          | false => exact absurd ⟨j, hj, hjE⟩ hno
  obtain ⟨k, hk⟩ := this (i + 1) i (by omega) hi hE
  intro he
  rw [he] at hk; cases hk

theorem getD_set {listed : Array Bool} {i k : Nat} (hi : i < listed.size) : (listed.setIfInBounds i true).getD k false = (listed.getD k false || k == i) := by
  simp only [Array.getD_eq_getD_getElem?, Array.getElem?_setIfInBounds]
  by_cases h : i = k
  · subst h; simp [hi]
  · have : (k == i) = false := by simpa using fun e => h e.symm
    simp [h, this]

/-- What an operation sees of the frame. -/
theorem RSt.sees {c : Ctx} {E : Nat → Bool} {G : List (Option GB)} {A : Act} {W : World} (h : RDOK P r) (s : RSt P r c G₀ E G A W) {i : Nat} {o : Oper} (hi : i < r.q) (ho : r.all[i]? = some o) (hE : E i = false)
    (hready : ∀ j ∈ waits o, E j = true) (hclosed : ∀ k ok, E k = true → r.all[k]? = some ok → ∀ j ∈ waits ok, E j = true)
    (hlow : ∀ t ∈ o.looksAt r.all.toArray, AE.low (r.m.length + (r.sl i).length) (aeval (r.fr i) (.tmp t)) = true) (x : Operand) : VR (G.take (r.id i)) (rhoFor (o.looksAt r.all.toArray) (r.fr i) x) (A.eval x) := by
  cases x with
  | tmp t =>
    simp only [rhoFor]
    split
    · rename_i hc
      have ht : t ∈ o.looksAt r.all.toArray := by simpa using hc
      have e : aeval (r.fr i) (.tmp t) = aeval (r.frE E) (.tmp t) := by
        simp only [aeval, RD.same_looks h hi ho hE hready hclosed ht]
      have hl := hlow t ht
      rw [e] at hl ⊢
      exact (s.frm.eval (.tmp t)).low hl
    · exact .top _
  | const v =>
    simp only [rhoFor, aeval, Act.eval]
    split
    · rename_i hp; exact .plain _ hp
    · exact .top _
  | global _ => exact .top _
  | func f => exact .s (.func _)

theorem any_ok (h : RDOK P r) {c : Ctx} {ops : Array Oper} (hops : ops.toList = r.all) {Q : Exit → Act → World → Prop}
    (hQ : ∀ A W G listed, RSt P r c G₀ (fun k => decide (k < r.q)) G A W → listed.size = r.all.length → (∀ k, k < r.all.length → listed.getD k false = decide (k < r.q)) → wpAny P .any ops Q (r.all.length - r.q) listed A W) :
    ∀ (fuel : Nat) (listed : Array Bool) (A : Act) (W : World) (G : List (Option GB)), listed.size = r.all.length → fuel + cnt (fun k => listed.getD k false) r.all.length = r.all.length →
      (∀ k ok, listed.getD k false = true → r.all[k]? = some ok → ∀ j ∈ waits ok, listed.getD j false = true) → (∀ k, listed.getD k false = true → k < r.q) → RSt P r c G₀ (fun k => listed.getD k false) G A W → wpAny P .any ops Q fuel listed A W := by
  intro fuel
  induction fuel with
  | zero =>
    intro listed A W G hl hcnt hclosed hlow s
    have hfull : ∀ k, k < r.all.length → listed.getD k false = true := cnt_full (by omega)
    have hqe : r.q = r.all.length := by
      rcases Nat.lt_or_ge r.q r.all.length with hlt | hge
      · have := hlow r.q (hfull r.q hlt); omega
      · have := h.le; omega
    have := hQ A W G listed (s.congr h fun k hk => by rw [hfull k (by omega)]; simp [hk]) hl (fun k hk => by rw [hfull k hk]; simp [hqe]; exact hk)
    rw [hqe, Nat.sub_self] at this
    exact this
  | succ fuel ih =>
    intro listed A W G hl hcnt hclosed hlow s
    by_cases hall : ∀ k, k < r.q → listed.getD k false = true
    · have hE : ∀ k, k < r.all.length → listed.getD k false = decide (k < r.q) := by
        intro k hk
        by_cases hkq : k < r.q
        · rw [hall k hkq]; simp [hkq]
        · cases hk' : listed.getD k false with
          | false => simp [hkq]
          | true => exact absurd (hlow k hk') hkq
      have hc : cnt (fun k => listed.getD k false) r.all.length = r.q := by
        rw [cnt_congr (E' := fun k => decide (k < r.q)) hE]
        have : ∀ n, r.q ≤ n → cnt (fun k => decide (k < r.q)) n = r.q := by
          intro n
          induction n with
          | zero => intro hn; simp [cnt]; omega
          | succ n ih' =>
            intro hn
            rw [cnt_succ]
            by_cases hqn : r.q ≤ n
            · rw [ih' hqn]; have : ¬ n < r.q := by omega
              simp [this]
            · have hq1 : r.q = n + 1 := by omega
              have hf : ∀ j, j ≤ r.q → cnt (fun k => decide (k < r.q)) j = j := by
                intro j
                induction j with
                | zero => intro _; simp [cnt]
                | succ j ih2 => intro hj; rw [cnt_succ, ih2 (by omega)]; have : j < r.q := by omega
                                simp [this]
              rw [hf n (by omega)]; have : n < r.q := by omega
              simp [this]; omega
        exact this _ h.le
      have := hQ A W G listed (s.congr h fun k hk => by rw [hall k hk]; simp [hk]) hl hE
      rw [show r.all.length - r.q = fuel + 1 from by omega] at this
      exact this
    · obtain ⟨k₀, hk₀, hk₀E⟩ : ∃ k, k < r.q ∧ listed.getD k false = false := by
        rcases Classical.em (∃ k, k < r.q ∧ listed.getD k false = false) with he | he
        · exact he
        · exfalso; apply hall; intro k hk
          cases hk' : listed.getD k false with
          | true => rfl
          | false => exact absurd ⟨k, hk, hk'⟩ he
      have hqle := h.le
      refine ⟨fun hempty => absurd hempty (ready_some h hops hl (i := k₀) (by omega) hk₀E), fun i hi => ?_⟩
      obtain ⟨hin, hEi, o, ho, hw⟩ := (ready_iff hops hl).1 hi
      have hclsub := cl_sub h (E := fun k => listed.getD k false) hclosed (i + 1) i o (by omega) ho hw
      have hiq : i < r.q := by
        rcases Nat.lt_or_ge i r.q with hlt | hge
        · exact hlt
        · exfalso
          have := hclsub k₀ (h.tail i k₀ hge hin (by omega))
          rw [hk₀E] at this; cases this
      obtain ⟨hrw, ⟨hlo, hguard⟩, _, _⟩ := h.step i o hiq ho
      have hview := RSt.view h s hiq hclsub
      have hsees := RSt.sees h s hiq ho hEi hw hclosed hlo
      -- what follows
      have follow : ∀ A' W' G', RSt P r c G₀ (fun k => listed.getD k false || k == i) G' A' W' → wpAny P .any ops Q fuel (listed.setIfInBounds i true) A' W' := by
        intro A' W' G' s'
        have hset : ∀ k, (listed.setIfInBounds i true).getD k false = (listed.getD k false || k == i) := fun k => getD_set (by rw [hl]; exact hin)
        refine ih _ A' W' G' (by simp [hl]) ?_ ?_ ?_ (s'.congr h fun k _ => (hset k).symm)
        · have : cnt (fun k => (listed.setIfInBounds i true).getD k false) r.all.length = cnt (fun k => listed.getD k false || k == i) r.all.length := cnt_congr fun k _ => hset k
          rw [this, cnt_or hEi hin]; omega
        · intro k ok hk hok j hj
          rw [hset] at hk ⊢
          simp only [Bool.or_eq_true, beq_iff_eq] at hk ⊢
          rcases hk with hk | hk
          · exact .inl (hclosed k ok hk hok j hj)
          · subst hk
            rw [ho] at hok
            cases hok
            exact .inl (hw j hj)
        · intro k hk
          rw [hset] at hk
          simp only [Bool.or_eq_true, beq_iff_eq] at hk
          rcases hk with hk | hk
          · exact hlow k hk
          · omega
      have hops' : ops[i]? = some o := by rw [← ho, ← hops]; simp
      have exec : Quiet P o (rhoFor (o.looksAt r.all.toArray) (r.fr i)) (memFor (r.cls.getD i []) r.m (r.sl i)) (r.d i) → o.wp P A W (wpAny P .any ops Q fuel (listed.setIfInBounds i true)) Q := by
        intro hq
        have := hq _ W A.eval s.rel.good hview hsees
        unfold Oper.wp
        generalize (execOp A.eval o).run P W = res at this ⊢
        split at this
        · obtain ⟨G', s'⟩ := RSt.next h s hiq ho hEi this hrw
          exact follow _ _ _ s'
        · obtain ⟨G', s'⟩ := RSt.next h s hiq ho hEi this hrw
          exact follow _ _ _ s'
        · simp only [Oper.upon]
          refine this.mono ?_
          rintro e W'' ⟨w, rfl, hf⟩
          obtain ⟨G', s'⟩ := RSt.next h s hiq ho hEi hf hrw
          exact follow _ _ _ s'
        · exact this.elim
      unfold wpOp
      rw [hops']
      simp only
      cases hg : o.guard with
      | none =>
        rw [hg] at hguard
        rw [if_pos (by simp [Region.wanted, hg])]
        exact .inl (exec hguard)
      | some jw =>
        obtain ⟨j, want⟩ := jw
        rw [hg] at hguard
        obtain ⟨b, hb, hyes, hno⟩ := hguard
        have hy : yielded ops A.tmps j = some b := by
          unfold yielded
          cases hoj : r.all[j]? with
          | none => rw [hoj] at hb; simp at hb
          | some oj =>
            rw [hoj] at hb
            simp only [Option.bind_some] at hb
            cases hd : oj.dst with
            | none => rw [hd] at hb; simp at hb
            | some t =>
              rw [hd] at hb
              simp only [Option.bind_some] at hb
              have ht : t ∈ o.looksAt r.all.toArray := by
                unfold Oper.looksAt
                rw [hg]
                simp [hoj, hd]
              have e := RD.same_looks h (E := fun k => listed.getD k false) hiq ho hEi hw hclosed ht
              rw [← e] at hb
              obtain ⟨w, hw', hvw⟩ := s.frm.tmps.get t _ hb
              obtain rfl := SR.inv_bool hvw
              have hw2 : A.tmps[t]? = some (.bool b) := by rw [← Array.getElem?_toList]; exact hw'
              have ho' : ops[j]? = some oj := by rw [← hoj, ← hops]; simp
              rw [ho']
              simp [hd, hw2]
        by_cases hbw : b = want
        · rw [if_pos (by simp [Region.wanted, hg, hy, hbw])]
          exact .inl (exec (hyes hbw))
        · rw [if_neg (by simp [Region.wanted, hg, hy, hbw])]
          have hd := hno hbw
          obtain ⟨G', s'⟩ := RSt.next h s hiq ho hEi (w := undef) (W' := W) ⟨[], s.rel.good, by rw [hd]; simpa using hview, by rw [hd]; simpa using VR.undef _⟩ hrw
          exact follow _ _ _ s'
end Go.AE
namespace Go.AE
variable {P : Program}

def rd0 (ops : Array Oper) : RD := ⟨ops.toList, [], 0, [], [], fun _ => [], fun _ => [], fun _ => ⟨undef, none⟩⟩
theorem ready_at {ops : Array Oper} {listed : Array Bool} (hl : listed.size = ops.size) {i : Nat} : i ∈ Region.ready .any ops listed ↔
    i < ops.size ∧ listed.getD i false = false ∧ ∃ o, ops[i]? = some o ∧ ∀ j ∈ waits o, listed.getD j false = true := by
  have := ready_iff (r := rd0 ops) (ops := ops) rfl (listed := listed) (by simpa [rd0] using hl) (i := i)
  simpa [rd0] using this

theorem wpOp_move {ops : Array Oper} {Q : Exit → Act → World → Prop} {i d t : Nat} {o : Oper} (ho : ops[i]? = some o) (hop : o.op = .move (.tmp t)) (hd : o.dst = some d) (hg : o.guard = none) {N : Act → World → Prop} {A : Act} {W : World} :
    wpOp P ops Q i N A W ↔ N (A.put (some d) (A.eval (.tmp t))) W := by
  have he : execOp A.eval o = pure (.value (A.eval (.tmp t))) := by simp only [execOp, hop]
  unfold wpOp
  rw [ho]
  simp only [Region.wanted, hg, if_true, Oper.wp, Oper.asks, he, hd]
  constructor
  · rintro (h | ⟨⟨h, _⟩, _⟩)
    · rw [← hd]; exact h
    · have : ((pure (Next.value (A.eval (.tmp t))) : Sem Next).runT P W #[]).2 = #[] := rfl
      rw [this] at h
      simp at h
  · intro h
    exact .inl (by rw [← hd] at h; exact h)

theorem wpOp_store {ops ops' : Array Oper} {Q : Exit → Act → World → Prop} {i : Nat} {o o' : Oper} {te : TypeId} {x y : Operand} (ho : ops[i]? = some o) (ho' : ops'[i]? = some o') (hop : o.op = .store te x y) (hop' : o'.op = .store te x y) (hd : o.dst = none) (hd' : o'.dst = none)
    (hg : o.guard = none) (hg' : o'.guard = none) {N N' : Act → World → Prop} {A A' : Act} {W : World} (hx : A'.eval x = A.eval x) (hy : A'.eval y = A.eval y) (hnp : ∀ c a w, ¬ Q (.panic c) a w) (h : wpOp P ops' Q i N' A' W) (hN : ∀ W', N' A' W' → N A W') : wpOp P ops Q i N A W := by
  have he : execOp A'.eval o' = execOp A.eval o := by simp only [execOp, hop, hop', hx, hy]
  unfold wpOp at h ⊢
  rw [ho'] at h
  rw [ho]
  simp only [Region.wanted, hg, hg', if_true, Oper.wp, Oper.asks, he] at h ⊢
  refine h.imp (fun h => ?_) fun h => h
  have hs : execOp A.eval o = (do Instr.storeAt te (A.eval x) (A.eval y); pure .skip) := by simp only [execOp, hop]
  rw [hs, Sem.run_bind] at h ⊢
  cases hr : (Instr.storeAt te (A.eval x) (A.eval y)).run P W with
  | ok u w' =>
    rw [hr] at h
    simp only [Result.andThen] at h ⊢
    have h1 : N' (A'.put o'.dst undef) w' := h
    rw [hd'] at h1
    show N (A.put o.dst undef) w'
    rw [hd]
    exact hN w' h1
  | halt s w' =>
    rw [hr] at h
    simp only [Result.andThen] at h ⊢
    cases s with
    | panic v => exact absurd h (hnp _ _ _)
    | _ => exact h

theorem set_set {l : Array Bool} {i j : Nat} (h : i ≠ j) : (l.setIfInBounds i true).setIfInBounds j true = (l.setIfInBounds j true).setIfInBounds i true := by
  apply Array.ext_getElem?
  intro k
  simp only [Array.getElem?_setIfInBounds, Array.size_setIfInBounds]
  by_cases h1 : i = k <;> by_cases h2 : j = k
  · omega
  · simp [h1, h2]
  · simp [h1, h2]
  · simp [h1, h2]

theorem wpAny_late {ops ops' : Array Oper} {Q : Exit → Act → World → Prop} {p d t : Nat} {te : TypeId} {x y : Operand} {om oq oq' : Oper} (hm : ops[p]? = some om) (hq : ops[p + 1]? = some oq) (hq' : ops'[p + 1]? = some oq')
    (hsame : ∀ i, i ≠ p + 1 → ops'[i]? = ops[i]?) (hsz : ops'.size = ops.size) (mop : om.op = .move (.tmp t)) (md : om.dst = some d) (mg : om.guard = none)
    (qop : oq.op = .store te x y) (qd : oq.dst = none) (qg : oq.guard = none) (qop' : oq'.op = .store te x y) (qd' : oq'.dst = none) (qg' : oq'.guard = none) (hw : ∀ j, j ∈ waits oq' ↔ j ∈ waits oq ∨ j = p)
    (hx : x ≠ .tmp d) (hy : y ≠ .tmp d) (hpw : ∀ j ∈ waits om, j < p) (hqw : ∀ j, j < p → j ∈ waits oq) (hlate : ∀ j o, p + 1 < j → ops[j]? = some o → p ∈ waits o) (hnp : ∀ c a w, ¬ Q (.panic c) a w) :
    ∀ (n fuel : Nat), fuel ≤ n → ∀ (listed : Array Bool) (A : Act) (W : World), listed.size = ops.size → wpAny P .any ops' Q fuel listed A W → wpAny P .any ops Q fuel listed A W := by
  have hm' : ops'[p]? = some om := by rw [hsame p (by omega), hm]
  have hplt : p < ops.size := by
    rcases Nat.lt_or_ge p ops.size with h | h
    · exact h
    · rw [Array.getElem?_eq_none h] at hm; cases hm
  have hqlt : p + 1 < ops.size := by
    rcases Nat.lt_or_ge (p + 1) ops.size with h | h
    · exact h
    · rw [Array.getElem?_eq_none h] at hq; cases hq
  have evk : ∀ (A : Act) (v : Value) (z : Operand), z ≠ .tmp d → (A.put (some d) v).eval z = A.eval z := by
    intro A v z hz
    cases z with
    | tmp k =>
      have : d ≠ k := fun e => hz (by rw [e])
      simp only [Act.eval, Act.put, Array.getD_eq_getD_getElem?, Array.getElem?_setIfInBounds, if_neg this]
    | const v => rfl
    | global _ => rfl
    | func _ => rfl
  have yl : ∀ tmps j, yielded ops' tmps j = yielded ops tmps j := by
    intro tmps j
    unfold yielded
    by_cases hj : j = p + 1
    · subst hj; rw [hq, hq']; simp [qd, qd']
    · rw [hsame j hj]
  -- what is ready
  have back : ∀ (listed : Array Bool), listed.size = ops.size → ∀ i, i ∈ Region.ready .any ops' listed → i ∈ Region.ready .any ops listed := by
    intro listed hl i hi
    obtain ⟨h1, h2, o, ho, hwt⟩ := (ready_at (by rw [hsz]; exact hl)).1 hi
    rw [hsz] at h1
    refine (ready_at hl).2 ⟨h1, h2, ?_⟩
    by_cases hip : i = p + 1
    · subst hip
      rw [hq'] at ho; cases ho
      exact ⟨oq, hq, fun j hj => hwt j ((hw j).2 (.inl hj))⟩
    · rw [hsame i hip] at ho
      exact ⟨o, ho, hwt⟩
  have fwd : ∀ (listed : Array Bool), listed.size = ops.size → ∀ i, i ∈ Region.ready .any ops listed → i ∈ Region.ready .any ops' listed ∨ (i = p + 1 ∧ listed.getD p false = false ∧ p ∈ Region.ready .any ops' listed ∧ ∀ j ∈ waits oq, listed.getD j false = true) := by
    intro listed hl i hi
    obtain ⟨h1, h2, o, ho, hwt⟩ := (ready_at hl).1 hi
    by_cases hip : i = p + 1
    · subst hip
      rw [hq] at ho; cases ho
      cases hpl : listed.getD p false with
      | true =>
        refine .inl ((ready_at (by rw [hsz]; exact hl)).2 ⟨by rw [hsz]; exact h1, h2, oq', hq', fun j hj => ?_⟩)
        rcases (hw j).1 hj with h | h
        · exact hwt j h
        · rw [h]; exact hpl
      | false =>
        refine .inr ⟨rfl, rfl, (ready_at (by rw [hsz]; exact hl)).2 ⟨by rw [hsz]; exact hplt, hpl, om, hm', fun j hj => hwt j (hqw j (hpw j hj))⟩, hwt⟩
    · exact .inl ((ready_at (by rw [hsz]; exact hl)).2 ⟨by rw [hsz]; exact h1, h2, o, by rw [hsame i hip]; exact ho, hwt⟩)
  intro n
  induction n with
  | zero =>
    intro fuel hf listed A W hl h
    obtain rfl : fuel = 0 := by omega
    refine ⟨?_, h.2⟩
    cases hre : Region.ready .any ops listed with
    | nil => rfl
    | cons i rest =>
      exfalso
      rcases fwd listed hl i (by rw [hre]; exact List.mem_cons_self) with h' | ⟨_, _, h', _⟩ <;> (rw [h.1] at h'; cases h')
  | succ n ih =>
    intro fuel hf listed A W hl h
    cases fuel with
    | zero => exact ih 0 (by omega) listed A W hl h
    | succ f =>
      refine ⟨fun hempty => h.1 ?_, fun i hi => ?_⟩
      · cases hre : Region.ready .any ops' listed with
        | nil => rfl
        | cons i rest =>
          have := back listed hl i (by rw [hre]; exact List.mem_cons_self)
          rw [hempty] at this; cases this
      rcases fwd listed hl i hi with hi' | ⟨rfl, hpl, hp', hwt⟩
      · have hN : ∀ a w, wpAny P .any ops' Q f (listed.setIfInBounds i true) a w → wpAny P .any ops Q f (listed.setIfInBounds i true) a w := fun a w => ih f (by omega) _ a w (by simpa using hl)
        have := wpOp_mono hN (h.2 i hi')
        by_cases hip : i = p + 1
        · subst hip
          exact wpOp_store hq hq' qop qop' qd qd' qg qg' rfl rfl hnp this fun _ h => h
        · unfold wpOp at this ⊢
          rw [hsame i hip] at this
          have hy : yielded ops' A.tmps = yielded ops A.tmps := funext (yl A.tmps)
          rw [hy] at this
          exact this
      · have h1 := (wpOp_move hm' mop md mg).1 (h.2 p hp')
        have hl1 : (listed.setIfInBounds p true).size = ops.size := by simpa using hl
        have hq1 : p + 1 ∈ Region.ready .any ops' (listed.setIfInBounds p true) := by
          obtain ⟨_, h2, _⟩ := (ready_at hl).1 hi
          refine (ready_at (by rw [hsz]; exact hl1)).2 ⟨by rw [hsz]; exact hqlt, ?_, oq', hq', fun j hj => ?_⟩
          · rw [getD_set (by omega), h2]; simp
          · rw [getD_set (by omega)]
            rcases (hw j).1 hj with h | h
            · rw [hwt j h]; rfl
            · rw [h]; simp
        cases f with
        | zero => rw [h1.1] at hq1; cases hq1
        | succ f' =>
          have h2 := h1.2 (p + 1) hq1
          refine wpOp_store hq hq' qop qop' qd qd' qg qg' (evk A _ x hx) (evk A _ y hy) hnp h2 fun W' h3 => ?_
          have hl2 : (listed.setIfInBounds (p + 1) true).size = ops.size := by simpa using hl
          have hpr : p ∈ Region.ready .any ops (listed.setIfInBounds (p + 1) true) := by
            refine (ready_at hl2).2 ⟨hplt, ?_, om, hm, fun j hj => ?_⟩
            · rw [getD_set (by omega), hpl]; simp
            · rw [getD_set (by omega), hwt j (hqw j (hpw j hj))]; rfl
          refine ⟨fun hempty => (by rw [hempty] at hpr; cases hpr), fun i' hi2 => ?_⟩
          obtain ⟨g1, g2, o2, ho2, hw2⟩ := (ready_at hl2).1 hi2
          have hip : i' = p := by
            rcases Nat.lt_trichotomy i' p with hlt | he | hgt
            · rw [getD_set (by omega), hwt i' (hqw i' hlt)] at g2; simp at g2
            · exact he
            · exfalso
              by_cases e : i' = p + 1
              · subst e; rw [getD_set (by omega)] at g2; simp at g2
              · have := hw2 p (hlate i' o2 (by omega) ho2)
                rw [getD_set (by omega), hpl] at this
                simp at this
          subst hip
          refine (wpOp_move hm mop md mg).2 ?_
          refine ih f' (by omega) _ _ W' (by simpa using hl) ?_
          rw [set_set (by omega)]
          exact h3

/-- A copy ahead of a store may come up behind it: it is all one. -/
def lateAt (all : List Oper) (p : Nat) : Bool := match all[p]?, all[p + 1]? with
  | some om, some oq => match om.op, om.dst, om.guard, oq.op, oq.dst, oq.guard with
    | .move (.tmp _), some d, none, .store _ x y, none, none =>
      (match x with | .tmp k => !Nat.beq k d | _ => true) && (match y with | .tmp k => !Nat.beq k d | _ => true) &&
      !(waits oq).contains p && (waits om).all (fun j => Nat.blt j p) && (List.range p).all (fun j => (waits oq).contains j) &&
      (List.range all.length).all (fun j => Nat.ble j (p + 1) || match all[j]? with | some o => (waits o).contains p | none => true)
    | _, _, _, _, _, _ => false
  | _, _ => false
def addEdge (p : Nat) (o : Oper) : Oper := { o with after := o.after.push ⟨p, .data⟩ }
def lateFix (all : List Oper) : Nat → List Oper
  | 0 => all
  | p + 1 => bif lateAt all p then all.modify (p + 1) (addEdge p) else all

theorem waits_addEdge (p : Nat) (o : Oper) (j : Nat) : j ∈ waits (addEdge p o) ↔ j ∈ waits o ∨ j = p := by
  simp only [waits, addEdge, Array.toList_push, List.filter_append, List.map_append, List.mem_append]
  have : ([({ on := p, ground := .data } : Edge)].filter (Region.binds .any)).map (·.on) = [p] := rfl
  rw [this]; simp

theorem wpAny_fix {ops : Array Oper} {Q : Exit → Act → World → Prop} (hnp : ∀ c a w, ¬ Q (.panic c) a w) (q : Nat) {fuel : Nat} {listed : Array Bool} {A : Act} {W : World} (hl : listed.size = ops.size)
    (h : wpAny P .any (lateFix ops.toList q).toArray Q fuel listed A W) : wpAny P .any ops Q fuel listed A W := by
  cases q with
  | zero => simpa [lateFix] using h
  | succ p =>
    cases hla : lateAt ops.toList p with
    | false =>
      simp only [lateFix, hla, cond_false] at h
      simpa using h
    | true =>
      simp only [lateFix, hla, cond_true] at h
      unfold lateAt at hla
      split at hla
      · rename_i om oq hm hq
        split at hla
        · rename_i t d te x y mop md mg qop qd qg
          simp only [Bool.and_eq_true] at hla
          obtain ⟨⟨⟨⟨⟨h1, h2⟩, _⟩, h4⟩, h5⟩, h6⟩ := hla
          have hm' : ops[p]? = some om := by rw [← hm]; simp
          have hq' : ops[p + 1]? = some oq := by rw [← hq]; simp
          refine wpAny_late (oq' := addEdge p oq) hm' hq' ?_ ?_ (by simp) mop md mg qop qd qg qop qd qg (waits_addEdge p oq) ?_ ?_ ?_ ?_ ?_ hnp fuel fuel (Nat.le_refl _) listed A W hl h
          · simp [hq']
          · intro i hi
            simp only [List.getElem?_toArray, List.getElem?_modify]
            have : ¬ p + 1 = i := fun e => hi e.symm
            simp [this]
          · rintro rfl
            simp only [Bool.not_eq_true'] at h1
            rw [Nat.beq_refl] at h1; cases h1
          · rintro rfl
            simp only [Bool.not_eq_true'] at h2
            rw [Nat.beq_refl] at h2; cases h2
          · intro j hj
            exact Nat.le_of_ble_eq_true (List.all_eq_true.1 h4 j hj)
          · intro j hj
            exact contains_iff.1 (List.all_eq_true.1 h5 j (List.mem_range.2 hj))
          · intro j o hj ho
            have hjl : j < ops.size := by
              rcases Nat.lt_or_ge j ops.size with h | h
              · exact h
              · rw [Array.getElem?_eq_none h] at ho; cases ho
            have := List.all_eq_true.1 h6 j (List.mem_range.2 (by simpa using hjl))
            simp only [Bool.or_eq_true] at this
            rcases this with h | h
            · have := Nat.le_of_ble_eq_true h; omega
            · have ho' : ops.toList[j]? = some o := by rw [← ho]; simp
              rw [ho'] at h
              exact contains_iff.1 h
        · cases hla
      · cases hla
end Go.AE
