/-
  An abstract logic for the model (part 13): how frames and memories look, evaluated by functions. Conditions: none.
-/
import Derived.Test.YtfohjnfdgegfcaaDoorAe12
namespace Go.AE
variable {P : Program}

/-- What a quiet operation comes to: a value, and perhaps a new block. -/
structure QD where
  v : Value
  nb : Option ABlk

def roM (m : Mem) : Mem := m.map fun b => b.map roBlk

/-- The quiet end of an operation that was begun in world 'W', its memory 'D' seen through 'g'. -/
def QFin (P : Program) (g : List (Option GB)) (D : Mem) (W : World) (d : QD) (w : Value) (W' : World) : Prop :=
  ∃ g' gd, Rel P ⟨W, fun _ => False, gd⟩ (g ++ g') (D ++ d.nb.toList.map some) W' ∧ VR (g ++ g') d.v w

/-- An operation is quiet: whatever the world, it yields this one value and this new block, and leaves all that was there as it was. -/
def Quiet (P : Program) (o : Oper) (ρ : Operand → Value) (D : Mem) (d : QD) : Prop :=
  ∀ g W ρ' gd, Rel P ⟨W, fun _ => False, gd⟩ g D W → (∀ x, VR g (ρ x) (ρ' x)) → match (execOp ρ' o).run P W with
    | .ok (.value w) W' => QFin P g D W d w W'
    | .ok .skip W' => QFin P g D W d undef W'
    | .ok (.enter f args) W' => Calls P f args W' fun e W'' => ∃ w, e = .returned w ∧ QFin P g D W d w W''
    | _ => False

/-- Answers by one value, on conditions. -/
def optO : Ops (Option (List Bool × Value × Mem)) where
  br _ _ _ := none
  nd c r := r.map fun p => (c :: p.1, p.2)
  fl := none
  ld o k := match o with
    | some v => k v
    | none => none
  call _ _ _ _ := none
  code _ _ _ _ := none
  pcall _ _ _ _ := none
def optA (P : Program) (n₀ : Nat) (tgt : Value × Mem) : Ans P n₀ (Option (List Bool × Value × Mem)) where
  toOps := optO
  holds r := ∃ cs, r = some (cs, tgt) ∧ ∀ c ∈ cs, c = true
  br_ok _ _ _ h := by obtain ⟨_, h, _⟩ := h; cases h
  nd_ok c r h := by
    obtain ⟨cs, h, hc⟩ := h
    cases r with
    | none => cases h
    | some p =>
      obtain ⟨cs', q⟩ := p
      simp only [optO, Option.map_some, Option.some.injEq, Prod.mk.injEq] at h
      obtain ⟨rfl, rfl⟩ := h
      exact ⟨hc c (by simp), cs', rfl, fun c' h' => hc c' (by simp [h'])⟩
  fl_ok h := by obtain ⟨_, h, _⟩ := h; cases h
  ld_ok o k h := by
    cases o with
    | none => obtain ⟨_, h, _⟩ := h; cases h
    | some v => exact ⟨v, rfl, h⟩
  call_ok _ _ _ _ h := by obtain ⟨_, h, _⟩ := h; cases h
  code_ok _ _ _ _ h := by obtain ⟨_, h, _⟩ := h; cases h
  pcall_ok _ _ _ _ h := by obtain ⟨_, h, _⟩ := h; cases h

theorem Quiet.of_ev {T : Tab P} {o : Oper} {ρ : Operand → Value} {D : Mem} {cs : List Bool} {v : Value} {nb : Option ABlk}
    (h : evOp optO T o.op ρ D (fun v m => some ([], v, m)) = some (cs, v, D ++ nb.toList.map some)) (hc : ∀ c ∈ cs, c = true) : Quiet P o ρ D ⟨v, nb⟩ := by
  intro g W ρ' gd hr hv
  have := evOp_ok (X := optA P 0 (v, D ++ nb.toList.map some)) (T := T) (o := o) (ρ := ρ) (ρ' := ρ') (m := D) (k := fun v m => some ([], v, m)) ⟨cs, h, hc⟩ (c := ⟨W, fun _ => False, gd⟩) (g₀ := []) (g := g) (W := W) hr hv
  unfold OpDone at this
  have key : ∀ (v' : Value) (m' : Mem), (optA P 0 (v, D ++ nb.toList.map some)).holds (some ([], v', m')) → v' = v ∧ m' = D ++ nb.toList.map some := by
    rintro v' m' ⟨cs, h, _⟩
    simp only [Option.some.injEq, Prod.mk.injEq] at h
    exact ⟨h.2.1, h.2.2⟩
  generalize hrun : (execOp ρ' o).run P W = r at this ⊢
  split at this
  · obtain ⟨v', m', g', hN, hr', hvw⟩ := this
    obtain ⟨rfl, rfl⟩ := key _ _ hN
    exact ⟨g', gd, hr', hvw⟩
  · obtain ⟨m', g', hN, hr'⟩ := this
    obtain ⟨rfl, rfl⟩ := key _ _ hN
    exact ⟨g', gd, hr', .undef _⟩
  · refine this.mono ?_
    rintro e W'' ⟨v', w, m', g', rfl, hN, hr', hvw⟩
    obtain ⟨rfl, rfl⟩ := key _ _ hN
    exact ⟨w, rfl, g', gd, hr', hvw⟩
  · exact this.elim

/-- What was there stays as it was. -/
theorem Rel.still {c : Ctx} {g : List (Option GB)} {m : Mem} {W W' : World} (h : Rel P c g m W) (hf : ∀ k, k < W.heap.size → W'.heap[k]? = W.heap[k]?) (hs : W.heap.size ≤ W'.heap.size) (ho : W'.os = W.os) (ht : W'.tape = W.tape) (hu : W'.output = W.output) : Rel P c g m W' := by
  refine ⟨h.len, ?_, h.inj, fun k hk hF => by rw [hf k (Nat.lt_of_lt_of_le hk h.size), h.frame k hk hF], Nat.le_trans h.size hs, ho.trans h.os, ht.trans h.tape, hu.trans h.output⟩
  intro j b gb hj hg
  obtain ⟨cs, fr, hh, rest⟩ := h.blk j b gb hj hg
  have hlt : gb.b < W.heap.size := by
    rcases Nat.lt_or_ge gb.b W.heap.size with h' | h'
    · exact h'
    · rw [Array.getElem?_eq_none h'] at hh; cases hh
  exact ⟨cs, fr, by rw [hf _ hlt]; exact hh, rest⟩

/-- What a call without a right to write has left. -/
theorem Rel.regrow {g g' : List (Option GB)} {D m' : Mem} {W W' : World} {gd : Good W fun _ => False} {nb : List (Option ABlk)} (hr : Rel P ⟨W, fun _ => False, gd⟩ g D W) (hr' : Rel P ⟨W, fun _ => False, gd⟩ (g ++ g') m' W') (hl : D.length ≤ m'.length) (hd : m'.drop D.length = nb) :
    Rel P ⟨W, fun _ => False, gd⟩ (g ++ g') (D ++ nb) W' := by
  have still : Rel P ⟨W, fun _ => False, gd⟩ g D W' := hr.still (fun k hk => hr'.frame k hk (fun h => h)) hr'.size hr'.os hr'.tape hr'.output
  have hnb : nb.length = m'.length - D.length := by rw [← hd]; simp
  have hlt : ∀ (j : Nat) (b : ABlk) (gb : GB), D[j]? = some (some b) → g[j]? = some (some gb) → gb.b < W.heap.size := by
    intro j b gb hj hg
    obtain ⟨cs, fr, hh, _⟩ := hr.blk j b gb hj hg
    rcases Nat.lt_or_ge gb.b W.heap.size with h' | h'
    · exact h'
    · rw [Array.getElem?_eq_none h'] at hh; cases hh
  have split : ∀ (j : Nat) (b : ABlk) (gb : GB), (D ++ nb)[j]? = some (some b) → (g ++ g')[j]? = some (some gb) → (D[j]? = some (some b) ∧ g[j]? = some (some gb)) ∨ (D.length ≤ j ∧ m'[j]? = some (some b)) := by
    intro j b gb hj hg
    rcases Nat.lt_or_ge j D.length with hlj | hlj
    · rw [List.getElem?_append_left hlj] at hj
      rw [List.getElem?_append_left (by rw [hr.len]; exact hlj)] at hg
      exact .inl ⟨hj, hg⟩
    · rw [List.getElem?_append_right hlj, ← hd, List.getElem?_drop, show D.length + (j - D.length) = j from by omega] at hj
      exact .inr ⟨hlj, hj⟩
  refine ⟨by rw [hr'.len, List.length_append, hnb]; omega, ?_, ?_, hr'.frame, hr'.size, hr'.os, hr'.tape, hr'.output⟩
  · intro j b gb hj hg
    rcases split j b gb hj hg with ⟨hj, hg⟩ | ⟨_, hj⟩
    · obtain ⟨cs, fr, hh, hf, rest⟩ := still.blk j b gb hj hg
      exact ⟨cs, fr, hh, hf.imp fun _ _ h => h.app, rest⟩
    · exact hr'.blk j b gb hj hg
  · intro p q bp bq gp gq hne hp hq hrw hgp hgq
    rcases split p bp gp hp hgp with ⟨hp2, hgp2⟩ | ⟨_, hp2⟩
    · obtain ⟨_, _, _, _, _, hown, _⟩ := hr.blk p bp gp hp2 hgp2
      have := hlt p bp gp hp2 hgp2
      rcases (hown hrw).2 with h | h
      · simp only at h; omega
      · exact h.elim
    · rcases split q bq gq hq hgq with ⟨hq2, hgq2⟩ | ⟨_, hq2⟩
      · obtain ⟨_, _, _, _, _, hown, _⟩ := hr'.blk p bp gp hp2 hgp
        have := hlt q bq gq hq2 hgq2
        rcases (hown hrw).2 with h | h
        · simp only at h; omega
        · exact h.elim
      · exact hr'.inj p q bp bq gp gq hne hp2 hq2 hrw hgp hgq

theorem Quiet.of_call {T : Tab P} {o : Oper} {ρ : Operand → Value} {D : Mem} {v : Value} {nb : Option ABlk} {f : Operand} {n : FuncId} {args : Array Operand} {ts : Array TypeId} (ho : o.op = .call ⟨.value f, args, ts⟩) (hf : ρ f = .func (.func n) #[] #[])
    (hfn : T.fn n = true) (h : ACall P n (args.toList.map ρ) D fun v' m' => v' = v ∧ D.length ≤ m'.length ∧ m'.drop D.length = nb.toList.map some) : Quiet P o ρ D ⟨v, nb⟩ := by
  intro g W ρ' gd hr hv
  have := evOp_ok (X := propA P 0) (T := T) (o := o) (ρ := ρ) (ρ' := ρ') (m := D) (k := fun v' m' => v' = v ∧ D.length ≤ m'.length ∧ m'.drop D.length = nb.toList.map some) (by
    rw [ho]
    simp only [evOp, evCall, hf, hfn]
    exact h) (c := ⟨W, fun _ => False, gd⟩) (g₀ := []) (g := g) (W := W) hr hv
  unfold OpDone at this
  generalize hrun : (execOp ρ' o).run P W = r at this ⊢
  split at this
  · obtain ⟨v', m', g', ⟨rfl, h1, h2⟩, hr', hvw⟩ := this
    exact ⟨g', gd, hr.regrow hr' h1 h2, hvw⟩
  · obtain ⟨m', g', ⟨rfl, h1, h2⟩, hr'⟩ := this
    exact ⟨g', gd, hr.regrow hr' h1 h2, .undef _⟩
  · refine this.mono ?_
    rintro e W'' ⟨v', w, m', g', rfl, ⟨rfl, h1, h2⟩, hr', hvw⟩
    exact ⟨w, rfl, g', gd, hr.regrow hr' h1 h2, hvw⟩
  · exact this.elim

/-- More is known of what the numbers stand for. -/
def Gle (g g' : List (Option GB)) : Prop := ∀ (j : Nat) (gb : GB), g[j]? = some (some gb) → g'[j]? = some (some gb)
theorem SR.gle {g g' : List (Option GB)} (h : Gle g g') {v w : Value} (hv : SR g v w) : SR g' v w := by
  cases hv with
  | top _ h => exact .top _ h
  | ptr j off gb hg => exact .ptr _ off gb (h j gb hg)
  | slice j off len cap gb hg => exact .slice _ off len cap gb (h j gb hg)
  | bool => exact .bool _
  | int => exact .int _ _
  | str => exact .str _
  | ptr0 => exact .ptr0
  | slice0 => exact .slice0
  | nilFunc => exact .nilFunc
  | nilIface => exact .nilIface
  | func => exact .func _
theorem AR.gle {g g' : List (Option GB)} (h : Gle g g') {v w : Value} (hv : AR g v w) : AR g' v w := by
  cases hv with
  | s hs => exact .s (hs.gle h)
  | agg hf => exact .agg (hf.imp fun _ _ h' => h'.gle h)
theorem VR.gle {g g' : List (Option GB)} (h : Gle g g') {v w : Value} (hv : VR g v w) : VR g' v w := by
  cases hv with
  | a ha => exact .a (ha.gle h)
  | tup hf => exact .tup (hf.imp fun _ _ h' => h'.gle h)
  | top => exact .top _

theorem getElem?_take_of_lt {α : Type} {l : List α} {n i : Nat} (h : i < n) : (l.take n)[i]? = l[i]? := by rw [List.getElem?_take, if_pos h]

theorem SR.low {g : List (Option GB)} {n : Nat} {v w : Value} (hv : SR g v w) (hl : lowS n v = true) : SR (g.take n) v w := by
  cases hv with
  | top _ h => exact .top _ h
  | ptr j off gb hg => exact .ptr _ off gb (by rw [getElem?_take_of_lt (by simpa [lowS] using hl)]; exact hg)
  | slice j off len cap gb hg => exact .slice _ off len cap gb (by rw [getElem?_take_of_lt (by simpa [lowS] using hl)]; exact hg)
  | bool => exact .bool _
  | int => exact .int _ _
  | str => exact .str _
  | ptr0 => exact .ptr0
  | slice0 => exact .slice0
  | nilFunc => exact .nilFunc
  | nilIface => exact .nilIface
  | func => exact .func _
theorem F2.low {R S : Value → Value → Prop} {p : Value → Bool} (h : ∀ v w, R v w → p v = true → S v w) : ∀ {l l' : List Value}, F2 R l l' → l.all p = true → F2 S l l'
  | [], [], _, _ => .nil
  | v :: l, w :: l', .cons hr hf, hp => by
    simp only [List.all_cons, Bool.and_eq_true] at hp
    exact .cons (h v w hr hp.1) (F2.low h hf hp.2)
theorem AR.low {g : List (Option GB)} {n : Nat} {v w : Value} (hv : AR g v w) (hl : low1 n v = true) : AR (g.take n) v w := by
  cases hv with
  | s hs =>
    refine .s (hs.low ?_)
    have := hs.scalar.1
    cases v <;> first | exact hl | cases this
  | agg hf => exact .agg (F2.low (p := lowS n) (fun _ _ h hp => SR.low h hp) hf hl)
theorem VR.low {g : List (Option GB)} {n : Nat} {v w : Value} (hv : VR g v w) (hl : AE.low n v = true) : VR (g.take n) v w := by
  cases hv with
  | a ha =>
    refine .a (ha.low ?_)
    cases ha with
    | s hs =>
      have := hs.scalar.1
      cases v <;> first | exact hl | cases this
    | agg _ => exact hl
  | tup hf => exact .tup (F2.low (p := low1 n) (fun _ _ h hp => AR.low h hp) hf hl)
  | top => exact .top _
end Go.AE
