/-
  An abstract logic for the model, and a symbolic executor over it (part 4). Conditions: none.
-/
import Derived.Test.YtmjapmghihalpaaDoorLog3
set_option linter.unusedVariables false
set_option linter.unusedSimpArgs false
set_option linter.unnecessarySimpa false
set_option linter.constructorNameAsVariable false
section
namespace Go.AE
variable {P : Program}
/-! Structures of blocks, seen from their root. -/
/-- How the blocks of a structure look ('m'), and where they lie ('g'); 'fp': what it owns, 'rp': what it reads. -/
structure TRel (P : Program) (g : List (Option GB)) (m : Mem) (W : World) (fp rp : Nat → Prop) : Prop where
  len : g.length = m.length
  blk : ∀ (j : Nat) (b : ABlk) (gb : GB), m[j]? = some (some b) → g[j]? = some (some gb) → ∃ (cs : Array Value) (fr : TypeId × (Nat × Nat)), W.heap[gb.b]? = some (.cells cs fr.1 fr.2) ∧
    F2 (SR g) b.cells ((cs.toList.drop gb.base).take b.cells.length) ∧ gb.base + b.cells.length ≤ cs.size ∧
    (b.rw = true → fr = (b.elem, (0, 0)) ∧ fp gb.b ∧ gb.base = 0 ∧ b.cells.length + gb.extra * P.cellsOf b.elem ≤ cs.size) ∧ (b.ex = true → gb.extra = 0)
  inj : ∀ (i j : Nat) (bi bj : ABlk) (gi gj : GB), i ≠ j → m[i]? = some (some bi) → m[j]? = some (some bj) → bi.rw = true → g[i]? = some (some gi) → g[j]? = some (some gj) → gi.b ≠ gj.b
  ro : ∀ (j : Nat) (b : ABlk) (gb : GB), m[j]? = some (some b) → g[j]? = some (some gb) → b.rw = false → b.ob = none → rp gb.b
  objs : ∃ fps rps : Nat → Nat → Prop, (∀ (j : Nat) (b : ABlk) (gb : GB) (o : Ob), m[j]? = some (some b) → g[j]? = some (some gb) → b.ob = some o → o.rep gb W (fps j) (rps j) ∧ b.rw = false) ∧
    (∀ j k, fps j k → fp k) ∧ (∀ j k, rps j k → rp k) ∧ (∀ i j k, i ≠ j → fps i k → ¬ fps j k) ∧
    (∀ (i : Nat) (b : ABlk) (gb : GB) (j : Nat), m[i]? = some (some b) → g[i]? = some (some gb) → b.ob = none → b.rw = true → ¬ fps j gb.b)
theorem TRel.loc {g : List (Option GB)} {m : Mem} {W W' : World} {fp rp : Nat → Prop} (h : TRel P g m W fp rp) (hk : ∀ k, fp k ∨ rp k → W'.heap[k]? = W.heap[k]?) : TRel P g m W' fp rp := by
  obtain ⟨fps, rps, h1, h2, h3, h4, h5⟩ := h.objs
  refine ⟨h.len, ?_, h.inj, h.ro, fps, rps, ?_, h2, h3, h4, h5⟩
  · intro j b gb hj hg
    obtain ⟨cs, fr, hh, hf, hs, hrw, hex⟩ := h.blk j b gb hj hg
    refine ⟨cs, fr, ?_, hf, hs, hrw, hex⟩
    rw [hk gb.b, hh]
    cases hb : b.rw with
    | true => exact .inl (hrw hb).2.1
    | false => cases ho : b.ob with
      | none => exact .inr (h.ro j b gb hj hg hb ho)
      | some o => exact .inl (h2 j _ (o.root (h1 j b gb o hj hg ho).1))
  · intro j b gb o hj hg ho
    obtain ⟨q1, q2⟩ := h1 j b gb o hj hg ho
    exact ⟨o.loc q1 fun k hkk => hk k (hkk.imp (h2 j k) (h3 j k)), q2⟩
/-- The object that a structure of blocks is; 'inv': what holds of it. -/
def obT (P : Program) (tm : Mem) (inv : Prop) : Ob where
  rep gb W fp rp := inv ∧ fp gb.b ∧ ∃ g, g[0]? = some (some gb) ∧ TRel P g tm W fp rp
  loc h hk := ⟨h.1, h.2.1, by obtain ⟨_, _, g, h0, ht⟩ := h; exact ⟨g, h0, ht.loc hk⟩⟩
  root h := h.2.1
/-- Where the blocks of a structure go that is laid open: its root stays, the others are new. -/
def opR (j n i : Nat) : Nat := if i = 0 then j else n + (i - 1)
theorem opR_old {j n t : Nat} (h : opR j n t ≠ j) (h' : opR j n t < n) : False := by
  unfold opR at h h'
  split at h
  · exact h rfl
  · rename_i e; rw [if_neg e] at h'; omega
def openM (j : Nat) (tm m : Mem) : Mem := m.set j ((tm.getD 0 none).map (renBlk (opR j m.length))) ++ tm.tail.map fun b => b.map (renBlk (opR j m.length))
def obBlk (vis : List Value) (el : TypeId) (ex : Bool) (o : Ob) : ABlk := ⟨vis, el, false, ex, some o⟩
theorem Rel.open {c : Ctx} {g : List (Option GB)} {m : Mem} {W : World} (hr : Rel P c g m W) {j : Nat} {vis : List Value} {el : TypeId} {ex : Bool} {tm : Mem} {inv : Prop} (hj : m[j]? = some (some (obBlk vis el ex (obT P tm inv)))) {gb : GB} (hg : g[j]? = some (some gb)) :
    inv ∧ ∃ gt, Rel P c (g ++ gt) (openM j tm m) W := by
  obtain ⟨fp, rp, hA⟩ := hr.objs
  obtain ⟨⟨hinv, hroot, gt, hg0, ht⟩, _⟩ := hA.rep j _ gb _ hj hg rfl
  refine ⟨hinv, gt.tail, ?_⟩
  obtain ⟨fps, rps, h1, h2, h3, h4, h5⟩ := ht.objs
  have hjl : j < m.length := lt_of_getElem? hj
  have hlt0 : 0 < gt.length := lt_of_getElem? hg0
  have hgl := hr.len
  have htl := ht.len
  -- a block of the structure, or one that was there
  have src : ∀ (i : Nat) (b : ABlk) (gi : GB), (openM j tm m)[i]? = some (some b) → (g ++ gt.tail)[i]? = some (some gi) →
      (i ≠ j ∧ m[i]? = some (some b) ∧ g[i]? = some (some gi)) ∨ ∃ (t : Nat) (b0 : ABlk), opR j m.length t = i ∧ t < tm.length ∧ tm[t]? = some (some b0) ∧ b = renBlk (opR j m.length) b0 ∧ gt[t]? = some (some gi) := by
    intro i b gi hi hgi
    unfold openM at hi
    rcases Nat.lt_or_ge i m.length with hl | hl
    · rw [List.getElem?_append_left (by simpa using hl)] at hi
      rw [List.getElem?_append_left (by rw [hgl]; exact hl)] at hgi
      rw [List.getElem?_set] at hi
      by_cases e : j = i
      · subst e
        rw [if_pos rfl, if_pos hjl] at hi
        simp only [Option.some.injEq, Option.map_eq_some_iff] at hi
        obtain ⟨b0, hb0, rfl⟩ := hi
        refine .inr ⟨0, b0, rfl, by omega, ?_, rfl, ?_⟩
        · rw [List.getD_eq_getElem?_getD] at hb0
          rw [List.getElem?_eq_getElem (by omega : 0 < tm.length)] at hb0 ⊢
          exact congrArg some hb0
        · rw [hg0, ← hg, hgi]
      · rw [if_neg e] at hi
        exact .inl ⟨fun h => e h.symm, hi, hgi⟩
    · rw [List.getElem?_append_right (by simpa using hl), List.length_set, List.getElem?_map, Option.map_eq_some_iff] at hi
      obtain ⟨x, hx, hb⟩ := hi
      simp only [Option.map_eq_some_iff] at hb
      obtain ⟨b0, rfl, rfl⟩ := hb
      rw [List.getElem?_append_right (by rw [hgl]; exact hl), hgl] at hgi
      rw [List.getElem?_tail] at hx hgi
      exact .inr ⟨i - m.length + 1, b0, by simp only [opR]; rw [if_neg (by omega)]; omega, lt_of_getElem? hx, hx, rfl, hgi⟩
  have ren : RenOk (opR j m.length) gt (g ++ gt.tail) := by
    refine ⟨fun i gi hi => ?_, fun i hi => ?_⟩
    · simp only [opR]
      split
      · rename_i e
        subst e
        rw [hg0] at hi
        rw [List.getElem?_append_left (by omega), hg, hi]
      · rw [List.getElem?_append_right (by omega), List.getElem?_tail, hgl, show m.length + (i - 1) - m.length + 1 = i from by omega]
        exact hi
    · simp only [opR, List.length_append, List.length_tail]
      split <;> omega
  have hlt : ∀ (i : Nat) (b : ABlk) (gi : GB), m[i]? = some (some b) → g[i]? = some (some gi) → gi.b < W.heap.size := by
    intro i b gi hi hgi
    obtain ⟨cs, fr, hh, _⟩ := hr.blk i b gi hi hgi
    rcases Nat.lt_or_ge gi.b W.heap.size with h' | h'
    · exact h'
    · rw [Array.getElem?_eq_none h'] at hh; cases hh
  -- what the structure has is nobody else's
  have apart : ∀ (i : Nat) (b : ABlk) (gi : GB), i ≠ j → m[i]? = some (some b) → g[i]? = some (some gi) → ¬ fp j gi.b := by
    intro i b gi hne hi hgi
    cases ho : b.ob with
    | none => exact hA.oth i b gi j hi hgi ho
    | some o => exact fun h => hA.dis j i _ (fun e => hne e.symm) h (o.root (hA.rep i b gi o hi hgi ho).1)
  have mine : ∀ (t : Nat) (b0 : ABlk) (gi : GB), tm[t]? = some (some b0) → gt[t]? = some (some gi) → fp j gi.b ∨ (b0.rw = false ∧ b0.ob = none ∧ rp j gi.b) := by
    intro t b0 gi hb hgi
    obtain ⟨cs, fr, hh, hf, hs, hrw, hex⟩ := ht.blk t b0 gi hb hgi
    cases hb0 : b0.rw with
    | true => exact .inl (hrw hb0).2.1
    | false => cases ho : b0.ob with
      | none => exact .inr ⟨rfl, rfl, ht.ro t b0 gi hb hgi hb0 ho⟩
      | some o => exact .inl (h2 t _ (o.root (h1 t b0 gi o hb hgi ho).1))
  have inv1 : ∀ a a', opR j m.length a = opR j m.length a' → a = a' := by
    intro a a' h
    simp only [opR] at h
    split at h <;> split at h <;> omega
  refine ⟨?_, ?_, ?_, hr.frame, hr.size, hr.os, hr.tape, hr.output, ?_, ?_⟩
  · simp only [openM, List.length_append, List.length_set, List.length_map, List.length_tail]; omega
  · intro i b gi hi hgi
    rcases src i b gi hi hgi with ⟨_, hi, hgi⟩ | ⟨t, b0, rfl, _, hb0, rfl, hgt⟩
    · obtain ⟨cs, fr, hh, hf, rest⟩ := hr.blk i b gi hi hgi
      exact ⟨cs, fr, hh, hf.imp fun _ _ h => h.app, rest⟩
    · obtain ⟨cs, fr, hh, hf, hs, hrw, hex⟩ := ht.blk t b0 gi hb0 hgt
      refine ⟨cs, fr, hh, ?_, by simpa [renBlk] using hs, fun h => ?_, hex⟩
      · simp only [renBlk, List.length_map]
        have := hf.map (S := SR (g ++ gt.tail)) (f := renS (opR j m.length)) (f' := id) fun _ _ h' => h'.ren ren
        simpa using this
      · obtain ⟨q1, q2, q3, q4⟩ := hrw h
        exact ⟨q1, (hA.own _ _ q2).2, q3, by simpa [renBlk] using q4⟩
  · intro p q bp bq gp gq hne hp hq hrw hgp hgq
    rcases src p bp gp hp hgp with ⟨np, hp2, hgp2⟩ | ⟨t, b0, rfl, _, hb0, rfl, hgt⟩ <;> rcases src q bq gq hq hgq with ⟨nq, hq2, hgq2⟩ | ⟨t', b1, rfl, _, hb1, rfl, hgt'⟩
    · exact hr.inj p q bp bq gp gq hne hp2 hq2 hrw hgp2 hgq2
    · intro e
      rcases mine t' b1 gq hb1 hgt' with h | ⟨_, _, h⟩
      · exact apart p bp gp np hp2 hgp2 (e ▸ h)
      · have h6 := hA.rr _ (hA.ro _ _ h)
        obtain ⟨_, _, _, _, _, hx, _⟩ := hr.blk p bp gp hp2 hgp2
        have h7 := (hx hrw).2.1
        rw [e] at h7
        rcases h7 with h7 | h7
        · omega
        · exact h6.2 h7
    · intro e
      obtain ⟨_, _, _, _, _, hx, _⟩ := ht.blk t b0 gp hb0 hgt
      exact apart q bq gq nq hq2 hgq2 (e ▸ (hx hrw).2.1)
    · exact ht.inj t t' b0 b1 gp gq (fun e => hne (e ▸ rfl)) hb0 hb1 hrw hgt hgt'
  · -- the objects
    refine ⟨fun i k => (i ≠ j ∧ i < m.length ∧ fp i k) ∨ ∃ t, opR j m.length t = i ∧ fps t k, fun i k => (i ≠ j ∧ i < m.length ∧ rp i k) ∨ ∃ t, opR j m.length t = i ∧ rps t k, ?_, ?_, ?_, ?_, ?_, hA.rr⟩
    · intro i b gi o hi hgi ho
      rcases src i b gi hi hgi with ⟨ni, hi2, hgi2⟩ | ⟨t, b0, rfl, _, hb0, rfl, hgt⟩
      · have hil := lt_of_getElem? hi2
        have e1 : (fun k => (i ≠ j ∧ i < m.length ∧ fp i k) ∨ ∃ t, opR j m.length t = i ∧ fps t k) = fp i := funext fun k => propext ⟨fun h => by
          rcases h with h | ⟨t, h, _⟩
          · exact h.2.2
          · simp only [opR] at h; split at h <;> omega, fun h => .inl ⟨ni, hil, h⟩⟩
        have e2 : (fun k => (i ≠ j ∧ i < m.length ∧ rp i k) ∨ ∃ t, opR j m.length t = i ∧ rps t k) = rp i := funext fun k => propext ⟨fun h => by
          rcases h with h | ⟨t, h, _⟩
          · exact h.2.2
          · simp only [opR] at h; split at h <;> omega, fun h => .inl ⟨ni, hil, h⟩⟩
        rw [e1, e2]
        exact hA.rep i b gi o hi2 hgi2 ho
      · have e1 : (fun k => (opR j m.length t ≠ j ∧ opR j m.length t < m.length ∧ fp (opR j m.length t) k) ∨ ∃ t', opR j m.length t' = opR j m.length t ∧ fps t' k) = fps t := funext fun k => propext ⟨fun h => by
          rcases h with h | ⟨t', h, h'⟩
          · exact (opR_old h.1 h.2.1).elim
          · rw [inv1 _ _ h] at h'; exact h', fun h => .inr ⟨t, rfl, h⟩⟩
        have e2 : (fun k => (opR j m.length t ≠ j ∧ opR j m.length t < m.length ∧ rp (opR j m.length t) k) ∨ ∃ t', opR j m.length t' = opR j m.length t ∧ rps t' k) = rps t := funext fun k => propext ⟨fun h => by
          rcases h with h | ⟨t', h, h'⟩
          · exact (opR_old h.1 h.2.1).elim
          · rw [inv1 _ _ h] at h'; exact h', fun h => .inr ⟨t, rfl, h⟩⟩
        rw [e1, e2]
        exact h1 t b0 gi o hb0 hgt ho
    · intro i k h
      rcases h with ⟨_, _, h⟩ | ⟨t, _, h⟩
      · exact hA.own _ _ h
      · exact hA.own _ _ (h2 t k h)
    · intro i k h
      rcases h with ⟨_, _, h⟩ | ⟨t, _, h⟩
      · exact hA.ro _ _ h
      · exact hA.ro _ _ (h3 t k h)
    · intro i i' k hne ha hb
      rcases ha with ⟨na, _, ha⟩ | ⟨t, rfl, ha⟩ <;> rcases hb with ⟨nb, _, hb⟩ | ⟨t', rfl, hb⟩
      · exact hA.dis i i' k hne ha hb
      · exact hA.dis i j k na ha (h2 t' k hb)
      · exact hA.dis i' j k nb hb (h2 t k ha)
      · exact h4 t t' k (fun e => hne (e ▸ rfl)) ha hb
    · intro i b gi i' hi hgi ho h
      rcases src i b gi hi hgi with ⟨ni, hi2, hgi2⟩ | ⟨t, b0, rfl, _, hb0, rfl, hgt⟩ <;> rcases h with ⟨n', _, h⟩ | ⟨t', rfl, h⟩
      · exact hA.oth i b gi i' hi2 hgi2 ho h
      · exact hA.oth i b gi j hi2 hgi2 ho (h2 t' _ h)
      · rcases mine t b0 gi hb0 hgt with q | ⟨_, _, q⟩
        · exact hA.dis i' j _ n' h q
        · have q1 := hA.rr _ (hA.ro _ _ q)
          have q2 := (hA.own _ _ h).2
          rcases q2 with q2 | q2
          · omega
          · exact q1.2 q2
      · cases hrw : b0.rw with
        | true => exact h5 t b0 gi t' hb0 hgt ho hrw h
        | false =>
          have q1 := hA.rr _ (hA.ro _ _ (ht.ro t b0 gi hb0 hgt hrw ho))
          have q2 := (hA.own _ _ (h2 t' _ h)).2
          rcases q2 with q2 | q2
          · omega
          · exact q1.2 q2
  · intro i b gi hi hgi h6 h7
    rcases src i b gi hi hgi with ⟨ni, hi2, hgi2⟩ | ⟨t, b0, rfl, _, hb0, rfl, hgt⟩
    · exact hr.ro i b gi hi2 hgi2 h6 h7
    · exact hA.ro _ _ (ht.ro t b0 gi hb0 hgt h6 h7)
end Go.AE
end
section
namespace Go.AE
variable {P : Program}
/-- Some blocks are made an object again: the first is its root, of the others nothing is known any more. -/
def killL : List Nat → Mem → Mem
  | [], m => m
  | j :: js, m => killL js (m.set j none)
theorem killL_len : ∀ (js : List Nat) (m : Mem), (killL js m).length = m.length
  | [], _ => rfl
  | j :: js, m => by simp [killL, killL_len js]
theorem killL_get : ∀ (js : List Nat) (m : Mem) (i : Nat) (b : ABlk), (killL js m)[i]? = some (some b) → m[i]? = some (some b) ∧ i ∉ js
  | [], _, _, _, h => ⟨h, by simp⟩
  | j :: js, m, i, b, h => by
    obtain ⟨h1, h2⟩ := killL_get js _ i b h
    rw [List.getElem?_set] at h1
    split at h1
    · split at h1 <;> simp at h1
    · rename_i e
      exact ⟨h1, by simp only [List.mem_cons, not_or]; exact ⟨fun h => e h.symm, h2⟩⟩
def closeM (js : List Nat) (vis : List Value) (el : TypeId) (ex : Bool) (o : Ob) (m : Mem) : Mem := (killL js m).set (js.getD 0 0) (some (obBlk vis el ex o))
theorem Rel.close {c : Ctx} {g : List (Option GB)} {m : Mem} {W : World} (hr : Rel P c g m W) {js : List Nat} {vis : List Value} {el : TypeId} {ex : Bool} {tm : Mem} {inv : Prop} (hinv : inv) (hl : js.length = tm.length) (h0 : 0 < js.length) (hnd : js.Nodup)
    (hm : ∀ (t : Nat) (b : ABlk), tm[t]? = some (some b) → b.cells.all (lowS tm.length) = true ∧ ∃ b', m[js.getD t 0]? = some (some b') ∧ b'.rw = b.rw ∧ b'.ob = b.ob ∧ b'.cells = b.cells.map (renS fun i => js.getD i 0) ∧ b'.elem = b.elem ∧ (b.ex = true → b'.ex = true))
    (hin : ∀ j ∈ js, j < m.length) {b0 : ABlk} (hr0 : tm[0]? = some (some b0)) (hex : ex = true → b0.ex = true) (hrw0 : b0.rw = true ∨ b0.ob ≠ none) (hvis : F2 Less (b0.cells.map (renS fun i => js.getD i 0)) vis) : Rel P c g (closeM js vis el ex (obT P tm inv) m) W := by
  obtain ⟨fp, rp, hA⟩ := hr.objs
  have hgl := hr.len
  have at_ : ∀ t, t < js.length → js[t]? = some (js.getD t 0) := fun t ht => by rw [List.getD_eq_getElem?_getD, List.getElem?_eq_getElem ht]; rfl
  have mem_ : ∀ t, t < js.length → js.getD t 0 ∈ js := fun t ht => List.mem_of_getElem? (at_ t ht)
  have inj_ : ∀ t t', t < js.length → t' < js.length → js.getD t 0 = js.getD t' 0 → t = t' := by
    intro t t' ht ht' e
    have h1 := at_ t ht
    have h2 := at_ t' ht'
    rw [List.getElem?_eq_getElem ht] at h1
    rw [List.getElem?_eq_getElem ht'] at h2
    have h1 := Option.some.inj h1
    have h2 := Option.some.inj h2
    have hp := List.pairwise_iff_getElem.1 hnd
    rcases Nat.lt_trichotomy t t' with h | h | h
    · exact (hp t t' ht ht' h (h1.trans (e.trans h2.symm))).elim
    · exact h
    · exact (hp t' t ht' ht h (h1.trans (e.trans h2.symm)).symm).elim
  have hjl : js.getD 0 0 < m.length := hin _ (mem_ 0 h0)
  have src : ∀ (i : Nat) (b : ABlk), (closeM js vis el ex (obT P tm inv) m)[i]? = some (some b) → (i ∉ js ∧ m[i]? = some (some b)) ∨ (i = js.getD 0 0 ∧ b = obBlk vis el ex (obT P tm inv)) := by
    intro i b hi
    unfold closeM at hi
    rw [List.getElem?_set] at hi
    by_cases e : js.getD 0 0 = i
    · rw [if_pos e, killL_len, if_pos (e ▸ hjl)] at hi
      simp only [Option.some.injEq] at hi
      exact .inr ⟨e.symm, hi.symm⟩
    · rw [if_neg e] at hi
      obtain ⟨h1, h2⟩ := killL_get js m i b hi
      exact .inl ⟨h2, h1⟩
  have hgt : ∀ (t : Nat) (gb : GB), (js.map fun j => g.getD j none)[t]? = some (some gb) → t < js.length ∧ g[js.getD t 0]? = some (some gb) := by
    intro t gb ht
    rw [List.getElem?_map, Option.map_eq_some_iff] at ht
    obtain ⟨j, hj, hgj⟩ := ht
    have htl := lt_of_getElem? hj
    rw [at_ t htl] at hj
    obtain rfl := Option.some.inj hj
    refine ⟨htl, ?_⟩
    have := hin _ (mem_ t htl)
    rw [List.getD_eq_getElem?_getD, List.getElem?_eq_getElem (by omega)] at hgj
    rw [List.getElem?_eq_getElem (by omega), ← hgj]; rfl
  have back : BackOk tm.length (fun i => js.getD i 0) g (js.map fun j => g.getD j none) := by
    refine ⟨fun i gb hi hgi => ?_, by rw [List.length_map, hl]; exact Nat.le_refl _⟩
    rw [List.getElem?_map, at_ i (by omega), Option.map_some]
    rw [List.getD_eq_getElem?_getD, hgi]; rfl
  have hlt : ∀ (i : Nat) (b : ABlk) (gi : GB), m[i]? = some (some b) → g[i]? = some (some gi) → gi.b < W.heap.size := by
    intro i b gi hi hgi
    obtain ⟨cs, fr, hh, _⟩ := hr.blk i b gi hi hgi
    rcases Nat.lt_or_ge gi.b W.heap.size with h' | h'
    · exact h'
    · rw [Array.getElem?_eq_none h'] at hh; cases hh
  refine ⟨by simp only [closeM, List.length_set, killL_len]; exact hgl, ?_, ?_, hr.frame, hr.size, hr.os, hr.tape, hr.output, ?_, ?_⟩
  · intro i b gb hi hgi
    rcases src i b hi with ⟨_, hi⟩ | ⟨rfl, rfl⟩
    · exact hr.blk i b gb hi hgi
    · obtain ⟨_, b', h1, _, _, hc', _, hx'⟩ := hm 0 b0 hr0
      obtain ⟨cs, fr, hh, hf, hs, hrw, hx⟩ := hr.blk _ _ gb h1 hgi
      rw [hc'] at hf hs
      have hl' : ((b0.cells.map (renS fun i => js.getD i 0))).length = vis.length := hvis.length
      refine ⟨cs, fr, hh, ?_, ?_, fun h => (by cases h), fun h => hx (hx' (hex h))⟩
      · show F2 (SR g) vis ((cs.toList.drop gb.base).take vis.length)
        rw [← hl']
        exact hvis.lessS hf
      · show gb.base + vis.length ≤ cs.size
        rw [← hl']
        exact hs
  · intro p q bp bq gp gq hne hp hq hrw hgp hgq
    rcases src p bp hp with ⟨np, hp2⟩ | ⟨rfl, rfl⟩
    · rcases src q bq hq with ⟨nq, hq2⟩ | ⟨rfl, rfl⟩
      · exact hr.inj p q bp bq gp gq hne hp2 hq2 hrw hgp hgq
      · obtain ⟨_, b', h1, _⟩ := hm 0 b0 hr0
        exact hr.inj p _ bp _ gp gq hne hp2 h1 hrw hgp hgq
    · cases hrw
  · -- the objects
    let fp0 : Nat → Prop := fun k => (∃ t b gb, tm[t]? = some (some b) ∧ g[js.getD t 0]? = some (some gb) ∧ b.rw = true ∧ gb.b = k) ∨ ∃ t b gb, tm[t]? = some (some b) ∧ g[js.getD t 0]? = some (some gb) ∧ b.ob ≠ none ∧ fp (js.getD t 0) k
    let rp0 : Nat → Prop := fun k => (∃ t b gb, tm[t]? = some (some b) ∧ g[js.getD t 0]? = some (some gb) ∧ b.rw = false ∧ b.ob = none ∧ gb.b = k) ∨ ∃ t b gb, tm[t]? = some (some b) ∧ g[js.getD t 0]? = some (some gb) ∧ b.ob ≠ none ∧ rp (js.getD t 0) k
    have e0 : ∀ (f : Nat → Nat → Prop) (f0 : Nat → Prop) i, i ∉ js → (fun k => (i ∉ js ∧ f i k) ∨ (i = js.getD 0 0 ∧ f0 k)) = f i := by
      intro f f0 i hi
      funext k
      refine propext ⟨fun h => ?_, fun h => .inl ⟨hi, h⟩⟩
      rcases h with h | ⟨rfl, _⟩
      · exact h.2
      · exact (hi (mem_ 0 h0)).elim
    have e1 : ∀ (f : Nat → Nat → Prop) (f0 : Nat → Prop), (fun k => (js.getD 0 0 ∉ js ∧ f (js.getD 0 0) k) ∨ (js.getD 0 0 = js.getD 0 0 ∧ f0 k)) = f0 := by
      intro f f0
      funext k
      refine propext ⟨fun h => ?_, fun h => .inr ⟨rfl, h⟩⟩
      rcases h with h | h
      · exact (h.1 (mem_ 0 h0)).elim
      · exact h.2
    refine ⟨fun i k => (i ∉ js ∧ fp i k) ∨ (i = js.getD 0 0 ∧ fp0 k), fun i k => (i ∉ js ∧ rp i k) ∨ (i = js.getD 0 0 ∧ rp0 k), ?_, ?_, ?_, ?_, ?_, hA.rr⟩
    · intro i b gb o hi hgi ho
      rcases src i b hi with ⟨ni, hi2⟩ | ⟨rfl, rfl⟩
      · rw [e0 fp fp0 i ni, e0 rp rp0 i ni]
        exact hA.rep i b gb o hi2 hgi ho
      · simp only [obBlk, Option.some.injEq] at ho
        subst ho
        rw [e1 fp fp0, e1 rp rp0]
        refine ⟨⟨hinv, ?_, js.map fun j => g.getD j none, ?_, ?_⟩, rfl⟩
        · rcases hrw0 with h | h
          · exact .inl ⟨0, b0, gb, hr0, hgi, h, rfl⟩
          · cases hob : b0.ob with
            | none => exact (h hob).elim
            | some o =>
              obtain ⟨_, b', h1, _, h3, _⟩ := hm 0 b0 hr0
              exact .inr ⟨0, b0, gb, hr0, hgi, h, o.root (hA.rep _ _ gb o h1 hgi (h3.trans hob)).1⟩
        · rw [List.getElem?_map, at_ 0 h0, Option.map_some]
          rw [List.getD_eq_getElem?_getD (l := g), hgi]; rfl
        · refine ⟨by rw [List.length_map, hl], ?_, ?_, ?_, ?_⟩
          · intro t b gt hb hgt'
            obtain ⟨htl, hgj⟩ := hgt t gt hgt'
            obtain ⟨hlow, b', hmb, hw', ho', hc', he', hx'⟩ := hm t b hb
            obtain ⟨cs, fr, hh, hf, hs, hrw, hx⟩ := hr.blk _ _ gt hmb hgj
            rw [hc', List.length_map] at hf hs
            refine ⟨cs, fr, hh, F2.back (p := lowS tm.length) (fun v w hp hv => SR.back (n := tm.length) back hp hv) hlow hf, hs, fun h => ?_, fun h => hx (hx' h)⟩
            obtain ⟨q1, q2, q3, q4⟩ := hrw (hw'.trans h)
            rw [hc', List.length_map, he'] at q4
            rw [he'] at q1
            exact ⟨q1, .inl ⟨t, b, gt, hb, hgj, h, rfl⟩, q3, q4⟩
          · intro t t' bt bt' gt gt' hne hb hb' hrw hg1 hg2
            obtain ⟨htl, hgj⟩ := hgt t gt hg1
            obtain ⟨htl', hgj'⟩ := hgt t' gt' hg2
            obtain ⟨_, b1, h1, h2, _⟩ := hm t bt hb
            obtain ⟨_, b2, h3, _⟩ := hm t' bt' hb'
            exact hr.inj _ _ b1 b2 gt gt' (fun e => hne (inj_ t t' htl htl' e)) h1 h3 (h2.trans hrw) hgj hgj'
          · intro t b gt hb hg1 h1 h2
            obtain ⟨htl, hgj⟩ := hgt t gt hg1
            exact .inl ⟨t, b, gt, hb, hgj, h1, h2, rfl⟩
          · refine ⟨fun t k => (∃ b gb, tm[t]? = some (some b) ∧ g[js.getD t 0]? = some (some gb) ∧ b.ob ≠ none) ∧ t < js.length ∧ fp (js.getD t 0) k, fun t k => (∃ b gb, tm[t]? = some (some b) ∧ g[js.getD t 0]? = some (some gb) ∧ b.ob ≠ none) ∧ t < js.length ∧ rp (js.getD t 0) k, ?_, ?_, ?_, ?_, ?_⟩
            · intro t b gt o hb hg1 ho
              obtain ⟨htl, hgj⟩ := hgt t gt hg1
              have hx : ∃ b gb, tm[t]? = some (some b) ∧ g[js.getD t 0]? = some (some gb) ∧ b.ob ≠ none := ⟨b, gt, hb, hgj, by rw [ho]; simp⟩
              obtain ⟨_, b', q1, q2, q3, _⟩ := hm t b hb
              have := hA.rep _ b' gt o q1 hgj (q3.trans ho)
              rw [q2] at this
              have f1 : (fun k => (∃ b gb, tm[t]? = some (some b) ∧ g[js.getD t 0]? = some (some gb) ∧ b.ob ≠ none) ∧ t < js.length ∧ fp (js.getD t 0) k) = fp (js.getD t 0) := funext fun k => propext ⟨fun h => h.2.2, fun h => ⟨hx, htl, h⟩⟩
              have f2 : (fun k => (∃ b gb, tm[t]? = some (some b) ∧ g[js.getD t 0]? = some (some gb) ∧ b.ob ≠ none) ∧ t < js.length ∧ rp (js.getD t 0) k) = rp (js.getD t 0) := funext fun k => propext ⟨fun h => h.2.2, fun h => ⟨hx, htl, h⟩⟩
              show o.rep gt W (fun k => (∃ b gb, tm[t]? = some (some b) ∧ g[js.getD t 0]? = some (some gb) ∧ b.ob ≠ none) ∧ t < js.length ∧ fp (js.getD t 0) k) (fun k => (∃ b gb, tm[t]? = some (some b) ∧ g[js.getD t 0]? = some (some gb) ∧ b.ob ≠ none) ∧ t < js.length ∧ rp (js.getD t 0) k) ∧ _
              rw [f1, f2]
              exact this
            · rintro t k ⟨⟨b, gb', hb, hg1, ho⟩, htl, h⟩
              exact .inr ⟨t, b, gb', hb, hg1, ho, h⟩
            · rintro t k ⟨⟨b, gb', hb, hg1, ho⟩, htl, h⟩
              exact .inr ⟨t, b, gb', hb, hg1, ho, h⟩
            · rintro t t' k hne ⟨_, htl, ha⟩ ⟨_, htl', hb⟩
              exact hA.dis _ _ k (fun e => hne (inj_ t t' htl htl' e)) ha hb
            · rintro t b gt t' hb hg1 ho hrw ⟨_, _, h⟩
              obtain ⟨htl, hgj⟩ := hgt t gt hg1
              obtain ⟨_, b', q1, q2, q3, _⟩ := hm t b hb
              exact hA.oth _ b' gt _ q1 hgj (q3.trans ho) h
    · intro i k h
      rcases h with ⟨_, h⟩ | ⟨rfl, h⟩
      · exact hA.own _ _ h
      · rcases h with ⟨t, b, gb, hb, hg1, hrw, rfl⟩ | ⟨t, b, gb, hb, hg1, ho, h⟩
        · obtain ⟨_, b', q1, q2, q3, _⟩ := hm t b hb
          refine ⟨hlt _ b' gb q1 hg1, ?_⟩
          obtain ⟨_, _, _, _, _, hx, _⟩ := hr.blk _ b' gb q1 hg1
          exact (hx (q2.trans hrw)).2.1
        · exact hA.own _ _ h
    · intro i k h
      rcases h with ⟨_, h⟩ | ⟨rfl, h⟩
      · exact hA.ro _ _ h
      · rcases h with ⟨t, b, gb, hb, hg1, hrw, ho, rfl⟩ | ⟨t, b, gb, hb, hg1, ho, h⟩
        · obtain ⟨_, b', q1, q2, q3, _⟩ := hm t b hb
          exact hr.ro _ b' gb q1 hg1 (q2.trans hrw) (q3.trans ho)
        · exact hA.ro _ _ h
    · have key : ∀ i k, i ∉ js → fp i k → ¬ fp0 k := by
        intro i k hi h hf
        rcases hf with ⟨t, b, gb, hb, hg1, hrw, rfl⟩ | ⟨t, b, gb, hb, hg1, ho, h'⟩
        · obtain ⟨_, b', q1, q2, q3, _⟩ := hm t b hb
          exact hA.oth _ b' gb i q1 hg1 (hr.noOb q1 hg1 (q2.trans hrw)) h
        · refine hA.dis i (js.getD t 0) k (fun e => hi (e ▸ mem_ t ?_)) h h'
          have := lt_of_getElem? hb; omega
      intro i i' k hne ha hb
      rcases ha with ⟨ni, ha⟩ | ⟨rfl, ha⟩ <;> rcases hb with ⟨ni', hb⟩ | ⟨rfl, hb⟩
      · exact hA.dis i i' k hne ha hb
      · exact key i k ni ha hb
      · exact key i' k ni' hb ha
      · exact hne rfl
    · intro i b gb i' hi hgi ho h
      rcases src i b hi with ⟨ni, hi2⟩ | ⟨rfl, rfl⟩
      · rcases h with ⟨_, h⟩ | ⟨rfl, h⟩
        · exact hA.oth i b gb i' hi2 hgi ho h
        · rcases h with ⟨t, b1, gb1, hb, hg1, hrw, e⟩ | ⟨t, b1, gb1, hb, hg1, ho1, h⟩
          · obtain ⟨_, b', q1, q2, q3, _⟩ := hm t b1 hb
            refine hr.inj _ i b' b gb1 gb (fun e' => ni (e' ▸ mem_ t ?_)) q1 hi2 (q2.trans hrw) hg1 hgi e
            have := lt_of_getElem? hb; omega
          · exact hA.oth i b gb _ hi2 hgi ho h
      · cases ho
  · intro i b gb hi hgi h6 h7
    rcases src i b hi with ⟨ni, hi2⟩ | ⟨rfl, rfl⟩
    · exact hr.ro i b gb hi2 hgi h6 h7
    · cases h7
end Go.AE
end
section
namespace Go.AE
variable {P : Program}
/-! Objects handed to functions. -/
theorem F2.mem {α β : Type} {R : α → β → Prop} {l : List α} {l' : List β} (h : F2 R l l') {x : α} (hx : x ∈ l) : ∃ y, R x y := by
  induction h with
  | nil => cases hx
  | cons hr _ ih =>
    rcases List.mem_cons.1 hx with rfl | hx
    · exact ⟨_, hr⟩
    · exact ih hx
theorem VR.root {g : List (Option GB)} {j : Nat} {w : Value} (h : VR g (.pointer (some ⟨j, 0, none⟩)) w) : ∃ gb, g[j]? = some (some gb) := by
  cases h with
  | a h => cases h with
    | s h => cases h with
      | ptr _ _ gb h => exact ⟨gb, h⟩
/-- The state (a, m) may be seen as (a', m'), in this program. -/
def SeesP (P : Program) (n₀ : Nat) (a : List Value) (m : Mem) (a' : List Value) (m' : Mem) : Prop :=
  ∀ c g₀ g A W, g₀.length = n₀ → Rel P c (g₀ ++ g) m W → ARel (g₀ ++ g) a A → ∃ g', Rel P c (g₀ ++ g') m' W ∧ ARel (g₀ ++ g') a' A
theorem Sees.toP {n₀ : Nat} {a a' : List Value} {m m' : Mem} (h : Sees n₀ a m a' m') : SeesP P n₀ a m a' m' := fun c g₀ g A W => h P c g₀ g A W
theorem SeesP.trans {n₀ : Nat} {a a' a'' : List Value} {m m' m'' : Mem} (h : SeesP P n₀ a m a' m') (h' : SeesP P n₀ a' m' a'' m'') : SeesP P n₀ a m a'' m'' := fun c g₀ g A W hl hr ha => by
  obtain ⟨g', h1, h2⟩ := h c g₀ g A W hl hr ha
  exact h' c g₀ g' A W hl h1 h2
theorem AWp.seesP {n₀ : Nat} {x : Code} {K : Exit → List Value → Mem → Prop} {a a' : List Value} {m m' : Mem} (hs : SeesP P n₀ a m a' m') (h : AWp P n₀ x K a' m') : AWp P n₀ x K a m := fun c g₀ g A W hl hr ha => by
  obtain ⟨g', h1, h2⟩ := hs c g₀ g A W hl hr ha
  exact h c g₀ g' A W hl h1 h2
theorem ACall.seesP {f : FuncId} {as : List Value} {m : Mem} {K K' : Value → Mem → Prop} (h : ACall P f as m K') (hs : ∀ v m', K' v m' → ∃ v2 m2, SeesP P m.length [v] m' [v2] m2 ∧ K v2 m2) : ACall P f as m K := by
  intro c g W args' hr ha
  refine (h c g W args' hr ha).mono ?_
  rintro e W' ⟨v, v', m', g', rfl, hK, hr', hv⟩
  obtain ⟨v2, m2, hsee, hK2⟩ := hs v m' hK
  obtain ⟨g2, hr2, ha2⟩ := hsee c g g' { tmps := #[v'], defers := [] } W' hr.len hr' ⟨.cons hv .nil, rfl⟩
  have := ha2.tmps
  cases this with
  | cons h1 _ => exact ⟨v2, v', m2, g2, rfl, hK2, hr2, h1⟩
/-- An object that a function is handed, laid open. -/
theorem ACall.open {f : FuncId} {as : List Value} {m : Mem} {K : Value → Mem → Prop} {j : Nat} {vis : List Value} {el : TypeId} {ex : Bool} {tm : Mem} {inv : Prop} (hj : m[j]? = some (some (obBlk vis el ex (obT P tm inv)))) (ha : .pointer (some ⟨j, 0, none⟩) ∈ as)
    (h : inv → ACall P f as (openM j tm m) fun v m' => ∃ v2 m2, SeesP P m.length [v] m' [v2] m2 ∧ K v2 m2) : ACall P f as m K := by
  intro c g W args' hr hargs
  obtain ⟨w, hw⟩ := hargs.mem ha
  obtain ⟨gb, hg⟩ := hw.root
  obtain ⟨hinv, gt, hr2⟩ := hr.open hj hg
  refine (h hinv c (g ++ gt) W args' hr2 (hargs.imp fun _ _ h => h.app)).mono ?_
  rintro e W' ⟨v, v', m', g', rfl, ⟨v2, m2, hs, hK⟩, hr', hv⟩
  rw [List.append_assoc] at hr' hv
  obtain ⟨g2, hr3, ha3⟩ := hs c g (gt ++ g') { tmps := #[v'], defers := [] } W' hr.len hr' ⟨.cons hv .nil, rfl⟩
  have := ha3.tmps
  cases this with
  | cons h1 _ => exact ⟨v2, v', m2, g2, rfl, hK, hr3, h1⟩
/-- The same inside code: a temporary that points to the object. -/
theorem AWp.open {n₀ : Nat} {x : Code} {K : Exit → List Value → Mem → Prop} {a : List Value} {m : Mem} {j : Nat} {vis : List Value} {el : TypeId} {ex : Bool} {tm : Mem} {inv : Prop} (hj : m[j]? = some (some (obBlk vis el ex (obT P tm inv)))) (ha : .pointer (some ⟨j, 0, none⟩) ∈ a)
    (h : inv → AWp P n₀ x K a (openM j tm m)) : AWp P n₀ x K a m := by
  intro c g₀ g A W hl hr har
  obtain ⟨w, hw⟩ := har.tmps.mem ha
  obtain ⟨gb, hg⟩ := hw.root
  obtain ⟨hinv, gt, hr2⟩ := hr.open hj hg
  rw [List.append_assoc] at hr2
  have := har.app (g' := gt)
  rw [List.append_assoc] at this
  exact h hinv c g₀ (g ++ gt) A W hl hr2 this
theorem Sees.close {n₀ : Nat} {a : List Value} {m : Mem} {js : List Nat} {vis : List Value} {el : TypeId} {ex : Bool} {tm : Mem} {inv : Prop} (hinv : inv) (hl : js.length = tm.length) (h0 : 0 < js.length) (hnd : js.Nodup)
    (hm : ∀ (t : Nat) (b : ABlk), tm[t]? = some (some b) → b.cells.all (lowS tm.length) = true ∧ ∃ b', m[js.getD t 0]? = some (some b') ∧ b'.rw = b.rw ∧ b'.ob = b.ob ∧ b'.cells = b.cells.map (renS fun i => js.getD i 0) ∧ b'.elem = b.elem ∧ (b.ex = true → b'.ex = true))
    (hin : ∀ j ∈ js, j < m.length) {b0 : ABlk} (hr0 : tm[0]? = some (some b0)) (hex : ex = true → b0.ex = true) (hrw0 : b0.rw = true ∨ b0.ob ≠ none) (hvis : F2 Less (b0.cells.map (renS fun i => js.getD i 0)) vis) : SeesP P n₀ a m a (closeM js vis el ex (obT P tm inv) m) := by
  intro c g₀ g A W _ hr ha
  exact ⟨g, hr.close hinv hl h0 hnd hm hin hr0 hex hrw0 hvis, ha⟩
end Go.AE
end
section
namespace Go.AE
variable {P : Program}
/-! A contract over a memory of the function's own, where it may write, holds in any memory. -/
def putL : List (Nat × Option ABlk) → Mem → Mem
  | [], m => m
  | (j, b) :: l, m => putL l (m.set j b)
theorem putL_len : ∀ (l : List (Nat × Option ABlk)) (m : Mem), (putL l m).length = m.length
  | [], _ => rfl
  | (j, b) :: l, m => by simp [putL, putL_len l]
theorem putL_get : ∀ (l : List (Nat × Option ABlk)) (m : Mem) (i : Nat) (b : ABlk), (putL l m)[i]? = some (some b) → (i, some b) ∈ l ∨ (m[i]? = some (some b) ∧ ∀ p ∈ l, p.1 ≠ i)
  | [], _, _, _, h => .inr ⟨h, by simp⟩
  | (j, x) :: l, m, i, b, h => by
    rcases putL_get l _ i b h with h1 | ⟨h1, h2⟩
    · exact .inl (List.mem_cons_of_mem _ h1)
    · rw [List.getElem?_set] at h1
      by_cases e : j = i
      · subst e
        rw [if_pos rfl] at h1
        split at h1
        · simp only [Option.some.injEq] at h1
          subst h1
          exact .inl List.mem_cons_self
        · cases h1
      · rw [if_neg e] at h1
        refine .inr ⟨h1, fun p hp => ?_⟩
        rcases List.mem_cons.1 hp with rfl | hp
        · exact e
        · exact h2 p hp
/-- May the block be changed? -/
def ownB (b : ABlk) : Bool := b.rw || b.ob.isSome
def ownAt (m0 : Mem) (i : Nat) : Bool := match m0.getD i none with
  | some b => ownB b
  | none => false
theorem ownAt_iff {m0 : Mem} {i : Nat} : ownAt m0 i = true ↔ ∃ b, m0[i]? = some (some b) ∧ ownB b = true := by
  unfold ownAt
  rw [List.getD_eq_getElem?_getD]
  cases h : m0[i]? with
  | none => simp
  | some x => cases x <;> simp
/-- The caller's memory behind the call: what may be changed is as the callee left it. -/
def backM (js : List Nat) (ρ : Nat → Nat) (m0 m0' m : Mem) : Mem :=
  putL ((List.range js.length).filterMap fun i => bif ownAt m0 i then some (js.getD i 0, (m0'.getD i none).map (renBlk ρ)) else none) m
/-- The local memory 'm0' shows the caller's blocks 'js': some to be changed, some to be read. -/
structure ShowsW (m : Mem) (js : List Nat) (m0 : Mem) : Prop where
  len : m0.length = js.length
  nodup : js.Nodup
  inM : ∀ j ∈ js, j < m.length
  blk : ∀ (i : Nat) (b : ABlk), m0[i]? = some (some b) → b.cells.all (lowS js.length) = true ∧ ∃ b', m[js.getD i 0]? = some (some b') ∧ b'.rw = b.rw ∧ b'.ob = b.ob ∧ b'.cells = b.cells.map (renS fun i => js.getD i 0) ∧ (b.rw = true → b'.elem = b.elem) ∧ (b.ex = true → b'.ex = true)
theorem ACall.frameW {f : FuncId} {as : List Value} {m0 : Mem} {K : Value → Mem → Mem → Prop} (h : ACall P f as m0 fun v m1 => ∃ m0' nb : Mem, m1 = m0' ++ nb ∧ m0'.length = m0.length ∧ K v m0' nb) (m : Mem) (js : List Nat) (hs : ShowsW m js m0)
    (has : as.all (low js.length) = true) :
    ACall P f (as.map (ren (place js m.length))) m fun v m' => ∃ (v0 : Value) (m0' nb : Mem), K v0 m0' nb ∧ v = ren (place js m.length) v0 ∧ m' = backM js (place js m.length) m0 m0' m ++ nb.map fun b => b.map (renBlk (place js m.length)) := by
  intro c g W args' hr hargs
  obtain ⟨fp, rp, hA⟩ := hr.objs
  have hgl := hr.len
  have hjs := hs.inM
  have at_ : ∀ t, t < js.length → js[t]? = some (js.getD t 0) := fun t ht => by rw [List.getD_eq_getElem?_getD, List.getElem?_eq_getElem ht]; rfl
  have mem_ : ∀ t, t < js.length → js.getD t 0 ∈ js := fun t ht => List.mem_of_getElem? (at_ t ht)
  have inj_ : ∀ t t', t < js.length → t' < js.length → js.getD t 0 = js.getD t' 0 → t = t' := by
    intro t t' ht ht' e
    have h1 := at_ t ht
    have h2 := at_ t' ht'
    rw [List.getElem?_eq_getElem ht] at h1
    rw [List.getElem?_eq_getElem ht'] at h2
    have h1 := Option.some.inj h1
    have h2 := Option.some.inj h2
    have hp := List.pairwise_iff_getElem.1 hs.nodup
    rcases Nat.lt_trichotomy t t' with h | h | h
    · exact (hp t t' ht ht' h (h1.trans (e.trans h2.symm))).elim
    · exact h
    · exact (hp t' t ht' ht h (h1.trans (e.trans h2.symm)).symm).elim
  have hg0 : ∀ (i : Nat) (gb : GB), i < js.length → g[place js m.length i]? = some (some gb) → (js.map fun j => g.getD j none)[i]? = some (some gb) := by
    intro i gb hi hgb
    simp only [place, if_pos hi] at hgb
    rw [List.getElem?_map, at_ i hi, Option.map_some, List.getD_eq_getElem?_getD, hgb]; rfl
  have hget : ∀ (i : Nat) (gb : GB), (js.map fun j => g.getD j none)[i]? = some (some gb) → i < js.length ∧ g[js.getD i 0]? = some (some gb) := by
    intro i gb hi
    rw [List.getElem?_map, Option.map_eq_some_iff] at hi
    obtain ⟨j, hj, hgj⟩ := hi
    have htl := lt_of_getElem? hj
    rw [at_ i htl] at hj
    obtain rfl := Option.some.inj hj
    refine ⟨htl, ?_⟩
    have := hjs _ (mem_ i htl)
    rw [List.getD_eq_getElem?_getD, List.getElem?_eq_getElem (by omega)] at hgj
    rw [List.getElem?_eq_getElem (by omega), ← hgj]; rfl
  have hlt : ∀ (j : Nat) (b : ABlk) (gb : GB), m[j]? = some (some b) → g[j]? = some (some gb) → gb.b < W.heap.size := by
    intro j b gb hj hg
    obtain ⟨cs, fr, hh, _⟩ := hr.blk j b gb hj hg
    rcases Nat.lt_or_ge gb.b W.heap.size with h' | h'
    · exact h'
    · rw [Array.getElem?_eq_none h'] at hh; cases hh
  -- what the callee may write, and what it may read alone
  let F0 : Nat → Prop := fun k => ∃ t b gb, m0[t]? = some (some b) ∧ g[js.getD t 0]? = some (some gb) ∧ ((b.rw = true ∧ gb.b = k) ∨ (b.ob ≠ none ∧ fp (js.getD t 0) k))
  let R0 : Nat → Prop := fun k => ∃ t b gb, m0[t]? = some (some b) ∧ g[js.getD t 0]? = some (some gb) ∧ ((b.rw = false ∧ b.ob = none ∧ gb.b = k) ∨ (b.ob ≠ none ∧ rp (js.getD t 0) k))
  have hF : ∀ k, F0 k → c.W.heap.size ≤ k ∨ c.F k := by
    rintro k ⟨t, b, gb, hb, hg, h⟩
    obtain ⟨_, b', hb', hrw, hob, _⟩ := hs.blk t b hb
    rcases h with ⟨h1, rfl⟩ | ⟨h1, h2⟩
    · obtain ⟨_, _, _, _, _, hx, _⟩ := hr.blk _ b' gb hb' hg
      exact (hx (hrw.trans h1)).2.1
    · exact (hA.own _ _ h2).2
  have hFl : ∀ k, F0 k → k < W.heap.size := by
    rintro k ⟨t, b, gb, hb, hg, h⟩
    obtain ⟨_, b', hb', _⟩ := hs.blk t b hb
    rcases h with ⟨h1, rfl⟩ | ⟨h1, h2⟩
    · exact hlt _ b' gb hb' hg
    · exact (hA.own _ _ h2).1
  have hRc : ∀ k, R0 k → c.R k := by
    rintro k ⟨t, b, gb, hb, hg, h⟩
    obtain ⟨_, b', hb', hrw, hob, _⟩ := hs.blk t b hb
    rcases h with ⟨h1, h2, rfl⟩ | ⟨h1, h2⟩
    · exact hr.ro _ b' gb hb' hg (hrw.trans h1) (hob.trans h2)
    · exact hA.ro _ _ h2
  have hRF : ∀ k, c.R k → ¬ F0 k := by
    intro k h1 h2
    have h3 := c.rr k h1
    rcases hF k h2 with h | h
    · omega
    · exact h3.2 h
  let c0 : Ctx := ⟨W, F0, R0, hr.goodF hF, fun k hk => ⟨by have := (c.rr k (hRc k hk)).1; have := hr.size; omega, hRF k (hRc k hk)⟩⟩
  -- blocks that the callee may not change
  have apart : ∀ (i : Nat) (b : ABlk) (gi : GB), m[i]? = some (some b) → g[i]? = some (some gi) → (∀ t, ownAt m0 t = true → js.getD t 0 ≠ i) → ¬ F0 gi.b := by
    rintro i b gi hi hgi hno ⟨t, bt, gt, hb, hg, h⟩
    obtain ⟨_, b', hb', hrw, hob, _⟩ := hs.blk t bt hb
    rcases h with ⟨h1, h2⟩ | ⟨h1, h2⟩
    · exact hr.inj _ i b' b gt gi (hno t (ownAt_iff.2 ⟨bt, hb, by simp [ownB, h1]⟩)) hb' hi (hrw.trans h1) hg hgi h2
    · have hn := hno t (ownAt_iff.2 ⟨bt, hb, by
        unfold ownB
        cases ho : bt.ob with
        | none => exact (h1 ho).elim
        | some o => simp⟩)
      cases ho : b.ob with
      | none => exact hA.oth i b gi _ hi hgi ho h2
      | some o => exact hA.dis _ i _ hn h2 (o.root (hA.rep i b gi o hi hgi ho).1)
  have apartF : ∀ (i k : Nat), (∀ t, ownAt m0 t = true → js.getD t 0 ≠ i) → fp i k → ¬ F0 k := by
    rintro i k hno hk ⟨t, bt, gt, hb, hg, h⟩
    obtain ⟨_, b', hb', hrw, hob, _⟩ := hs.blk t bt hb
    rcases h with ⟨h1, h2⟩ | ⟨h1, h2⟩
    · exact hA.oth _ b' gt i hb' hg (hr.noOb hb' hg (hrw.trans h1)) (h2 ▸ hk)
    · have hn := hno t (ownAt_iff.2 ⟨bt, hb, by
        unfold ownB
        cases ho : bt.ob with
        | none => exact (h1 ho).elim
        | some o => simp⟩)
      exact hA.dis _ _ k hn h2 hk
  have hr0 : Rel P c0 (js.map fun j => g.getD j none) m0 W := by
    refine ⟨by rw [List.length_map, hs.len], ?_, ?_, fun _ _ _ => rfl, Nat.le_refl _, rfl, rfl, rfl, ?_, ?_⟩
    · intro i b gb hb hgb
      obtain ⟨htl, hgj⟩ := hget i gb hgb
      obtain ⟨hlow, b', hmj, hrw', hob', hcells, helem, hex⟩ := hs.blk i b hb
      obtain ⟨cs, fr, hh, hf, hsz, hrw, hx⟩ := hr.blk _ b' gb hmj hgj
      rw [hcells, List.length_map] at hf hsz
      refine ⟨cs, fr, hh, F2.back (p := lowS js.length) (fun v w hp hr => SR.back (n := js.length) (ρ := fun i => js.getD i 0) ⟨fun i gb hi h => hg0 i gb hi (by simp only [place, if_pos hi]; exact h), by simp⟩ hp hr) hlow hf, hsz, fun h => ?_, fun h => hx (hex h)⟩
      obtain ⟨q1, q2, q3, q4⟩ := hrw (hrw'.trans h)
      rw [hcells, List.length_map, helem h] at q4
      rw [helem h] at q1
      exact ⟨q1, .inr ⟨i, b, gb, hb, hgj, .inl ⟨h, rfl⟩⟩, q3, q4⟩
    · intro i j bi bj gi gj hne hbi hbj hrw hgi hgj
      obtain ⟨htl, hgi'⟩ := hget i gi hgi
      obtain ⟨htl', hgj'⟩ := hget j gj hgj
      obtain ⟨_, bi', h1, h2, _⟩ := hs.blk i bi hbi
      obtain ⟨_, bj', h3, _⟩ := hs.blk j bj hbj
      exact hr.inj _ _ bi' bj' gi gj (fun e => hne (inj_ i j htl htl' e)) h1 h3 (h2.trans hrw) hgi' hgj'
    · refine ⟨fun t k => (∃ b gb, m0[t]? = some (some b) ∧ g[js.getD t 0]? = some (some gb) ∧ b.ob ≠ none) ∧ t < js.length ∧ fp (js.getD t 0) k, fun t k => (∃ b gb, m0[t]? = some (some b) ∧ g[js.getD t 0]? = some (some gb) ∧ b.ob ≠ none) ∧ t < js.length ∧ rp (js.getD t 0) k, ?_, ?_, ?_, ?_, ?_, c0.rr⟩
      · intro t b gt o hb hg1 ho
        obtain ⟨htl, hgj⟩ := hget t gt hg1
        obtain ⟨_, b', h1, h2, h3, _⟩ := hs.blk t b hb
        have hx : ∃ b gb, m0[t]? = some (some b) ∧ g[js.getD t 0]? = some (some gb) ∧ b.ob ≠ none := ⟨b, gt, hb, hgj, by rw [ho]; simp⟩
        have hrep := hA.rep _ b' gt o h1 hgj (h3.trans ho)
        have f1 : (fun k => (∃ b gb, m0[t]? = some (some b) ∧ g[js.getD t 0]? = some (some gb) ∧ b.ob ≠ none) ∧ t < js.length ∧ fp (js.getD t 0) k) = fp (js.getD t 0) := funext fun k => propext ⟨fun h => h.2.2, fun h => ⟨hx, htl, h⟩⟩
        have f2 : (fun k => (∃ b gb, m0[t]? = some (some b) ∧ g[js.getD t 0]? = some (some gb) ∧ b.ob ≠ none) ∧ t < js.length ∧ rp (js.getD t 0) k) = rp (js.getD t 0) := funext fun k => propext ⟨fun h => h.2.2, fun h => ⟨hx, htl, h⟩⟩
        show o.rep gt W (fun k => (∃ b gb, m0[t]? = some (some b) ∧ g[js.getD t 0]? = some (some gb) ∧ b.ob ≠ none) ∧ t < js.length ∧ fp (js.getD t 0) k) (fun k => (∃ b gb, m0[t]? = some (some b) ∧ g[js.getD t 0]? = some (some gb) ∧ b.ob ≠ none) ∧ t < js.length ∧ rp (js.getD t 0) k) ∧ _
        rw [f1, f2]
        exact ⟨hrep.1, h2 ▸ hrep.2⟩
      · rintro t k ⟨⟨b, gb, hb, hg1, ho⟩, htl, h⟩
        exact ⟨(hA.own _ _ h).1, .inr ⟨t, b, gb, hb, hg1, .inr ⟨ho, h⟩⟩⟩
      · rintro t k ⟨⟨b, gb, hb, hg1, ho⟩, htl, h⟩
        exact ⟨t, b, gb, hb, hg1, .inr ⟨ho, h⟩⟩
      · rintro t t' k hne ⟨_, htl, ha⟩ ⟨_, htl', hb⟩
        exact hA.dis _ _ k (fun e => hne (inj_ t t' htl htl' e)) ha hb
      · rintro t b gt t' hb hg1 ho ⟨_, _, h⟩
        obtain ⟨htl, hgj⟩ := hget t gt hg1
        obtain ⟨_, b', h1, h2, h3, _⟩ := hs.blk t b hb
        exact hA.oth _ b' gt _ h1 hgj (h3.trans ho) h
    · intro t b gb hb hg1 h1 h2
      obtain ⟨htl, hgj⟩ := hget t gb hg1
      exact ⟨t, b, gb, hb, hgj, .inl ⟨h1, h2, rfl⟩⟩
  have hargs0 : F2 (VR (js.map fun j => g.getD j none)) as args' := F2.back (p := low js.length) (fun v w hp hv => VR.back (n := js.length) ⟨hg0, by simp⟩ hp hv) has hargs
  refine (h c0 _ W args' hr0 hargs0).mono ?_
  rintro e W' ⟨v0, v', m1, g', rfl, ⟨m0', nb, rfl, hm0l, hK⟩, hr1, hv⟩
  obtain ⟨fp1, rp1, hA1⟩ := hr1.objs
  have hlen1 := hr1.len
  simp only [List.length_append, List.length_map] at hlen1
  have hg'l : g'.length = nb.length := by have := hs.len; omega
  have hold : ∀ k, k < W.heap.size → ¬ F0 k → W'.heap[k]? = W.heap[k]? := fun k hk hn => hr1.frame k hk hn
  have hρ : ∀ (i : Nat) (gb : GB), ((js.map fun j => g.getD j none) ++ g')[i]? = some (some gb) → (g ++ g')[place js m.length i]? = some (some gb) := by
    intro i gb hi
    by_cases hl : i < js.length
    · rw [List.getElem?_append_left (by simpa using hl)] at hi
      obtain ⟨_, hgj⟩ := hget i gb hi
      simp only [place, if_pos hl]
      exact getElem?_app hgj
    · rw [List.getElem?_append_right (by simpa using Nat.le_of_not_lt hl)] at hi
      simp only [List.length_map] at hi
      simp only [place, if_neg hl]
      rw [List.getElem?_append_right (by omega), hgl, show m.length + (i - js.length) - m.length = i - js.length from by omega]
      exact hi
  have hρl : ∀ i, i < ((js.map fun j => g.getD j none) ++ g').length → place js m.length i < (g ++ g').length := by
    intro i hi
    simp only [List.length_append, List.length_map] at hi ⊢
    by_cases hl : i < js.length
    · simp only [place, if_pos hl]
      have := hjs _ (mem_ i hl)
      omega
    · simp only [place, if_neg hl]
      omega
  have pinj : ∀ t t', place js m.length t = place js m.length t' → t = t' := by
    intro t t' h
    simp only [place] at h
    split at h <;> split at h
    · exact inj_ t t' ‹_› ‹_› h
    · rename_i h1 h2; have := hjs _ (mem_ t h1); omega
    · rename_i h1 h2; have := hjs _ (mem_ t' h2); omega
    · omega
  have split : ∀ (i : Nat) (b : ABlk) (gi : GB), (backM js (place js m.length) m0 m0' m ++ nb.map fun b => b.map (renBlk (place js m.length)))[i]? = some (some b) → (g ++ g')[i]? = some (some gi) →
      (m[i]? = some (some b) ∧ g[i]? = some (some gi) ∧ i < m.length ∧ ∀ t, ownAt m0 t = true → js.getD t 0 ≠ i) ∨
      ∃ t b1, place js m.length t = i ∧ (m0' ++ nb)[t]? = some (some b1) ∧ b = renBlk (place js m.length) b1 ∧ ((js.map fun j => g.getD j none) ++ g')[t]? = some (some gi) ∧ (t < js.length → ownAt m0 t = true) := by
    intro i b gi hi hgi
    have hbl : (backM js (place js m.length) m0 m0' m).length = m.length := putL_len _ _
    rcases Nat.lt_or_ge i m.length with hl | hl
    · rw [List.getElem?_append_left (by rw [hbl]; exact hl)] at hi
      rw [List.getElem?_append_left (by omega)] at hgi
      rcases putL_get _ _ i b hi with h1 | ⟨h1, h2⟩
      · obtain ⟨t, ht, he⟩ := List.mem_filterMap.1 h1
        have ht := List.mem_range.1 ht
        cases ho : ownAt m0 t with
        | false => rw [ho] at he; cases he
        | true =>
          rw [ho] at he
          simp only [cond_true, Option.some.injEq, Prod.mk.injEq, Option.map_eq_some_iff] at he
          obtain ⟨rfl, b1, hb1, rfl⟩ := he
          refine .inr ⟨t, b1, by simp only [place, if_pos ht], ?_, rfl, ?_, fun _ => ho⟩
          · rw [List.getElem?_append_left (by rw [hm0l, hs.len]; exact ht)]
            rw [List.getD_eq_getElem?_getD, List.getElem?_eq_getElem (by rw [hm0l, hs.len]; exact ht)] at hb1
            rw [List.getElem?_eq_getElem (by rw [hm0l, hs.len]; exact ht)]
            exact congrArg some hb1
          · rw [List.getElem?_append_left (by simpa using ht)]
            exact hg0 t gi ht (by simp only [place, if_pos ht]; exact hgi)
      · refine .inl ⟨h1, hgi, hl, fun t ht e => ?_⟩
        have htl : t < js.length := by
          obtain ⟨b, hb, _⟩ := ownAt_iff.1 ht
          have := lt_of_getElem? hb
          rw [hs.len] at this; exact this
        exact h2 (js.getD t 0, (m0'.getD t none).map (renBlk (place js m.length))) (List.mem_filterMap.2 ⟨t, List.mem_range.2 htl, by rw [ht]; rfl⟩) e
    · rw [List.getElem?_append_right (by rw [hbl]; exact hl), hbl, List.getElem?_map, Option.map_eq_some_iff] at hi
      obtain ⟨x, hx, hb⟩ := hi
      simp only [Option.map_eq_some_iff] at hb
      obtain ⟨b1, rfl, rfl⟩ := hb
      rw [List.getElem?_append_right (by omega), hgl] at hgi
      refine .inr ⟨js.length + (i - m.length), b1, by simp only [place, if_neg (show ¬ js.length + (i - m.length) < js.length by omega)]; omega, ?_, rfl, ?_, fun h => by omega⟩
      · rw [List.getElem?_append_right (by rw [hm0l, hs.len]; omega), hm0l, hs.len, show js.length + (i - m.length) - js.length = i - m.length from by omega]
        exact hx
      · rw [List.getElem?_append_right (by simp), List.length_map, show js.length + (i - m.length) - js.length = i - m.length from by omega]
        exact hgi
  -- where the callee's blocks lie
  have mine : ∀ (t : Nat) (b1 : ABlk) (gi : GB), (m0' ++ nb)[t]? = some (some b1) → ((js.map fun j => g.getD j none) ++ g')[t]? = some (some gi) → (W.heap.size ≤ gi.b ∨ F0 gi.b) ∨ (b1.rw = false ∧ b1.ob = none ∧ R0 gi.b) := by
    intro t b1 gi hb hgi
    cases hrw : b1.rw with
    | true =>
      obtain ⟨_, _, _, _, _, hx, _⟩ := hr1.blk t b1 gi hb hgi
      exact .inl (hx hrw).2.1
    | false => cases ho : b1.ob with
      | none => exact .inr ⟨rfl, rfl, hr1.ro t b1 gi hb hgi hrw ho⟩
      | some o => exact .inl (hA1.own t _ (o.root (hA1.rep t b1 gi o hb hgi ho).1)).2
  have ncl : ∀ k, W.heap.size ≤ k ∨ F0 k → c.W.heap.size ≤ k ∨ c.F k := fun k h => h.elim (fun h => .inl (Nat.le_trans hr.size h)) (hF k)
  refine ⟨ren (place js m.length) v0, v', _, g', rfl, ⟨v0, m0', nb, hK, rfl, rfl⟩, ?_, hv.ren ⟨hρ, hρl⟩⟩
  refine ⟨by simp only [List.length_append, List.length_map, backM, putL_len]; omega, ?_, ?_, ?_, Nat.le_trans hr.size hr1.size, hr1.os.trans hr.os, hr1.tape.trans hr.tape, hr1.output.trans hr.output, ?_, ?_⟩
  · intro i b gi hi hgi
    rcases split i b gi hi hgi with ⟨hi, hgi, hl, hno⟩ | ⟨t, b1, rfl, hb1, rfl, hgt, hto⟩
    · obtain ⟨cs, fr, hh, hf, rest⟩ := hr.blk i b gi hi hgi
      exact ⟨cs, fr, by rw [hold _ (hlt i b gi hi hgi) (apart i b gi hi hgi hno)]; exact hh, hf.imp fun _ _ h => h.app, rest⟩
    · obtain ⟨cs, fr, hh, hf, hsz, hown, hex⟩ := hr1.blk t b1 gi hb1 hgt
      refine ⟨cs, fr, hh, ?_, by simpa [renBlk] using hsz, fun h => ?_, hex⟩
      · simp only [renBlk, List.length_map]
        have := hf.map (S := SR (g ++ g')) (f := renS (place js m.length)) (f' := id) fun _ _ h' => h'.ren ⟨hρ, hρl⟩
        simpa using this
      · obtain ⟨h1, h2, h3, h4⟩ := hown h
        exact ⟨h1, ncl _ h2, h3, by simpa [renBlk] using h4⟩
  · intro p q bp bq gp gq hne hp hq hrw hgp hgq
    rcases split p bp gp hp hgp with ⟨hp2, hgp2, hlp, hnp⟩ | ⟨t, b1, rfl, hb1, rfl, hgt, hto⟩ <;> rcases split q bq gq hq hgq with ⟨hq2, hgq2, hlq, hnq⟩ | ⟨t', b2, rfl, hb2, rfl, hgt', hto'⟩
    · exact hr.inj p q bp bq gp gq hne hp2 hq2 hrw hgp2 hgq2
    · intro e
      rcases mine t' b2 gq hb2 hgt' with (h | h) | ⟨_, _, h⟩
      · have := hlt p bp gp hp2 hgp2; omega
      · exact apart p bp gp hp2 hgp2 hnp (e ▸ h)
      · have h3 := c.rr _ (hRc _ h)
        obtain ⟨_, _, _, _, _, hx, _⟩ := hr.blk p bp gp hp2 hgp2
        have h4 := (hx hrw).2.1
        rw [e] at h4
        rcases h4 with h4 | h4
        · omega
        · exact h3.2 h4
    · intro e
      obtain ⟨_, _, _, _, _, hx, _⟩ := hr1.blk t b1 gp hb1 hgt
      have h4 : W.heap.size ≤ gp.b ∨ F0 gp.b := (hx hrw).2.1
      rw [e] at h4
      rcases h4 with h4 | h4
      · have := hlt q bq gq hq2 hgq2; omega
      · exact apart q bq gq hq2 hgq2 hnq h4
    · exact hr1.inj t t' b1 b2 gp gq (fun e => hne (e ▸ rfl)) hb1 hb2 hrw hgt hgt'
  · intro k hk hFk
    have hk2 : k < W.heap.size := Nat.lt_of_lt_of_le hk hr.size
    rw [hold k hk2, hr.frame k hk hFk]
    intro h
    rcases hF k h with h | h
    · omega
    · exact hFk h
  · -- the objects
    have eA : ∀ (f f1 : Nat → Nat → Prop) i, i < m.length → (∀ t, ownAt m0 t = true → js.getD t 0 ≠ i) → (fun k => ((i < m.length ∧ ∀ t, ownAt m0 t = true → js.getD t 0 ≠ i) ∧ f i k) ∨ ∃ t, place js m.length t = i ∧ (t < js.length → ownAt m0 t = true) ∧ f1 t k) = f i := by
      intro f f1 i hl hno
      funext k
      refine propext ⟨fun h => ?_, fun h => .inl ⟨⟨hl, hno⟩, h⟩⟩
      rcases h with h | ⟨t, h1, h2, h3⟩
      · exact h.2
      · exfalso
        simp only [place] at h1
        split at h1
        · rename_i ht; exact hno t (h2 ht) h1
        · omega
    have eB : ∀ (f f1 : Nat → Nat → Prop) t, (t < js.length → ownAt m0 t = true) → (fun k => ((place js m.length t < m.length ∧ ∀ t', ownAt m0 t' = true → js.getD t' 0 ≠ place js m.length t) ∧ f (place js m.length t) k) ∨ ∃ t', place js m.length t' = place js m.length t ∧ (t' < js.length → ownAt m0 t' = true) ∧ f1 t' k) = f1 t := by
      intro f f1 t hto
      funext k
      refine propext ⟨fun h => ?_, fun h => .inr ⟨t, rfl, hto, h⟩⟩
      rcases h with ⟨⟨h1, h2⟩, _⟩ | ⟨t', h1, h2, h3⟩
      · exfalso
        by_cases ht : t < js.length
        · simp only [place, if_pos ht] at h2
          exact h2 t (hto ht) rfl
        · simp only [place, if_neg ht] at h1
          omega
      · rw [pinj _ _ h1] at h3; exact h3
    refine ⟨fun i k => ((i < m.length ∧ ∀ t, ownAt m0 t = true → js.getD t 0 ≠ i) ∧ fp i k) ∨ ∃ t, place js m.length t = i ∧ (t < js.length → ownAt m0 t = true) ∧ fp1 t k, fun i k => ((i < m.length ∧ ∀ t, ownAt m0 t = true → js.getD t 0 ≠ i) ∧ rp i k) ∨ ∃ t, place js m.length t = i ∧ (t < js.length → ownAt m0 t = true) ∧ rp1 t k, ?_, ?_, ?_, ?_, ?_, hA.rr⟩
    · intro i b gi o hi hgi ho
      rcases split i b gi hi hgi with ⟨hi, hgi, hl, hno⟩ | ⟨t, b1, rfl, hb1, rfl, hgt, hto⟩
      · rw [eA fp fp1 i hl hno, eA rp rp1 i hl hno]
        obtain ⟨q1, q2⟩ := hA.rep i b gi o hi hgi ho
        refine ⟨o.loc q1 fun k hk => ?_, q2⟩
        rcases hk with hk | hk
        · exact hold k (hA.own _ _ hk).1 (apartF i k hno hk)
        · have h1 := hA.ro _ _ hk
          exact hold k (by have := (c.rr k h1).1; have := hr.size; omega) (hRF k h1)
      · rw [eB fp fp1 t hto, eB rp rp1 t hto]
        exact hA1.rep t b1 gi o hb1 hgt ho
    · intro i k h
      rcases h with ⟨_, h⟩ | ⟨t, _, _, h⟩
      · have := hA.own _ _ h
        exact ⟨Nat.lt_of_lt_of_le this.1 hr1.size, this.2⟩
      · have := hA1.own _ _ h
        exact ⟨this.1, ncl k this.2⟩
    · intro i k h
      rcases h with ⟨_, h⟩ | ⟨t, _, _, h⟩
      · exact hA.ro _ _ h
      · exact hRc k (hA1.ro _ _ h)
    · have key : ∀ i k t, (∀ t, ownAt m0 t = true → js.getD t 0 ≠ i) → fp i k → ¬ fp1 t k := by
        intro i k t hno h1 h2
        have h3 := (hA1.own _ _ h2).2
        rcases h3 with h3 | h3
        · have := (hA.own _ _ h1).1
          have h3 : W.heap.size ≤ k := h3
          omega
        · exact apartF i k hno h1 h3
      intro i i' k hne ha hb
      rcases ha with ⟨⟨_, hno⟩, ha⟩ | ⟨t, rfl, _, ha⟩ <;> rcases hb with ⟨⟨_, hno'⟩, hb⟩ | ⟨t', rfl, _, hb⟩
      · exact hA.dis i i' k hne ha hb
      · exact key i k t' hno ha hb
      · exact key i' k t hno' hb ha
      · exact hA1.dis t t' k (fun e => hne (e ▸ rfl)) ha hb
    · intro i b gi i' hi hgi ho h
      rcases split i b gi hi hgi with ⟨hi2, hgi2, hl, hno⟩ | ⟨t, b1, rfl, hb1, rfl, hgt, hto⟩ <;> rcases h with ⟨⟨_, hno'⟩, h⟩ | ⟨t', rfl, _, h⟩
      · exact hA.oth i b gi i' hi2 hgi2 ho h
      · have h3 := (hA1.own _ _ h).2
        rcases h3 with h3 | h3
        · have h3 : W.heap.size ≤ gi.b := h3
          have := hlt i b gi hi2 hgi2; omega
        · exact apart i b gi hi2 hgi2 hno h3
      · rcases mine t b1 gi hb1 hgt with (q | q) | ⟨_, _, q⟩
        · have := (hA.own _ _ h).1; omega
        · exact apartF i' _ hno' h q
        · have h3 := c.rr _ (hRc _ q)
          rcases (hA.own _ _ h).2 with h4 | h4
          · omega
          · exact h3.2 h4
      · exact hA1.oth t b1 gi t' hb1 hgt ho h
  · intro i b gi hi hgi h6 h7
    rcases split i b gi hi hgi with ⟨hi2, hgi2, _, _⟩ | ⟨t, b1, rfl, hb1, rfl, hgt, _⟩
    · exact hr.ro i b gi hi2 hgi2 h6 h7
    · exact hRc _ (hr1.ro t b1 gi hb1 hgt h6 h7)
end Go.AE
end
section
namespace Go.AE
variable {P : Program}
/-- A block's cells may be seen otherwise. -/
theorem Rel.recell {c : Ctx} {g : List (Option GB)} {m : Mem} {W : World} (hr : Rel P c g m W) {j : Nat} {b : ABlk} (hj : m[j]? = some (some b)) {cells : List Value} (hl : cells.length = b.cells.length) (hc : ∀ l, F2 (SR g) b.cells l → F2 (SR g) cells l) :
    Rel P c g (m.set j (some { b with cells := cells })) W := by
  have hjl := lt_of_getElem? hj
  have src : ∀ (i : Nat) (x : ABlk), (m.set j (some { b with cells := cells }))[i]? = some (some x) → (m[i]? = some (some x)) ∨ (i = j ∧ x = { b with cells := cells }) := by
    intro i x hi
    rw [List.getElem?_set] at hi
    by_cases e : j = i
    · subst e
      rw [if_pos rfl, if_pos hjl] at hi
      simp only [Option.some.injEq] at hi
      exact .inr ⟨rfl, hi.symm⟩
    · rw [if_neg e] at hi
      exact .inl hi
  have src2 : ∀ (i : Nat) (x : ABlk), (m.set j (some { b with cells := cells }))[i]? = some (some x) → ∃ y, m[i]? = some (some y) ∧ y.rw = x.rw ∧ y.ob = x.ob ∧ y.elem = x.elem ∧ y.ex = x.ex := by
    intro i x hi
    rcases src i x hi with h | ⟨rfl, rfl⟩
    · exact ⟨x, h, rfl, rfl, rfl, rfl⟩
    · exact ⟨b, hj, rfl, rfl, rfl, rfl⟩
  refine ⟨by rw [List.length_set]; exact hr.len, ?_, ?_, hr.frame, hr.size, hr.os, hr.tape, hr.output, ?_, ?_⟩
  · intro i x gb hi hgi
    rcases src i x hi with h | ⟨rfl, rfl⟩
    · exact hr.blk i x gb h hgi
    · obtain ⟨cs, fr, hh, hf, hs, hrw, hex⟩ := hr.blk i b gb hj hgi
      refine ⟨cs, fr, hh, ?_, ?_, fun h => ?_, hex⟩
      · show F2 (SR g) cells ((cs.toList.drop gb.base).take cells.length)
        rw [hl]; exact hc _ hf
      · show gb.base + cells.length ≤ cs.size
        rw [hl]; exact hs
      · obtain ⟨q1, q2, q3, q4⟩ := hrw h
        exact ⟨q1, q2, q3, by show cells.length + _ ≤ _; rw [hl]; exact q4⟩
  · intro p q bp bq gp gq hne hp hq hrw hgp hgq
    obtain ⟨y, h1, h2, _⟩ := src2 p bp hp
    obtain ⟨z, h3, _⟩ := src2 q bq hq
    exact hr.inj p q y z gp gq hne h1 h3 (h2.trans hrw) hgp hgq
  · obtain ⟨fp, rp, hA⟩ := hr.objs
    refine ⟨fp, rp, ?_, hA.own, hA.ro, hA.dis, ?_, hA.rr⟩
    · intro i x gb o hi hgi ho
      obtain ⟨y, h1, h2, h3, _⟩ := src2 i x hi
      have := hA.rep i y gb o h1 hgi (h3.trans ho)
      exact ⟨this.1, h2 ▸ this.2⟩
    · intro i x gb i' hi hgi ho
      obtain ⟨y, h1, h2, h3, _⟩ := src2 i x hi
      exact hA.oth i y gb i' h1 hgi (h3.trans ho)
  · intro i x gb hi hgi h1 h2
    obtain ⟨y, h3, h4, h5, _⟩ := src2 i x hi
    exact hr.ro i y gb h3 hgi (h4.trans h1) (h5.trans h2)
theorem F2.setAny {α β : Type} {R : α → β → Prop} {l : List α} {l' : List β} (h : F2 R l l') (i : Nat) {x y : α} (hx : l[i]? = some x) (hxy : ∀ w, R x w → R y w) : F2 R (l.set i y) l' := by
  induction h generalizing i with
  | nil => exact .nil
  | cons hr h ih => cases i with
    | zero =>
      simp only [List.getElem?_cons_zero, Option.some.injEq] at hx
      subst hx
      exact .cons (hxy _ hr) h
    | succ i => exact .cons hr (ih i (by simpa using hx))
/-- A nil slice in a block is seen as an empty one of a block that nobody knows. -/
theorem SeesP.nilCell {n₀ : Nat} {a : List Value} {m : Mem} {j i : Nat} {b : ABlk} (hj : m[j]? = some (some b)) (hi : b.cells[i]? = some (.slice none 0 0)) (B : Option ABlk) :
    SeesP P n₀ a m a (m.set j (some { b with cells := b.cells.set i (.slice (some ⟨m.length, 0, none⟩) 0 0) }) ++ [B]) := by
  intro c g₀ g A W _ hr ha
  have h1 := hr.ghost B
  have hjl := lt_of_getElem? hj
  have hlen := hr.len
  refine ⟨g ++ [none], ?_, by rw [← List.append_assoc]; exact ha.app⟩
  rw [← List.append_assoc]
  have h2 := h1.recell (j := j) (b := b) (by rw [List.getElem?_append_left hjl]; exact hj) (cells := b.cells.set i (.slice (some ⟨m.length, 0, none⟩) 0 0)) (by simp) (fun l hf => hf.setAny i hi fun w hw => by
    cases hw with
    | slice0 => exact .nilS _ _ _ (by simp only [List.length_append] at hlen ⊢; simp; omega))
  rw [List.set_append_left _ _ hjl] at h2
  exact h2
end Go.AE
end
