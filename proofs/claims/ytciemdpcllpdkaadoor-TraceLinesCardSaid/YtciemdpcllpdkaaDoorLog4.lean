/-
  An abstract logic for the model, and a symbolic executor over it (part 4). Conditions: none.
-/
import Derived.Test.YtciemdpcllpdkaaDoorLog3
import Derived.RangeFuncFrom
import Derived.RangeFuncWrites
import Derived.RangeFuncNested
import Derived.Below
set_option linter.unusedVariables false
set_option linter.unusedSimpArgs false
set_option linter.unnecessarySimpa false
set_option linter.constructorNameAsVariable false
section
namespace Go.AE
variable {P : Program}
structure TRel (P : Program) (g : List (Option GB)) (m : Mem) (W : World) (fp rp : Nat → Prop) : Prop where
  len : g.length = m.length
  blk : ∀ (j : Nat) (b : ABlk) (gb : GB), m[j]? = some (some b) → g[j]? = some (some gb) → ∃ (cs : Array Value) (fr : TypeId × (Nat × Nat)), W.heap[gb.b]? = some (.cells cs fr.1 fr.2) ∧
    F2 (SR g) b.cells ((cs.toList.drop gb.base).take b.cells.length) ∧ gb.base + b.cells.length ≤ cs.size ∧
    (b.rw = true → fr = (b.elem, (0, 0)) ∧ fp gb.b ∧ gb.base = 0 ∧ b.cells.length + gb.extra * P.cellsOf b.elem ≤ cs.size) ∧ (b.ex = true → gb.extra = 0)
  inj : ∀ (i j : Nat) (bi bj : ABlk) (gi gj : GB), i ≠ j → m[i]? = some (some bi) → m[j]? = some (some bj) → bi.rw = true → g[i]? = some (some gi) → g[j]? = some (some gj) → gi.b ≠ gj.b
  ro : ∀ (j : Nat) (b : ABlk) (gb : GB), m[j]? = some (some b) → g[j]? = some (some gb) → b.rw = false → b.ob = none → rp gb.b
  objs : ∃ fps rps : Nat → Nat → Prop, (∀ (j : Nat) (b : ABlk) (gb : GB) (o : Ob), m[j]? = some (some b) → g[j]? = some (some gb) → b.ob = some o → o.rep gb W (fps j) (rps j) ∧ b.rw = false) ∧
    (∀ j k, fps j k → fp k) ∧ (∀ j k, rps j k → rp k) ∧ (∀ i j k, i ≠ j → fps i k → ¬ fps j k) ∧
    (∀ (i : Nat) (b : ABlk) (gb : GB) (j : Nat), m[i]? = some (some b) → g[i]? = some (some gb) → b.ob = none → b.rw = true → ¬ fps j gb.b)
theorem TRel.loc {g : List (Option GB)} {m : Mem} {W W' : World} {fp rp : Nat → Prop} (h : TRel P g m W fp rp) (hk : ∀ k, fp k ∨ rp k → W'.heap[k]? = W.heap[k]?) : TRel P g m W' fp rp := by
  obtain ⟨fps, rps, h1, h2, h3, h4, h5⟩ := h.objs
  refine ⟨h.len, ?_, h.inj, h.ro, fps, rps, ?_, h2, h3, h4, h5⟩
  · intro j b gb hj hg
    obtain ⟨cs, fr, hh, hf, hs, hrw, hex⟩ := h.blk j b gb hj hg
    refine ⟨cs, fr, ?_, hf, hs, hrw, hex⟩
    rw [hk gb.b, hh]
    cases hb : b.rw with
    | true => exact .inl (hrw hb).2.1
    | false => cases ho : b.ob with
      | none => exact .inr (h.ro j b gb hj hg hb ho)
      | some o => exact (o.root (h1 j b gb o hj hg ho).1).imp (h2 j _) (h3 j _)
  · intro j b gb o hj hg ho
    obtain ⟨q1, q2⟩ := h1 j b gb o hj hg ho
    exact ⟨o.loc q1 fun k hkk => hk k (hkk.imp (h2 j k) (h3 j k)), q2⟩
def obT (P : Program) (tm : Mem) (inv : Prop) : Ob where
  rep gb W fp rp := inv ∧ (fp gb.b ∨ rp gb.b) ∧ ∃ g, g[0]? = some (some gb) ∧ TRel P g tm W fp rp
  loc h hk := ⟨h.1, h.2.1, by obtain ⟨_, _, g, h0, ht⟩ := h; exact ⟨g, h0, ht.loc hk⟩⟩
  root h := h.2.1
def opR (j n i : Nat) : Nat := if i = 0 then j else n + (i - 1)
theorem opR_old {j n t : Nat} (h : opR j n t ≠ j) (h' : opR j n t < n) : False := by
  unfold opR at h h'
  split at h
  · exact h rfl
  · rename_i e; rw [if_neg e] at h'; omega
def openM (j : Nat) (tm m : Mem) : Mem := m.set j ((tm.getD 0 none).map (renBlk (opR j m.length))) ++ tm.tail.map fun b => b.map (renBlk (opR j m.length))
def obBlk (vis : List Value) (el : TypeId) (ex : Bool) (o : Ob) : ABlk := ⟨vis, el, false, ex, some o⟩
theorem Rel.open {c : Ctx} {g : List (Option GB)} {m : Mem} {W : World} (hr : Rel P c g m W) {j : Nat} {vis : List Value} {el : TypeId} {ex : Bool} {tm : Mem} {inv : Prop} (hj : m[j]? = some (some (obBlk vis el ex (obT P tm inv)))) {gb : GB} (hg : g[j]? = some (some gb)) :
    inv ∧ ∃ gt, Rel P c (g ++ gt) (openM j tm m) W := by
  obtain ⟨fp, rp, hA⟩ := hr.objs
  obtain ⟨⟨hinv, hroot, gt, hg0, ht⟩, _⟩ := hA.rep j _ gb _ hj hg rfl
  refine ⟨hinv, gt.tail, ?_⟩
  obtain ⟨fps, rps, h1, h2, h3, h4, h5⟩ := ht.objs
  have hjl : j < m.length := lt_of_getElem? hj
  have hlt0 : 0 < gt.length := lt_of_getElem? hg0
  have hgl := hr.len
  have htl := ht.len
  -- a block of the structure, or one that was there
  have src : ∀ (i : Nat) (b : ABlk) (gi : GB), (openM j tm m)[i]? = some (some b) → (g ++ gt.tail)[i]? = some (some gi) →
      (i ≠ j ∧ m[i]? = some (some b) ∧ g[i]? = some (some gi)) ∨ ∃ (t : Nat) (b0 : ABlk), opR j m.length t = i ∧ t < tm.length ∧ tm[t]? = some (some b0) ∧ b = renBlk (opR j m.length) b0 ∧ gt[t]? = some (some gi) := by
    intro i b gi hi hgi
    unfold openM at hi
    rcases Nat.lt_or_ge i m.length with hl | hl
    · rw [List.getElem?_append_left (by simpa using hl)] at hi
      rw [List.getElem?_append_left (by rw [hgl]; exact hl)] at hgi
      rw [List.getElem?_set] at hi
      by_cases e : j = i
      · subst e
        rw [if_pos rfl, if_pos hjl] at hi
        simp only [Option.some.injEq, Option.map_eq_some_iff] at hi
        obtain ⟨b0, hb0, rfl⟩ := hi
        refine .inr ⟨0, b0, rfl, by omega, ?_, rfl, ?_⟩
        · rw [List.getD_eq_getElem?_getD] at hb0
          rw [List.getElem?_eq_getElem (by omega : 0 < tm.length)] at hb0 ⊢
          exact congrArg some hb0
        · rw [hg0, ← hg, hgi]
      · rw [if_neg e] at hi
        exact .inl ⟨fun h => e h.symm, hi, hgi⟩
    · rw [List.getElem?_append_right (by simpa using hl), List.length_set, List.getElem?_map, Option.map_eq_some_iff] at hi
      obtain ⟨x, hx, hb⟩ := hi
      simp only [Option.map_eq_some_iff] at hb
      obtain ⟨b0, rfl, rfl⟩ := hb
      rw [List.getElem?_append_right (by rw [hgl]; exact hl), hgl] at hgi
      rw [List.getElem?_tail] at hx hgi
      exact .inr ⟨i - m.length + 1, b0, by simp only [opR]; rw [if_neg (by omega)]; omega, lt_of_getElem? hx, hx, rfl, hgi⟩
  have ren : RenOk (opR j m.length) gt (g ++ gt.tail) := by
    refine ⟨fun i gi hi => ?_, fun i hi => ?_⟩
    · simp only [opR]
      split
      · rename_i e
        subst e
        rw [hg0] at hi
        rw [List.getElem?_append_left (by omega), hg, hi]
      · rw [List.getElem?_append_right (by omega), List.getElem?_tail, hgl, show m.length + (i - 1) - m.length + 1 = i from by omega]
        exact hi
    · simp only [opR, List.length_append, List.length_tail]
      split <;> omega
  have hlt : ∀ (i : Nat) (b : ABlk) (gi : GB), m[i]? = some (some b) → g[i]? = some (some gi) → gi.b < W.heap.size := by
    intro i b gi hi hgi
    obtain ⟨cs, fr, hh, _⟩ := hr.blk i b gi hi hgi
    rcases Nat.lt_or_ge gi.b W.heap.size with h' | h'
    · exact h'
    · rw [Array.getElem?_eq_none h'] at hh; cases hh
  -- what the structure has is nobody else's
  have apart : ∀ (i : Nat) (b : ABlk) (gi : GB), i ≠ j → m[i]? = some (some b) → g[i]? = some (some gi) → ¬ fp j gi.b := by
    intro i b gi hne hi hgi
    cases ho : b.ob with
    | none => exact hA.oth i b gi j hi hgi ho
    | some o => exact fun h => (o.root (hA.rep i b gi o hi hgi ho).1).elim (fun h' => hA.dis j i _ (fun e => hne e.symm) h h') fun h' => hA.fr h h'
  have mine : ∀ (t : Nat) (b0 : ABlk) (gi : GB), tm[t]? = some (some b0) → gt[t]? = some (some gi) → fp j gi.b ∨ (b0.rw = false ∧ True ∧ rp j gi.b) := by
    intro t b0 gi hb hgi
    obtain ⟨cs, fr, hh, hf, hs, hrw, hex⟩ := ht.blk t b0 gi hb hgi
    cases hb0 : b0.rw with
    | true => exact .inl (hrw hb0).2.1
    | false => cases ho : b0.ob with
      | none => exact .inr ⟨rfl, trivial, ht.ro t b0 gi hb hgi hb0 ho⟩
      | some o => exact (o.root (h1 t b0 gi o hb hgi ho).1).elim (fun h => .inl (h2 t _ h)) fun h => .inr ⟨rfl, trivial, h3 t _ h⟩
  have inv1 : ∀ a a', opR j m.length a = opR j m.length a' → a = a' := by
    intro a a' h
    simp only [opR] at h
    split at h <;> split at h <;> omega
  refine ⟨?_, ?_, ?_, hr.frame, hr.size, hr.os, hr.tape, hr.output, ?_, ?_⟩
  · simp only [openM, List.length_append, List.length_set, List.length_map, List.length_tail]; omega
  · intro i b gi hi hgi
    rcases src i b gi hi hgi with ⟨_, hi, hgi⟩ | ⟨t, b0, rfl, _, hb0, rfl, hgt⟩
    · obtain ⟨cs, fr, hh, hf, rest⟩ := hr.blk i b gi hi hgi
      exact ⟨cs, fr, hh, hf.imp fun _ _ h => h.app, rest⟩
    · obtain ⟨cs, fr, hh, hf, hs, hrw, hex⟩ := ht.blk t b0 gi hb0 hgt
      refine ⟨cs, fr, hh, ?_, by simpa [renBlk] using hs, fun h => ?_, hex⟩
      · simp only [renBlk, List.length_map]
        have := hf.map (S := SR (g ++ gt.tail)) (f := renS (opR j m.length)) (f' := id) fun _ _ h' => h'.ren ren
        simpa using this
      · obtain ⟨q1, q2, q3, q4⟩ := hrw h
        exact ⟨q1, (hA.own _ _ q2).2, q3, by simpa [renBlk] using q4⟩
  · intro p q bp bq gp gq hne hp hq hrw hgp hgq
    rcases src p bp gp hp hgp with ⟨np, hp2, hgp2⟩ | ⟨t, b0, rfl, _, hb0, rfl, hgt⟩ <;> rcases src q bq gq hq hgq with ⟨nq, hq2, hgq2⟩ | ⟨t', b1, rfl, _, hb1, rfl, hgt'⟩
    · exact hr.inj p q bp bq gp gq hne hp2 hq2 hrw hgp2 hgq2
    · intro e
      rcases mine t' b1 gq hb1 hgt' with h | ⟨_, _, h⟩
      · exact apart p bp gp np hp2 hgp2 (e ▸ h)
      · have h6 := hA.rr _ (hA.ro _ _ h)
        obtain ⟨_, _, _, _, _, hx, _⟩ := hr.blk p bp gp hp2 hgp2
        have h7 := (hx hrw).2.1
        rw [e] at h7
        rcases h7 with h7 | h7
        · omega
        · exact h6.2 h7
    · intro e
      obtain ⟨_, _, _, _, _, hx, _⟩ := ht.blk t b0 gp hb0 hgt
      exact apart q bq gq nq hq2 hgq2 (e ▸ (hx hrw).2.1)
    · exact ht.inj t t' b0 b1 gp gq (fun e => hne (e ▸ rfl)) hb0 hb1 hrw hgt hgt'
  · -- the objects
    refine ⟨fun i k => (i ≠ j ∧ i < m.length ∧ fp i k) ∨ ∃ t, opR j m.length t = i ∧ fps t k, fun i k => (i ≠ j ∧ i < m.length ∧ rp i k) ∨ ∃ t, opR j m.length t = i ∧ rps t k, ?_, ?_, ?_, ?_, ?_, hA.rr, fun i k h => by
      rcases h with ⟨_, _, h⟩ | ⟨t, _, h⟩
      · exact hA.cel _ _ h
      · exact hA.cel _ _ (h2 t k h)⟩
    · intro i b gi o hi hgi ho
      rcases src i b gi hi hgi with ⟨ni, hi2, hgi2⟩ | ⟨t, b0, rfl, _, hb0, rfl, hgt⟩
      · have hil := lt_of_getElem? hi2
        have e1 : (fun k => (i ≠ j ∧ i < m.length ∧ fp i k) ∨ ∃ t, opR j m.length t = i ∧ fps t k) = fp i := funext fun k => propext ⟨fun h => by
          rcases h with h | ⟨t, h, _⟩
          · exact h.2.2
          · simp only [opR] at h; split at h <;> omega, fun h => .inl ⟨ni, hil, h⟩⟩
        have e2 : (fun k => (i ≠ j ∧ i < m.length ∧ rp i k) ∨ ∃ t, opR j m.length t = i ∧ rps t k) = rp i := funext fun k => propext ⟨fun h => by
          rcases h with h | ⟨t, h, _⟩
          · exact h.2.2
          · simp only [opR] at h; split at h <;> omega, fun h => .inl ⟨ni, hil, h⟩⟩
        rw [e1, e2]
        exact hA.rep i b gi o hi2 hgi2 ho
      · have e1 : (fun k => (opR j m.length t ≠ j ∧ opR j m.length t < m.length ∧ fp (opR j m.length t) k) ∨ ∃ t', opR j m.length t' = opR j m.length t ∧ fps t' k) = fps t := funext fun k => propext ⟨fun h => by
          rcases h with h | ⟨t', h, h'⟩
          · exact (opR_old h.1 h.2.1).elim
          · rw [inv1 _ _ h] at h'; exact h', fun h => .inr ⟨t, rfl, h⟩⟩
        have e2 : (fun k => (opR j m.length t ≠ j ∧ opR j m.length t < m.length ∧ rp (opR j m.length t) k) ∨ ∃ t', opR j m.length t' = opR j m.length t ∧ rps t' k) = rps t := funext fun k => propext ⟨fun h => by
          rcases h with h | ⟨t', h, h'⟩
          · exact (opR_old h.1 h.2.1).elim
          · rw [inv1 _ _ h] at h'; exact h', fun h => .inr ⟨t, rfl, h⟩⟩
        rw [e1, e2]
        exact h1 t b0 gi o hb0 hgt ho
    · intro i k h
      rcases h with ⟨_, _, h⟩ | ⟨t, _, h⟩
      · exact hA.own _ _ h
      · exact hA.own _ _ (h2 t k h)
    · intro i k h
      rcases h with ⟨_, _, h⟩ | ⟨t, _, h⟩
      · exact hA.ro _ _ h
      · exact hA.ro _ _ (h3 t k h)
    · intro i i' k hne ha hb
      rcases ha with ⟨na, _, ha⟩ | ⟨t, rfl, ha⟩ <;> rcases hb with ⟨nb, _, hb⟩ | ⟨t', rfl, hb⟩
      · exact hA.dis i i' k hne ha hb
      · exact hA.dis i j k na ha (h2 t' k hb)
      · exact hA.dis i' j k nb hb (h2 t k ha)
      · exact h4 t t' k (fun e => hne (e ▸ rfl)) ha hb
    · intro i b gi i' hi hgi ho h
      rcases src i b gi hi hgi with ⟨ni, hi2, hgi2⟩ | ⟨t, b0, rfl, _, hb0, rfl, hgt⟩ <;> rcases h with ⟨n', _, h⟩ | ⟨t', rfl, h⟩
      · exact hA.oth i b gi i' hi2 hgi2 ho h
      · exact hA.oth i b gi j hi2 hgi2 ho (h2 t' _ h)
      · rcases mine t b0 gi hb0 hgt with q | ⟨_, _, q⟩
        · exact hA.dis i' j _ n' h q
        · have q1 := hA.rr _ (hA.ro _ _ q)
          have q2 := (hA.own _ _ h).2
          rcases q2 with q2 | q2
          · omega
          · exact q1.2 q2
      · cases hrw : b0.rw with
        | true => exact h5 t b0 gi t' hb0 hgt ho hrw h
        | false =>
          have q1 := hA.rr _ (hA.ro _ _ (ht.ro t b0 gi hb0 hgt hrw ho))
          have q2 := (hA.own _ _ (h2 t' _ h)).2
          rcases q2 with q2 | q2
          · omega
          · exact q1.2 q2
  · intro i b gi hi hgi h6 h7
    rcases src i b gi hi hgi with ⟨ni, hi2, hgi2⟩ | ⟨t, b0, rfl, _, hb0, rfl, hgt⟩
    · exact hr.ro i b gi hi2 hgi2 h6 h7
    · exact hA.ro _ _ (ht.ro t b0 gi hb0 hgt h6 h7)
end Go.AE
end
section
namespace Go.AE
variable {P : Program}
def keepB (m : Mem) (j : Nat) : Bool := match m[j]? with
  | some (some b) => !b.rw && b.ob.isNone
  | _ => false
def killL : List Nat → Mem → Mem
  | [], m => m
  | j :: js, m => killL js (bif keepB m j then m else m.set j none)
theorem killL_len : ∀ (js : List Nat) (m : Mem), (killL js m).length = m.length
  | [], _ => rfl
  | j :: js, m => by
    unfold killL
    rw [killL_len js]
    cases keepB m j <;> simp
theorem killL_get : ∀ (js : List Nat) (m : Mem) (i : Nat) (b : ABlk), (killL js m)[i]? = some (some b) → m[i]? = some (some b) ∧ (i ∉ js ∨ (b.rw = false ∧ b.ob = none))
  | [], _, _, _, h => ⟨h, .inl (by simp)⟩
  | j :: js, m, i, b, h => by
    unfold killL at h
    obtain ⟨h1, h2⟩ := killL_get js _ i b h
    cases hk : keepB m j with
    | true =>
      rw [hk] at h1
      have h1 : m[i]? = some (some b) := h1
      refine ⟨h1, ?_⟩
      by_cases e : j = i
      · subst e
        unfold keepB at hk
        rw [h1] at hk
        simp only [Bool.and_eq_true, Bool.not_eq_true', Option.isNone_iff_eq_none] at hk
        exact .inr hk
      · rcases h2 with h2 | h2
        · exact .inl (by simp only [List.mem_cons, not_or]; exact ⟨fun h => e h.symm, h2⟩)
        · exact .inr h2
    | false =>
      rw [hk] at h1
      have h1 : (m.set j none)[i]? = some (some b) := h1
      rw [List.getElem?_set] at h1
      split at h1
      · split at h1 <;> simp at h1
      · rename_i e
        refine ⟨h1, ?_⟩
        rcases h2 with h2 | h2
        · exact .inl (by simp only [List.mem_cons, not_or]; exact ⟨fun h => e h.symm, h2⟩)
        · exact .inr h2
def closeM (js : List Nat) (vis : List Value) (el : TypeId) (ex : Bool) (o : Ob) (m : Mem) : Mem := (killL js m).set (js.getD 0 0) (some (obBlk vis el ex o))
theorem Rel.close {c : Ctx} {g : List (Option GB)} {m : Mem} {W : World} (hr : Rel P c g m W) {js : List Nat} {vis : List Value} {el : TypeId} {ex : Bool} {tm : Mem} {inv : Prop} (hinv : inv) (hl : js.length = tm.length) (h0 : 0 < js.length) (hnd : js.Nodup)
    (hm : ∀ (t : Nat) (b : ABlk), tm[t]? = some (some b) → b.cells.all (lowS tm.length) = true ∧ ∃ b', m[js.getD t 0]? = some (some b') ∧ b'.rw = b.rw ∧ b'.ob = b.ob ∧ b'.cells = b.cells.map (renS fun i => js.getD i 0) ∧ b'.elem = b.elem ∧ (b.ex = true → b'.ex = true))
    (hin : ∀ j ∈ js, j < m.length) {b0 : ABlk} (hr0 : tm[0]? = some (some b0)) (hex : ex = true → b0.ex = true) (hrw0 : b0.rw = true ∨ b0.ob ≠ none) (hvis : F2 Less (b0.cells.map (renS fun i => js.getD i 0)) vis) : Rel P c g (closeM js vis el ex (obT P tm inv) m) W := by
  obtain ⟨fp, rp, hA⟩ := hr.objs
  have hgl := hr.len
  have at_ : ∀ t, t < js.length → js[t]? = some (js.getD t 0) := fun t ht => by rw [List.getD_eq_getElem?_getD, List.getElem?_eq_getElem ht]; rfl
  have mem_ : ∀ t, t < js.length → js.getD t 0 ∈ js := fun t ht => List.mem_of_getElem? (at_ t ht)
  have inj_ : ∀ t t', t < js.length → t' < js.length → js.getD t 0 = js.getD t' 0 → t = t' := by
    intro t t' ht ht' e
    have h1 := at_ t ht
    have h2 := at_ t' ht'
    rw [List.getElem?_eq_getElem ht] at h1
    rw [List.getElem?_eq_getElem ht'] at h2
    have h1 := Option.some.inj h1
    have h2 := Option.some.inj h2
    have hp := List.pairwise_iff_getElem.1 hnd
    rcases Nat.lt_trichotomy t t' with h | h | h
    · exact (hp t t' ht ht' h (h1.trans (e.trans h2.symm))).elim
    · exact h
    · exact (hp t' t ht' ht h (h1.trans (e.trans h2.symm)).symm).elim
  have hjl : js.getD 0 0 < m.length := hin _ (mem_ 0 h0)
  have src : ∀ (i : Nat) (b : ABlk), (closeM js vis el ex (obT P tm inv) m)[i]? = some (some b) → ((i ∉ js ∨ (b.rw = false ∧ b.ob = none)) ∧ m[i]? = some (some b)) ∨ (i = js.getD 0 0 ∧ b = obBlk vis el ex (obT P tm inv)) := by
    intro i b hi
    unfold closeM at hi
    rw [List.getElem?_set] at hi
    by_cases e : js.getD 0 0 = i
    · rw [if_pos e, killL_len, if_pos (e ▸ hjl)] at hi
      simp only [Option.some.injEq] at hi
      exact .inr ⟨e.symm, hi.symm⟩
    · rw [if_neg e] at hi
      obtain ⟨h1, h2⟩ := killL_get js m i b hi
      exact .inl ⟨h2, h1⟩
  have hgt : ∀ (t : Nat) (gb : GB), (js.map fun j => g.getD j none)[t]? = some (some gb) → t < js.length ∧ g[js.getD t 0]? = some (some gb) := by
    intro t gb ht
    rw [List.getElem?_map, Option.map_eq_some_iff] at ht
    obtain ⟨j, hj, hgj⟩ := ht
    have htl := lt_of_getElem? hj
    rw [at_ t htl] at hj
    obtain rfl := Option.some.inj hj
    refine ⟨htl, ?_⟩
    have := hin _ (mem_ t htl)
    rw [List.getD_eq_getElem?_getD, List.getElem?_eq_getElem (by omega)] at hgj
    rw [List.getElem?_eq_getElem (by omega), ← hgj]; rfl
  have back : BackOk tm.length (fun i => js.getD i 0) g (js.map fun j => g.getD j none) := by
    refine ⟨fun i gb hi hgi => ?_, by rw [List.length_map, hl]; exact Nat.le_refl _⟩
    rw [List.getElem?_map, at_ i (by omega), Option.map_some]
    rw [List.getD_eq_getElem?_getD, hgi]; rfl
  have hlt : ∀ (i : Nat) (b : ABlk) (gi : GB), m[i]? = some (some b) → g[i]? = some (some gi) → gi.b < W.heap.size := by
    intro i b gi hi hgi
    obtain ⟨cs, fr, hh, _⟩ := hr.blk i b gi hi hgi
    rcases Nat.lt_or_ge gi.b W.heap.size with h' | h'
    · exact h'
    · rw [Array.getElem?_eq_none h'] at hh; cases hh
  refine ⟨by simp only [closeM, List.length_set, killL_len]; exact hgl, ?_, ?_, hr.frame, hr.size, hr.os, hr.tape, hr.output, ?_, ?_⟩
  · intro i b gb hi hgi
    rcases src i b hi with ⟨_, hi⟩ | ⟨rfl, rfl⟩
    · exact hr.blk i b gb hi hgi
    · obtain ⟨_, b', h1, _, _, hc', _, hx'⟩ := hm 0 b0 hr0
      obtain ⟨cs, fr, hh, hf, hs, hrw, hx⟩ := hr.blk _ _ gb h1 hgi
      rw [hc'] at hf hs
      have hl' : ((b0.cells.map (renS fun i => js.getD i 0))).length = vis.length := hvis.length
      refine ⟨cs, fr, hh, ?_, ?_, fun h => (by cases h), fun h => hx (hx' (hex h))⟩
      · show F2 (SR g) vis ((cs.toList.drop gb.base).take vis.length)
        rw [← hl']
        exact hvis.lessS hf
      · show gb.base + vis.length ≤ cs.size
        rw [← hl']
        exact hs
  · intro p q bp bq gp gq hne hp hq hrw hgp hgq
    rcases src p bp hp with ⟨np, hp2⟩ | ⟨rfl, rfl⟩
    · rcases src q bq hq with ⟨nq, hq2⟩ | ⟨rfl, rfl⟩
      · exact hr.inj p q bp bq gp gq hne hp2 hq2 hrw hgp hgq
      · obtain ⟨_, b', h1, _⟩ := hm 0 b0 hr0
        exact hr.inj p _ bp _ gp gq hne hp2 h1 hrw hgp hgq
    · cases hrw
  · -- the objects
    let fp0 : Nat → Prop := fun k => (∃ t b gb, tm[t]? = some (some b) ∧ g[js.getD t 0]? = some (some gb) ∧ b.rw = true ∧ gb.b = k) ∨ ∃ t b gb, tm[t]? = some (some b) ∧ g[js.getD t 0]? = some (some gb) ∧ b.ob ≠ none ∧ fp (js.getD t 0) k
    let rp0 : Nat → Prop := fun k => (∃ t b gb, tm[t]? = some (some b) ∧ g[js.getD t 0]? = some (some gb) ∧ b.rw = false ∧ b.ob = none ∧ gb.b = k) ∨ ∃ t b gb, tm[t]? = some (some b) ∧ g[js.getD t 0]? = some (some gb) ∧ b.ob ≠ none ∧ rp (js.getD t 0) k
    have e0 : ∀ (f : Nat → Nat → Prop) (f0 : Nat → Prop) i, i ∉ js → (fun k => (i ∉ js ∧ f i k) ∨ (i = js.getD 0 0 ∧ f0 k)) = f i := by
      intro f f0 i hi
      funext k
      refine propext ⟨fun h => ?_, fun h => .inl ⟨hi, h⟩⟩
      rcases h with h | ⟨rfl, _⟩
      · exact h.2
      · exact (hi (mem_ 0 h0)).elim
    have e1 : ∀ (f : Nat → Nat → Prop) (f0 : Nat → Prop), (fun k => (js.getD 0 0 ∉ js ∧ f (js.getD 0 0) k) ∨ (js.getD 0 0 = js.getD 0 0 ∧ f0 k)) = f0 := by
      intro f f0
      funext k
      refine propext ⟨fun h => ?_, fun h => .inr ⟨rfl, h⟩⟩
      rcases h with h | h
      · exact (h.1 (mem_ 0 h0)).elim
      · exact h.2
    refine ⟨fun i k => (i ∉ js ∧ fp i k) ∨ (i = js.getD 0 0 ∧ fp0 k), fun i k => (i ∉ js ∧ rp i k) ∨ (i = js.getD 0 0 ∧ rp0 k), ?_, ?_, ?_, ?_, ?_, hA.rr, fun i k h => by
      rcases h with ⟨_, h⟩ | ⟨rfl, h⟩
      · exact hA.cel _ _ h
      · rcases h with ⟨t, b, gb, hb, hg1, hrw, rfl⟩ | ⟨t, b, gb, hb, hg1, ho, h⟩
        · obtain ⟨_, b', q1, q2, q3, _⟩ := hm t b hb
          obtain ⟨cs, fr, hh, _⟩ := hr.blk _ b' gb q1 hg1
          exact ⟨_, hh, rfl⟩
        · exact hA.cel _ _ h⟩
    · intro i b gb o hi hgi ho
      rcases src i b hi with ⟨ni, hi2⟩ | ⟨rfl, rfl⟩
      · have ni : i ∉ js := ni.elim id fun h => (by rw [h.2] at ho; cases ho)
        rw [e0 fp fp0 i ni, e0 rp rp0 i ni]
        exact hA.rep i b gb o hi2 hgi ho
      · simp only [obBlk, Option.some.injEq] at ho
        subst ho
        rw [e1 fp fp0, e1 rp rp0]
        refine ⟨⟨hinv, ?_, js.map fun j => g.getD j none, ?_, ?_⟩, rfl⟩
        · rcases hrw0 with h | h
          · exact .inl (.inl ⟨0, b0, gb, hr0, hgi, h, rfl⟩)
          · cases hob : b0.ob with
            | none => exact (h hob).elim
            | some o =>
              obtain ⟨_, b', h1, _, h3, _⟩ := hm 0 b0 hr0
              exact (o.root (hA.rep _ _ gb o h1 hgi (h3.trans hob)).1).imp (fun h' => .inr ⟨0, b0, gb, hr0, hgi, h, h'⟩) fun h' => .inr ⟨0, b0, gb, hr0, hgi, h, h'⟩
        · rw [List.getElem?_map, at_ 0 h0, Option.map_some]
          rw [List.getD_eq_getElem?_getD (l := g), hgi]; rfl
        · refine ⟨by rw [List.length_map, hl], ?_, ?_, ?_, ?_⟩
          · intro t b gt hb hgt'
            obtain ⟨htl, hgj⟩ := hgt t gt hgt'
            obtain ⟨hlow, b', hmb, hw', ho', hc', he', hx'⟩ := hm t b hb
            obtain ⟨cs, fr, hh, hf, hs, hrw, hx⟩ := hr.blk _ _ gt hmb hgj
            rw [hc', List.length_map] at hf hs
            refine ⟨cs, fr, hh, F2.back (p := lowS tm.length) (fun v w hp hv => SR.back (n := tm.length) back hp hv) hlow hf, hs, fun h => ?_, fun h => hx (hx' h)⟩
            obtain ⟨q1, q2, q3, q4⟩ := hrw (hw'.trans h)
            rw [hc', List.length_map, he'] at q4
            rw [he'] at q1
            exact ⟨q1, .inl ⟨t, b, gt, hb, hgj, h, rfl⟩, q3, q4⟩
          · intro t t' bt bt' gt gt' hne hb hb' hrw hg1 hg2
            obtain ⟨htl, hgj⟩ := hgt t gt hg1
            obtain ⟨htl', hgj'⟩ := hgt t' gt' hg2
            obtain ⟨_, b1, h1, h2, _⟩ := hm t bt hb
            obtain ⟨_, b2, h3, _⟩ := hm t' bt' hb'
            exact hr.inj _ _ b1 b2 gt gt' (fun e => hne (inj_ t t' htl htl' e)) h1 h3 (h2.trans hrw) hgj hgj'
          · intro t b gt hb hg1 h1 h2
            obtain ⟨htl, hgj⟩ := hgt t gt hg1
            exact .inl ⟨t, b, gt, hb, hgj, h1, h2, rfl⟩
          · refine ⟨fun t k => (∃ b gb, tm[t]? = some (some b) ∧ g[js.getD t 0]? = some (some gb) ∧ b.ob ≠ none) ∧ t < js.length ∧ fp (js.getD t 0) k, fun t k => (∃ b gb, tm[t]? = some (some b) ∧ g[js.getD t 0]? = some (some gb) ∧ b.ob ≠ none) ∧ t < js.length ∧ rp (js.getD t 0) k, ?_, ?_, ?_, ?_, ?_⟩
            · intro t b gt o hb hg1 ho
              obtain ⟨htl, hgj⟩ := hgt t gt hg1
              have hx : ∃ b gb, tm[t]? = some (some b) ∧ g[js.getD t 0]? = some (some gb) ∧ b.ob ≠ none := ⟨b, gt, hb, hgj, by rw [ho]; simp⟩
              obtain ⟨_, b', q1, q2, q3, _⟩ := hm t b hb
              have := hA.rep _ b' gt o q1 hgj (q3.trans ho)
              rw [q2] at this
              have f1 : (fun k => (∃ b gb, tm[t]? = some (some b) ∧ g[js.getD t 0]? = some (some gb) ∧ b.ob ≠ none) ∧ t < js.length ∧ fp (js.getD t 0) k) = fp (js.getD t 0) := funext fun k => propext ⟨fun h => h.2.2, fun h => ⟨hx, htl, h⟩⟩
              have f2 : (fun k => (∃ b gb, tm[t]? = some (some b) ∧ g[js.getD t 0]? = some (some gb) ∧ b.ob ≠ none) ∧ t < js.length ∧ rp (js.getD t 0) k) = rp (js.getD t 0) := funext fun k => propext ⟨fun h => h.2.2, fun h => ⟨hx, htl, h⟩⟩
              show o.rep gt W (fun k => (∃ b gb, tm[t]? = some (some b) ∧ g[js.getD t 0]? = some (some gb) ∧ b.ob ≠ none) ∧ t < js.length ∧ fp (js.getD t 0) k) (fun k => (∃ b gb, tm[t]? = some (some b) ∧ g[js.getD t 0]? = some (some gb) ∧ b.ob ≠ none) ∧ t < js.length ∧ rp (js.getD t 0) k) ∧ _
              rw [f1, f2]
              exact this
            · rintro t k ⟨⟨b, gb', hb, hg1, ho⟩, htl, h⟩
              exact .inr ⟨t, b, gb', hb, hg1, ho, h⟩
            · rintro t k ⟨⟨b, gb', hb, hg1, ho⟩, htl, h⟩
              exact .inr ⟨t, b, gb', hb, hg1, ho, h⟩
            · rintro t t' k hne ⟨_, htl, ha⟩ ⟨_, htl', hb⟩
              exact hA.dis _ _ k (fun e => hne (inj_ t t' htl htl' e)) ha hb
            · rintro t b gt t' hb hg1 ho hrw ⟨_, _, h⟩
              obtain ⟨htl, hgj⟩ := hgt t gt hg1
              obtain ⟨_, b', q1, q2, q3, _⟩ := hm t b hb
              exact hA.oth _ b' gt _ q1 hgj (q3.trans ho) h
    · intro i k h
      rcases h with ⟨_, h⟩ | ⟨rfl, h⟩
      · exact hA.own _ _ h
      · rcases h with ⟨t, b, gb, hb, hg1, hrw, rfl⟩ | ⟨t, b, gb, hb, hg1, ho, h⟩
        · obtain ⟨_, b', q1, q2, q3, _⟩ := hm t b hb
          refine ⟨hlt _ b' gb q1 hg1, ?_⟩
          obtain ⟨_, _, _, _, _, hx, _⟩ := hr.blk _ b' gb q1 hg1
          exact (hx (q2.trans hrw)).2.1
        · exact hA.own _ _ h
    · intro i k h
      rcases h with ⟨_, h⟩ | ⟨rfl, h⟩
      · exact hA.ro _ _ h
      · rcases h with ⟨t, b, gb, hb, hg1, hrw, ho, rfl⟩ | ⟨t, b, gb, hb, hg1, ho, h⟩
        · obtain ⟨_, b', q1, q2, q3, _⟩ := hm t b hb
          exact hr.ro _ b' gb q1 hg1 (q2.trans hrw) (q3.trans ho)
        · exact hA.ro _ _ h
    · have key : ∀ i k, i ∉ js → fp i k → ¬ fp0 k := by
        intro i k hi h hf
        rcases hf with ⟨t, b, gb, hb, hg1, hrw, rfl⟩ | ⟨t, b, gb, hb, hg1, ho, h'⟩
        · obtain ⟨_, b', q1, q2, q3, _⟩ := hm t b hb
          exact hA.oth _ b' gb i q1 hg1 (hr.noOb q1 hg1 (q2.trans hrw)) h
        · refine hA.dis i (js.getD t 0) k (fun e => hi (e ▸ mem_ t ?_)) h h'
          have := lt_of_getElem? hb; omega
      intro i i' k hne ha hb
      rcases ha with ⟨ni, ha⟩ | ⟨rfl, ha⟩ <;> rcases hb with ⟨ni', hb⟩ | ⟨rfl, hb⟩
      · exact hA.dis i i' k hne ha hb
      · exact key i k ni ha hb
      · exact key i' k ni' hb ha
      · exact hne rfl
    · intro i b gb i' hi hgi ho h
      rcases src i b hi with ⟨ni, hi2⟩ | ⟨rfl, rfl⟩
      · rcases h with ⟨_, h⟩ | ⟨rfl, h⟩
        · exact hA.oth i b gb i' hi2 hgi ho h
        · rcases h with ⟨t, b1, gb1, hb, hg1, hrw, e⟩ | ⟨t, b1, gb1, hb, hg1, ho1, h⟩
          · obtain ⟨_, b', q1, q2, q3, _⟩ := hm t b1 hb
            refine hr.inj _ i b' b gb1 gb (fun e' => ?_) q1 hi2 (q2.trans hrw) hg1 hgi e
            rcases ni with ni | ni
            · have := lt_of_getElem? hb
              exact ni (e' ▸ mem_ t (by omega))
            · rw [e', hi2] at q1
              obtain rfl := Option.some.inj (Option.some.inj q1)
              rw [q2.trans hrw] at ni
              cases ni.1
          · exact hA.oth i b gb _ hi2 hgi ho h
      · cases ho
  · intro i b gb hi hgi h6 h7
    rcases src i b hi with ⟨ni, hi2⟩ | ⟨rfl, rfl⟩
    · exact hr.ro i b gb hi2 hgi h6 h7
    · cases h7
end Go.AE
end
section
namespace Go.AE
variable {P : Program}
theorem F2.mem {α β : Type} {R : α → β → Prop} {l : List α} {l' : List β} (h : F2 R l l') {x : α} (hx : x ∈ l) : ∃ y, R x y := by
  induction h with
  | nil => cases hx
  | cons hr _ ih =>
    rcases List.mem_cons.1 hx with rfl | hx
    · exact ⟨_, hr⟩
    · exact ih hx
theorem VR.root {g : List (Option GB)} {j : Nat} {w : Value} (h : VR g (.pointer (some ⟨j, 0, none⟩)) w) : ∃ gb, g[j]? = some (some gb) := by
  cases h with
  | a h => cases h with
    | s h => cases h with
      | ptr _ _ gb h => exact ⟨gb, h⟩
def SeesP (P : Program) (n₀ : Nat) (a : List Value) (m : Mem) (a' : List Value) (m' : Mem) : Prop :=
  ∀ c g₀ g A W, g₀.length = n₀ → Rel P c (g₀ ++ g) m W → ARel (g₀ ++ g) a A → ∃ g', Rel P c (g₀ ++ g') m' W ∧ ARel (g₀ ++ g') a' A
theorem Sees.toP {n₀ : Nat} {a a' : List Value} {m m' : Mem} (h : Sees n₀ a m a' m') : SeesP P n₀ a m a' m' := fun c g₀ g A W => h P c g₀ g A W
theorem SeesP.trans {n₀ : Nat} {a a' a'' : List Value} {m m' m'' : Mem} (h : SeesP P n₀ a m a' m') (h' : SeesP P n₀ a' m' a'' m'') : SeesP P n₀ a m a'' m'' := fun c g₀ g A W hl hr ha => by
  obtain ⟨g', h1, h2⟩ := h c g₀ g A W hl hr ha
  exact h' c g₀ g' A W hl h1 h2
theorem AWp.seesP {n₀ : Nat} {x : Code} {K : Exit → List Value → Mem → Prop} {a a' : List Value} {m m' : Mem} (hs : SeesP P n₀ a m a' m') (h : AWp P n₀ x K a' m') : AWp P n₀ x K a m := fun c g₀ g A W hl hr ha => by
  obtain ⟨g', h1, h2⟩ := hs c g₀ g A W hl hr ha
  exact h c g₀ g' A W hl h1 h2
theorem ACall.seesP {f : FuncId} {as : List Value} {m : Mem} {K K' : Value → Mem → Prop} (h : ACall P f as m K') (hs : ∀ v m', K' v m' → ∃ v2 m2, SeesP P m.length [v] m' [v2] m2 ∧ K v2 m2) : ACall P f as m K := by
  intro c g W args' hr ha
  refine (h c g W args' hr ha).mono ?_
  rintro e W' ⟨v, v', m', g', rfl, hK, hr', hv⟩
  obtain ⟨v2, m2, hsee, hK2⟩ := hs v m' hK
  obtain ⟨g2, hr2, ha2⟩ := hsee c g g' { tmps := #[v'], defers := [] } W' hr.len hr' ⟨.cons hv .nil, rfl⟩
  have := ha2.tmps
  cases this with
  | cons h1 _ => exact ⟨v2, v', m2, g2, rfl, hK2, hr2, h1⟩
theorem ACall.open {f : FuncId} {as : List Value} {m : Mem} {K : Value → Mem → Prop} {j : Nat} {vis : List Value} {el : TypeId} {ex : Bool} {tm : Mem} {inv : Prop} (hj : m[j]? = some (some (obBlk vis el ex (obT P tm inv)))) (ha : .pointer (some ⟨j, 0, none⟩) ∈ as)
    (h : inv → ACall P f as (openM j tm m) fun v m' => ∃ v2 m2, SeesP P m.length [v] m' [v2] m2 ∧ K v2 m2) : ACall P f as m K := by
  intro c g W args' hr hargs
  obtain ⟨w, hw⟩ := hargs.mem ha
  obtain ⟨gb, hg⟩ := hw.root
  obtain ⟨hinv, gt, hr2⟩ := hr.open hj hg
  refine (h hinv c (g ++ gt) W args' hr2 (hargs.imp fun _ _ h => h.app)).mono ?_
  rintro e W' ⟨v, v', m', g', rfl, ⟨v2, m2, hs, hK⟩, hr', hv⟩
  rw [List.append_assoc] at hr' hv
  obtain ⟨g2, hr3, ha3⟩ := hs c g (gt ++ g') { tmps := #[v'], defers := [] } W' hr.len hr' ⟨.cons hv .nil, rfl⟩
  have := ha3.tmps
  cases this with
  | cons h1 _ => exact ⟨v2, v', m2, g2, rfl, hK, hr3, h1⟩
theorem AWp.open {n₀ : Nat} {x : Code} {K : Exit → List Value → Mem → Prop} {a : List Value} {m : Mem} {j : Nat} {vis : List Value} {el : TypeId} {ex : Bool} {tm : Mem} {inv : Prop} (hj : m[j]? = some (some (obBlk vis el ex (obT P tm inv)))) (ha : .pointer (some ⟨j, 0, none⟩) ∈ a)
    (h : inv → AWp P n₀ x K a (openM j tm m)) : AWp P n₀ x K a m := by
  intro c g₀ g A W hl hr har
  obtain ⟨w, hw⟩ := har.tmps.mem ha
  obtain ⟨gb, hg⟩ := hw.root
  obtain ⟨hinv, gt, hr2⟩ := hr.open hj hg
  rw [List.append_assoc] at hr2
  have := har.app (g' := gt)
  rw [List.append_assoc] at this
  exact h hinv c g₀ (g ++ gt) A W hl hr2 this
theorem Sees.close {n₀ : Nat} {a : List Value} {m : Mem} {js : List Nat} {vis : List Value} {el : TypeId} {ex : Bool} {tm : Mem} {inv : Prop} (hinv : inv) (hl : js.length = tm.length) (h0 : 0 < js.length) (hnd : js.Nodup)
    (hm : ∀ (t : Nat) (b : ABlk), tm[t]? = some (some b) → b.cells.all (lowS tm.length) = true ∧ ∃ b', m[js.getD t 0]? = some (some b') ∧ b'.rw = b.rw ∧ b'.ob = b.ob ∧ b'.cells = b.cells.map (renS fun i => js.getD i 0) ∧ b'.elem = b.elem ∧ (b.ex = true → b'.ex = true))
    (hin : ∀ j ∈ js, j < m.length) {b0 : ABlk} (hr0 : tm[0]? = some (some b0)) (hex : ex = true → b0.ex = true) (hrw0 : b0.rw = true ∨ b0.ob ≠ none) (hvis : F2 Less (b0.cells.map (renS fun i => js.getD i 0)) vis) : SeesP P n₀ a m a (closeM js vis el ex (obT P tm inv) m) := by
  intro c g₀ g A W _ hr ha
  exact ⟨g, hr.close hinv hl h0 hnd hm hin hr0 hex hrw0 hvis, ha⟩
end Go.AE
end
section
namespace Go.AE
variable {P : Program}
def putL : List (Nat × Option ABlk) → Mem → Mem
  | [], m => m
  | (j, b) :: l, m => putL l (m.set j b)
theorem putL_len : ∀ (l : List (Nat × Option ABlk)) (m : Mem), (putL l m).length = m.length
  | [], _ => rfl
  | (j, b) :: l, m => by simp [putL, putL_len l]
theorem putL_get : ∀ (l : List (Nat × Option ABlk)) (m : Mem) (i : Nat) (b : ABlk), (putL l m)[i]? = some (some b) → (i, some b) ∈ l ∨ (m[i]? = some (some b) ∧ ∀ p ∈ l, p.1 ≠ i)
  | [], _, _, _, h => .inr ⟨h, by simp⟩
  | (j, x) :: l, m, i, b, h => by
    rcases putL_get l _ i b h with h1 | ⟨h1, h2⟩
    · exact .inl (List.mem_cons_of_mem _ h1)
    · rw [List.getElem?_set] at h1
      by_cases e : j = i
      · subst e
        rw [if_pos rfl] at h1
        split at h1
        · simp only [Option.some.injEq] at h1
          subst h1
          exact .inl List.mem_cons_self
        · cases h1
      · rw [if_neg e] at h1
        refine .inr ⟨h1, fun p hp => ?_⟩
        rcases List.mem_cons.1 hp with rfl | hp
        · exact e
        · exact h2 p hp
def ownB (b : ABlk) : Bool := b.rw || b.ob.isSome
def ownAt (m0 : Mem) (i : Nat) : Bool := match m0.getD i none with
  | some b => ownB b
  | none => false
theorem ownAt_iff {m0 : Mem} {i : Nat} : ownAt m0 i = true ↔ ∃ b, m0[i]? = some (some b) ∧ ownB b = true := by
  unfold ownAt
  rw [List.getD_eq_getElem?_getD]
  cases h : m0[i]? with
  | none => simp
  | some x => cases x <;> simp
def backM (js : List Nat) (ρ : Nat → Nat) (m0 m0' m : Mem) : Mem :=
  putL ((List.range js.length).filterMap fun i => bif ownAt m0 i then some (js.getD i 0, (m0'.getD i none).map (renBlk ρ)) else none) m
structure ShowsW (m : Mem) (js : List Nat) (m0 : Mem) : Prop where
  len : m0.length = js.length
  nodup : js.Nodup
  inM : ∀ j ∈ js, j < m.length
  blk : ∀ (i : Nat) (b : ABlk), m0[i]? = some (some b) → b.cells.all (lowS js.length) = true ∧ ∃ b', m[js.getD i 0]? = some (some b') ∧ b'.rw = b.rw ∧ b'.ob = b.ob ∧ b'.cells = b.cells.map (renS fun i => js.getD i 0) ∧ (b.rw = true → b'.elem = b.elem) ∧ (b.ex = true → b'.ex = true)
theorem ACall.frameW {f : FuncId} {as : List Value} {m0 : Mem} {K : Value → Mem → Mem → Prop} (h : ACall P f as m0 fun v m1 => ∃ m0' nb : Mem, m1 = m0' ++ nb ∧ m0'.length = m0.length ∧ K v m0' nb) (m : Mem) (js : List Nat) (hs : ShowsW m js m0)
    (has : as.all (low js.length) = true) :
    ACall P f (as.map (ren (place js m.length))) m fun v m' => ∃ (v0 : Value) (m0' nb : Mem), K v0 m0' nb ∧ v = ren (place js m.length) v0 ∧ m' = backM js (place js m.length) m0 m0' m ++ nb.map fun b => b.map (renBlk (place js m.length)) := by
  intro c g W args' hr hargs
  obtain ⟨fp, rp, hA⟩ := hr.objs
  have hgl := hr.len
  have hjs := hs.inM
  have at_ : ∀ t, t < js.length → js[t]? = some (js.getD t 0) := fun t ht => by rw [List.getD_eq_getElem?_getD, List.getElem?_eq_getElem ht]; rfl
  have mem_ : ∀ t, t < js.length → js.getD t 0 ∈ js := fun t ht => List.mem_of_getElem? (at_ t ht)
  have inj_ : ∀ t t', t < js.length → t' < js.length → js.getD t 0 = js.getD t' 0 → t = t' := by
    intro t t' ht ht' e
    have h1 := at_ t ht
    have h2 := at_ t' ht'
    rw [List.getElem?_eq_getElem ht] at h1
    rw [List.getElem?_eq_getElem ht'] at h2
    have h1 := Option.some.inj h1
    have h2 := Option.some.inj h2
    have hp := List.pairwise_iff_getElem.1 hs.nodup
    rcases Nat.lt_trichotomy t t' with h | h | h
    · exact (hp t t' ht ht' h (h1.trans (e.trans h2.symm))).elim
    · exact h
    · exact (hp t' t ht' ht h (h1.trans (e.trans h2.symm)).symm).elim
  have hg0 : ∀ (i : Nat) (gb : GB), i < js.length → g[place js m.length i]? = some (some gb) → (js.map fun j => g.getD j none)[i]? = some (some gb) := by
    intro i gb hi hgb
    simp only [place, if_pos hi] at hgb
    rw [List.getElem?_map, at_ i hi, Option.map_some, List.getD_eq_getElem?_getD, hgb]; rfl
  have hget : ∀ (i : Nat) (gb : GB), (js.map fun j => g.getD j none)[i]? = some (some gb) → i < js.length ∧ g[js.getD i 0]? = some (some gb) := by
    intro i gb hi
    rw [List.getElem?_map, Option.map_eq_some_iff] at hi
    obtain ⟨j, hj, hgj⟩ := hi
    have htl := lt_of_getElem? hj
    rw [at_ i htl] at hj
    obtain rfl := Option.some.inj hj
    refine ⟨htl, ?_⟩
    have := hjs _ (mem_ i htl)
    rw [List.getD_eq_getElem?_getD, List.getElem?_eq_getElem (by omega)] at hgj
    rw [List.getElem?_eq_getElem (by omega), ← hgj]; rfl
  have hlt : ∀ (j : Nat) (b : ABlk) (gb : GB), m[j]? = some (some b) → g[j]? = some (some gb) → gb.b < W.heap.size := by
    intro j b gb hj hg
    obtain ⟨cs, fr, hh, _⟩ := hr.blk j b gb hj hg
    rcases Nat.lt_or_ge gb.b W.heap.size with h' | h'
    · exact h'
    · rw [Array.getElem?_eq_none h'] at hh; cases hh
  -- what the callee may write, and what it may read alone
  let F0 : Nat → Prop := fun k => ∃ t b gb, m0[t]? = some (some b) ∧ g[js.getD t 0]? = some (some gb) ∧ ((b.rw = true ∧ gb.b = k) ∨ (b.ob ≠ none ∧ fp (js.getD t 0) k))
  let R0 : Nat → Prop := fun k => ∃ t b gb, m0[t]? = some (some b) ∧ g[js.getD t 0]? = some (some gb) ∧ ((b.rw = false ∧ b.ob = none ∧ gb.b = k) ∨ (b.ob ≠ none ∧ rp (js.getD t 0) k))
  have hF : ∀ k, F0 k → c.W.heap.size ≤ k ∨ c.F k := by
    rintro k ⟨t, b, gb, hb, hg, h⟩
    obtain ⟨_, b', hb', hrw, hob, _⟩ := hs.blk t b hb
    rcases h with ⟨h1, rfl⟩ | ⟨h1, h2⟩
    · obtain ⟨_, _, _, _, _, hx, _⟩ := hr.blk _ b' gb hb' hg
      exact (hx (hrw.trans h1)).2.1
    · exact (hA.own _ _ h2).2
  have hFl : ∀ k, F0 k → k < W.heap.size := by
    rintro k ⟨t, b, gb, hb, hg, h⟩
    obtain ⟨_, b', hb', _⟩ := hs.blk t b hb
    rcases h with ⟨h1, rfl⟩ | ⟨h1, h2⟩
    · exact hlt _ b' gb hb' hg
    · exact (hA.own _ _ h2).1
  have hRc : ∀ k, R0 k → c.R k := by
    rintro k ⟨t, b, gb, hb, hg, h⟩
    obtain ⟨_, b', hb', hrw, hob, _⟩ := hs.blk t b hb
    rcases h with ⟨h1, h2, rfl⟩ | ⟨h1, h2⟩
    · exact hr.ro _ b' gb hb' hg (hrw.trans h1) (hob.trans h2)
    · exact hA.ro _ _ h2
  have hRF : ∀ k, c.R k → ¬ F0 k := by
    intro k h1 h2
    have h3 := c.rr k h1
    rcases hF k h2 with h | h
    · omega
    · exact h3.2 h
  let c0 : Ctx := ⟨W, F0, R0, hr.goodF hF, fun k hk => ⟨by have := (c.rr k (hRc k hk)).1; have := hr.size; omega, hRF k (hRc k hk)⟩⟩
  -- blocks that the callee may not change
  have apart : ∀ (i : Nat) (b : ABlk) (gi : GB), m[i]? = some (some b) → g[i]? = some (some gi) → (∀ t, ownAt m0 t = true → js.getD t 0 ≠ i) → ¬ F0 gi.b := by
    rintro i b gi hi hgi hno ⟨t, bt, gt, hb, hg, h⟩
    obtain ⟨_, b', hb', hrw, hob, _⟩ := hs.blk t bt hb
    rcases h with ⟨h1, h2⟩ | ⟨h1, h2⟩
    · exact hr.inj _ i b' b gt gi (hno t (ownAt_iff.2 ⟨bt, hb, by simp [ownB, h1]⟩)) hb' hi (hrw.trans h1) hg hgi h2
    · have hn := hno t (ownAt_iff.2 ⟨bt, hb, by
        unfold ownB
        cases ho : bt.ob with
        | none => exact (h1 ho).elim
        | some o => simp⟩)
      cases ho : b.ob with
      | none => exact hA.oth i b gi _ hi hgi ho h2
      | some o => exact (o.root (hA.rep i b gi o hi hgi ho).1).elim (fun h' => hA.dis _ i _ hn h2 h') fun h' => hA.fr h2 h'
  have apartF : ∀ (i k : Nat), (∀ t, ownAt m0 t = true → js.getD t 0 ≠ i) → fp i k → ¬ F0 k := by
    rintro i k hno hk ⟨t, bt, gt, hb, hg, h⟩
    obtain ⟨_, b', hb', hrw, hob, _⟩ := hs.blk t bt hb
    rcases h with ⟨h1, h2⟩ | ⟨h1, h2⟩
    · exact hA.oth _ b' gt i hb' hg (hr.noOb hb' hg (hrw.trans h1)) (h2 ▸ hk)
    · have hn := hno t (ownAt_iff.2 ⟨bt, hb, by
        unfold ownB
        cases ho : bt.ob with
        | none => exact (h1 ho).elim
        | some o => simp⟩)
      exact hA.dis _ _ k hn h2 hk
  have hr0 : Rel P c0 (js.map fun j => g.getD j none) m0 W := by
    refine ⟨by rw [List.length_map, hs.len], ?_, ?_, fun _ _ _ => rfl, Nat.le_refl _, rfl, rfl, rfl, ?_, ?_⟩
    · intro i b gb hb hgb
      obtain ⟨htl, hgj⟩ := hget i gb hgb
      obtain ⟨hlow, b', hmj, hrw', hob', hcells, helem, hex⟩ := hs.blk i b hb
      obtain ⟨cs, fr, hh, hf, hsz, hrw, hx⟩ := hr.blk _ b' gb hmj hgj
      rw [hcells, List.length_map] at hf hsz
      refine ⟨cs, fr, hh, F2.back (p := lowS js.length) (fun v w hp hr => SR.back (n := js.length) (ρ := fun i => js.getD i 0) ⟨fun i gb hi h => hg0 i gb hi (by simp only [place, if_pos hi]; exact h), by simp⟩ hp hr) hlow hf, hsz, fun h => ?_, fun h => hx (hex h)⟩
      obtain ⟨q1, q2, q3, q4⟩ := hrw (hrw'.trans h)
      rw [hcells, List.length_map, helem h] at q4
      rw [helem h] at q1
      exact ⟨q1, .inr ⟨i, b, gb, hb, hgj, .inl ⟨h, rfl⟩⟩, q3, q4⟩
    · intro i j bi bj gi gj hne hbi hbj hrw hgi hgj
      obtain ⟨htl, hgi'⟩ := hget i gi hgi
      obtain ⟨htl', hgj'⟩ := hget j gj hgj
      obtain ⟨_, bi', h1, h2, _⟩ := hs.blk i bi hbi
      obtain ⟨_, bj', h3, _⟩ := hs.blk j bj hbj
      exact hr.inj _ _ bi' bj' gi gj (fun e => hne (inj_ i j htl htl' e)) h1 h3 (h2.trans hrw) hgi' hgj'
    · refine ⟨fun t k => (∃ b gb, m0[t]? = some (some b) ∧ g[js.getD t 0]? = some (some gb) ∧ b.ob ≠ none) ∧ t < js.length ∧ fp (js.getD t 0) k, fun t k => (∃ b gb, m0[t]? = some (some b) ∧ g[js.getD t 0]? = some (some gb) ∧ b.ob ≠ none) ∧ t < js.length ∧ rp (js.getD t 0) k, ?_, ?_, ?_, ?_, ?_, c0.rr, fun t k h => hA.cel _ _ h.2.2⟩
      · intro t b gt o hb hg1 ho
        obtain ⟨htl, hgj⟩ := hget t gt hg1
        obtain ⟨_, b', h1, h2, h3, _⟩ := hs.blk t b hb
        have hx : ∃ b gb, m0[t]? = some (some b) ∧ g[js.getD t 0]? = some (some gb) ∧ b.ob ≠ none := ⟨b, gt, hb, hgj, by rw [ho]; simp⟩
        have hrep := hA.rep _ b' gt o h1 hgj (h3.trans ho)
        have f1 : (fun k => (∃ b gb, m0[t]? = some (some b) ∧ g[js.getD t 0]? = some (some gb) ∧ b.ob ≠ none) ∧ t < js.length ∧ fp (js.getD t 0) k) = fp (js.getD t 0) := funext fun k => propext ⟨fun h => h.2.2, fun h => ⟨hx, htl, h⟩⟩
        have f2 : (fun k => (∃ b gb, m0[t]? = some (some b) ∧ g[js.getD t 0]? = some (some gb) ∧ b.ob ≠ none) ∧ t < js.length ∧ rp (js.getD t 0) k) = rp (js.getD t 0) := funext fun k => propext ⟨fun h => h.2.2, fun h => ⟨hx, htl, h⟩⟩
        show o.rep gt W (fun k => (∃ b gb, m0[t]? = some (some b) ∧ g[js.getD t 0]? = some (some gb) ∧ b.ob ≠ none) ∧ t < js.length ∧ fp (js.getD t 0) k) (fun k => (∃ b gb, m0[t]? = some (some b) ∧ g[js.getD t 0]? = some (some gb) ∧ b.ob ≠ none) ∧ t < js.length ∧ rp (js.getD t 0) k) ∧ _
        rw [f1, f2]
        exact ⟨hrep.1, h2 ▸ hrep.2⟩
      · rintro t k ⟨⟨b, gb, hb, hg1, ho⟩, htl, h⟩
        exact ⟨(hA.own _ _ h).1, .inr ⟨t, b, gb, hb, hg1, .inr ⟨ho, h⟩⟩⟩
      · rintro t k ⟨⟨b, gb, hb, hg1, ho⟩, htl, h⟩
        exact ⟨t, b, gb, hb, hg1, .inr ⟨ho, h⟩⟩
      · rintro t t' k hne ⟨_, htl, ha⟩ ⟨_, htl', hb⟩
        exact hA.dis _ _ k (fun e => hne (inj_ t t' htl htl' e)) ha hb
      · rintro t b gt t' hb hg1 ho ⟨_, _, h⟩
        obtain ⟨htl, hgj⟩ := hget t gt hg1
        obtain ⟨_, b', h1, h2, h3, _⟩ := hs.blk t b hb
        exact hA.oth _ b' gt _ h1 hgj (h3.trans ho) h
    · intro t b gb hb hg1 h1 h2
      obtain ⟨htl, hgj⟩ := hget t gb hg1
      exact ⟨t, b, gb, hb, hgj, .inl ⟨h1, h2, rfl⟩⟩
  have hargs0 : F2 (VR (js.map fun j => g.getD j none)) as args' := F2.back (p := low js.length) (fun v w hp hv => VR.back (n := js.length) ⟨hg0, by simp⟩ hp hv) has hargs
  refine (h c0 _ W args' hr0 hargs0).mono ?_
  rintro e W' ⟨v0, v', m1, g', rfl, ⟨m0', nb, rfl, hm0l, hK⟩, hr1, hv⟩
  obtain ⟨fp1, rp1, hA1⟩ := hr1.objs
  have hlen1 := hr1.len
  simp only [List.length_append, List.length_map] at hlen1
  have hg'l : g'.length = nb.length := by have := hs.len; omega
  have hold : ∀ k, k < W.heap.size → ¬ F0 k → W'.heap[k]? = W.heap[k]? := fun k hk hn => hr1.frame k hk hn
  have hρ : ∀ (i : Nat) (gb : GB), ((js.map fun j => g.getD j none) ++ g')[i]? = some (some gb) → (g ++ g')[place js m.length i]? = some (some gb) := by
    intro i gb hi
    by_cases hl : i < js.length
    · rw [List.getElem?_append_left (by simpa using hl)] at hi
      obtain ⟨_, hgj⟩ := hget i gb hi
      simp only [place, if_pos hl]
      exact getElem?_app hgj
    · rw [List.getElem?_append_right (by simpa using Nat.le_of_not_lt hl)] at hi
      simp only [List.length_map] at hi
      simp only [place, if_neg hl]
      rw [List.getElem?_append_right (by omega), hgl, show m.length + (i - js.length) - m.length = i - js.length from by omega]
      exact hi
  have hρl : ∀ i, i < ((js.map fun j => g.getD j none) ++ g').length → place js m.length i < (g ++ g').length := by
    intro i hi
    simp only [List.length_append, List.length_map] at hi ⊢
    by_cases hl : i < js.length
    · simp only [place, if_pos hl]
      have := hjs _ (mem_ i hl)
      omega
    · simp only [place, if_neg hl]
      omega
  have pinj : ∀ t t', place js m.length t = place js m.length t' → t = t' := by
    intro t t' h
    simp only [place] at h
    split at h <;> split at h
    · exact inj_ t t' ‹_› ‹_› h
    · rename_i h1 h2; have := hjs _ (mem_ t h1); omega
    · rename_i h1 h2; have := hjs _ (mem_ t' h2); omega
    · omega
  have split : ∀ (i : Nat) (b : ABlk) (gi : GB), (backM js (place js m.length) m0 m0' m ++ nb.map fun b => b.map (renBlk (place js m.length)))[i]? = some (some b) → (g ++ g')[i]? = some (some gi) →
      (m[i]? = some (some b) ∧ g[i]? = some (some gi) ∧ i < m.length ∧ ∀ t, ownAt m0 t = true → js.getD t 0 ≠ i) ∨
      ∃ t b1, place js m.length t = i ∧ (m0' ++ nb)[t]? = some (some b1) ∧ b = renBlk (place js m.length) b1 ∧ ((js.map fun j => g.getD j none) ++ g')[t]? = some (some gi) ∧ (t < js.length → ownAt m0 t = true) := by
    intro i b gi hi hgi
    have hbl : (backM js (place js m.length) m0 m0' m).length = m.length := putL_len _ _
    rcases Nat.lt_or_ge i m.length with hl | hl
    · rw [List.getElem?_append_left (by rw [hbl]; exact hl)] at hi
      rw [List.getElem?_append_left (by omega)] at hgi
      rcases putL_get _ _ i b hi with h1 | ⟨h1, h2⟩
      · obtain ⟨t, ht, he⟩ := List.mem_filterMap.1 h1
        have ht := List.mem_range.1 ht
        cases ho : ownAt m0 t with
        | false => rw [ho] at he; cases he
        | true =>
          rw [ho] at he
          simp only [cond_true, Option.some.injEq, Prod.mk.injEq, Option.map_eq_some_iff] at he
          obtain ⟨rfl, b1, hb1, rfl⟩ := he
          refine .inr ⟨t, b1, by simp only [place, if_pos ht], ?_, rfl, ?_, fun _ => ho⟩
          · rw [List.getElem?_append_left (by rw [hm0l, hs.len]; exact ht)]
            rw [List.getD_eq_getElem?_getD, List.getElem?_eq_getElem (by rw [hm0l, hs.len]; exact ht)] at hb1
            rw [List.getElem?_eq_getElem (by rw [hm0l, hs.len]; exact ht)]
            exact congrArg some hb1
          · rw [List.getElem?_append_left (by simpa using ht)]
            exact hg0 t gi ht (by simp only [place, if_pos ht]; exact hgi)
      · refine .inl ⟨h1, hgi, hl, fun t ht e => ?_⟩
        have htl : t < js.length := by
          obtain ⟨b, hb, _⟩ := ownAt_iff.1 ht
          have := lt_of_getElem? hb
          rw [hs.len] at this; exact this
        exact h2 (js.getD t 0, (m0'.getD t none).map (renBlk (place js m.length))) (List.mem_filterMap.2 ⟨t, List.mem_range.2 htl, by rw [ht]; rfl⟩) e
    · rw [List.getElem?_append_right (by rw [hbl]; exact hl), hbl, List.getElem?_map, Option.map_eq_some_iff] at hi
      obtain ⟨x, hx, hb⟩ := hi
      simp only [Option.map_eq_some_iff] at hb
      obtain ⟨b1, rfl, rfl⟩ := hb
      rw [List.getElem?_append_right (by omega), hgl] at hgi
      refine .inr ⟨js.length + (i - m.length), b1, by simp only [place, if_neg (show ¬ js.length + (i - m.length) < js.length by omega)]; omega, ?_, rfl, ?_, fun h => by omega⟩
      · rw [List.getElem?_append_right (by rw [hm0l, hs.len]; omega), hm0l, hs.len, show js.length + (i - m.length) - js.length = i - m.length from by omega]
        exact hx
      · rw [List.getElem?_append_right (by simp), List.length_map, show js.length + (i - m.length) - js.length = i - m.length from by omega]
        exact hgi
  -- where the callee's blocks lie
  have mine : ∀ (t : Nat) (b1 : ABlk) (gi : GB), (m0' ++ nb)[t]? = some (some b1) → ((js.map fun j => g.getD j none) ++ g')[t]? = some (some gi) → (W.heap.size ≤ gi.b ∨ F0 gi.b) ∨ (b1.rw = false ∧ True ∧ R0 gi.b) := by
    intro t b1 gi hb hgi
    cases hrw : b1.rw with
    | true =>
      obtain ⟨_, _, _, _, _, hx, _⟩ := hr1.blk t b1 gi hb hgi
      exact .inl (hx hrw).2.1
    | false => cases ho : b1.ob with
      | none => exact .inr ⟨rfl, trivial, hr1.ro t b1 gi hb hgi hrw ho⟩
      | some o => exact (o.root (hA1.rep t b1 gi o hb hgi ho).1).elim (fun h => .inl (hA1.own t _ h).2) fun h => .inr ⟨rfl, trivial, hA1.ro t _ h⟩
  have ncl : ∀ k, W.heap.size ≤ k ∨ F0 k → c.W.heap.size ≤ k ∨ c.F k := fun k h => h.elim (fun h => .inl (Nat.le_trans hr.size h)) (hF k)
  refine ⟨ren (place js m.length) v0, v', _, g', rfl, ⟨v0, m0', nb, hK, rfl, rfl⟩, ?_, hv.ren ⟨hρ, hρl⟩⟩
  refine ⟨by simp only [List.length_append, List.length_map, backM, putL_len]; omega, ?_, ?_, ?_, Nat.le_trans hr.size hr1.size, hr1.os.trans hr.os, hr1.tape.trans hr.tape, hr1.output.trans hr.output, ?_, ?_⟩
  · intro i b gi hi hgi
    rcases split i b gi hi hgi with ⟨hi, hgi, hl, hno⟩ | ⟨t, b1, rfl, hb1, rfl, hgt, hto⟩
    · obtain ⟨cs, fr, hh, hf, rest⟩ := hr.blk i b gi hi hgi
      exact ⟨cs, fr, by rw [hold _ (hlt i b gi hi hgi) (apart i b gi hi hgi hno)]; exact hh, hf.imp fun _ _ h => h.app, rest⟩
    · obtain ⟨cs, fr, hh, hf, hsz, hown, hex⟩ := hr1.blk t b1 gi hb1 hgt
      refine ⟨cs, fr, hh, ?_, by simpa [renBlk] using hsz, fun h => ?_, hex⟩
      · simp only [renBlk, List.length_map]
        have := hf.map (S := SR (g ++ g')) (f := renS (place js m.length)) (f' := id) fun _ _ h' => h'.ren ⟨hρ, hρl⟩
        simpa using this
      · obtain ⟨h1, h2, h3, h4⟩ := hown h
        exact ⟨h1, ncl _ h2, h3, by simpa [renBlk] using h4⟩
  · intro p q bp bq gp gq hne hp hq hrw hgp hgq
    rcases split p bp gp hp hgp with ⟨hp2, hgp2, hlp, hnp⟩ | ⟨t, b1, rfl, hb1, rfl, hgt, hto⟩ <;> rcases split q bq gq hq hgq with ⟨hq2, hgq2, hlq, hnq⟩ | ⟨t', b2, rfl, hb2, rfl, hgt', hto'⟩
    · exact hr.inj p q bp bq gp gq hne hp2 hq2 hrw hgp2 hgq2
    · intro e
      rcases mine t' b2 gq hb2 hgt' with (h | h) | ⟨_, _, h⟩
      · have := hlt p bp gp hp2 hgp2; omega
      · exact apart p bp gp hp2 hgp2 hnp (e ▸ h)
      · have h3 := c.rr _ (hRc _ h)
        obtain ⟨_, _, _, _, _, hx, _⟩ := hr.blk p bp gp hp2 hgp2
        have h4 := (hx hrw).2.1
        rw [e] at h4
        rcases h4 with h4 | h4
        · omega
        · exact h3.2 h4
    · intro e
      obtain ⟨_, _, _, _, _, hx, _⟩ := hr1.blk t b1 gp hb1 hgt
      have h4 : W.heap.size ≤ gp.b ∨ F0 gp.b := (hx hrw).2.1
      rw [e] at h4
      rcases h4 with h4 | h4
      · have := hlt q bq gq hq2 hgq2; omega
      · exact apart q bq gq hq2 hgq2 hnq h4
    · exact hr1.inj t t' b1 b2 gp gq (fun e => hne (e ▸ rfl)) hb1 hb2 hrw hgt hgt'
  · intro k hk hFk
    have hk2 : k < W.heap.size := Nat.lt_of_lt_of_le hk hr.size
    rw [hold k hk2, hr.frame k hk hFk]
    intro h
    rcases hF k h with h | h
    · omega
    · exact hFk h
  · -- the objects
    have eA : ∀ (f f1 : Nat → Nat → Prop) i, i < m.length → (∀ t, ownAt m0 t = true → js.getD t 0 ≠ i) → (fun k => ((i < m.length ∧ ∀ t, ownAt m0 t = true → js.getD t 0 ≠ i) ∧ f i k) ∨ ∃ t, place js m.length t = i ∧ (t < js.length → ownAt m0 t = true) ∧ f1 t k) = f i := by
      intro f f1 i hl hno
      funext k
      refine propext ⟨fun h => ?_, fun h => .inl ⟨⟨hl, hno⟩, h⟩⟩
      rcases h with h | ⟨t, h1, h2, h3⟩
      · exact h.2
      · exfalso
        simp only [place] at h1
        split at h1
        · rename_i ht; exact hno t (h2 ht) h1
        · omega
    have eB : ∀ (f f1 : Nat → Nat → Prop) t, (t < js.length → ownAt m0 t = true) → (fun k => ((place js m.length t < m.length ∧ ∀ t', ownAt m0 t' = true → js.getD t' 0 ≠ place js m.length t) ∧ f (place js m.length t) k) ∨ ∃ t', place js m.length t' = place js m.length t ∧ (t' < js.length → ownAt m0 t' = true) ∧ f1 t' k) = f1 t := by
      intro f f1 t hto
      funext k
      refine propext ⟨fun h => ?_, fun h => .inr ⟨t, rfl, hto, h⟩⟩
      rcases h with ⟨⟨h1, h2⟩, _⟩ | ⟨t', h1, h2, h3⟩
      · exfalso
        by_cases ht : t < js.length
        · simp only [place, if_pos ht] at h2
          exact h2 t (hto ht) rfl
        · simp only [place, if_neg ht] at h1
          omega
      · rw [pinj _ _ h1] at h3; exact h3
    refine ⟨fun i k => ((i < m.length ∧ ∀ t, ownAt m0 t = true → js.getD t 0 ≠ i) ∧ fp i k) ∨ ∃ t, place js m.length t = i ∧ (t < js.length → ownAt m0 t = true) ∧ fp1 t k, fun i k => ((i < m.length ∧ ∀ t, ownAt m0 t = true → js.getD t 0 ≠ i) ∧ rp i k) ∨ ∃ t, place js m.length t = i ∧ (t < js.length → ownAt m0 t = true) ∧ rp1 t k, ?_, ?_, ?_, ?_, ?_, hA.rr, fun i k h => by
      rcases h with ⟨⟨_, hno⟩, h⟩ | ⟨t, _, _, h⟩
      · obtain ⟨o, hc, hm⟩ := hA.cel _ _ h
        exact ⟨o, (hold k (hA.own _ _ h).1 (apartF i k hno h)).trans hc, hm⟩
      · exact hA1.cel _ _ h⟩
    · intro i b gi o hi hgi ho
      rcases split i b gi hi hgi with ⟨hi, hgi, hl, hno⟩ | ⟨t, b1, rfl, hb1, rfl, hgt, hto⟩
      · rw [eA fp fp1 i hl hno, eA rp rp1 i hl hno]
        obtain ⟨q1, q2⟩ := hA.rep i b gi o hi hgi ho
        refine ⟨o.loc q1 fun k hk => ?_, q2⟩
        rcases hk with hk | hk
        · exact hold k (hA.own _ _ hk).1 (apartF i k hno hk)
        · have h1 := hA.ro _ _ hk
          exact hold k (by have := (c.rr k h1).1; have := hr.size; omega) (hRF k h1)
      · rw [eB fp fp1 t hto, eB rp rp1 t hto]
        exact hA1.rep t b1 gi o hb1 hgt ho
    · intro i k h
      rcases h with ⟨_, h⟩ | ⟨t, _, _, h⟩
      · have := hA.own _ _ h
        exact ⟨Nat.lt_of_lt_of_le this.1 hr1.size, this.2⟩
      · have := hA1.own _ _ h
        exact ⟨this.1, ncl k this.2⟩
    · intro i k h
      rcases h with ⟨_, h⟩ | ⟨t, _, _, h⟩
      · exact hA.ro _ _ h
      · exact hRc k (hA1.ro _ _ h)
    · have key : ∀ i k t, (∀ t, ownAt m0 t = true → js.getD t 0 ≠ i) → fp i k → ¬ fp1 t k := by
        intro i k t hno h1 h2
        have h3 := (hA1.own _ _ h2).2
        rcases h3 with h3 | h3
        · have := (hA.own _ _ h1).1
          have h3 : W.heap.size ≤ k := h3
          omega
        · exact apartF i k hno h1 h3
      intro i i' k hne ha hb
      rcases ha with ⟨⟨_, hno⟩, ha⟩ | ⟨t, rfl, _, ha⟩ <;> rcases hb with ⟨⟨_, hno'⟩, hb⟩ | ⟨t', rfl, _, hb⟩
      · exact hA.dis i i' k hne ha hb
      · exact key i k t' hno ha hb
      · exact key i' k t hno' hb ha
      · exact hA1.dis t t' k (fun e => hne (e ▸ rfl)) ha hb
    · intro i b gi i' hi hgi ho h
      rcases split i b gi hi hgi with ⟨hi2, hgi2, hl, hno⟩ | ⟨t, b1, rfl, hb1, rfl, hgt, hto⟩ <;> rcases h with ⟨⟨_, hno'⟩, h⟩ | ⟨t', rfl, _, h⟩
      · exact hA.oth i b gi i' hi2 hgi2 ho h
      · have h3 := (hA1.own _ _ h).2
        rcases h3 with h3 | h3
        · have h3 : W.heap.size ≤ gi.b := h3
          have := hlt i b gi hi2 hgi2; omega
        · exact apart i b gi hi2 hgi2 hno h3
      · rcases mine t b1 gi hb1 hgt with (q | q) | ⟨_, _, q⟩
        · have := (hA.own _ _ h).1; omega
        · exact apartF i' _ hno' h q
        · have h3 := c.rr _ (hRc _ q)
          rcases (hA.own _ _ h).2 with h4 | h4
          · omega
          · exact h3.2 h4
      · exact hA1.oth t b1 gi t' hb1 hgt ho h
  · intro i b gi hi hgi h6 h7
    rcases split i b gi hi hgi with ⟨hi2, hgi2, _, _⟩ | ⟨t, b1, rfl, hb1, rfl, hgt, _⟩
    · exact hr.ro i b gi hi2 hgi2 h6 h7
    · exact hRc _ (hr1.ro t b1 gi hb1 hgt h6 h7)
end Go.AE
end
section
namespace Go.AE
variable {P : Program}
theorem Rel.recell {c : Ctx} {g : List (Option GB)} {m : Mem} {W : World} (hr : Rel P c g m W) {j : Nat} {b : ABlk} (hj : m[j]? = some (some b)) {cells : List Value} (hl : cells.length = b.cells.length) (hc : ∀ l, F2 (SR g) b.cells l → F2 (SR g) cells l) :
    Rel P c g (m.set j (some { b with cells := cells })) W := by
  have hjl := lt_of_getElem? hj
  have src : ∀ (i : Nat) (x : ABlk), (m.set j (some { b with cells := cells }))[i]? = some (some x) → (m[i]? = some (some x)) ∨ (i = j ∧ x = { b with cells := cells }) := by
    intro i x hi
    rw [List.getElem?_set] at hi
    by_cases e : j = i
    · subst e
      rw [if_pos rfl, if_pos hjl] at hi
      simp only [Option.some.injEq] at hi
      exact .inr ⟨rfl, hi.symm⟩
    · rw [if_neg e] at hi
      exact .inl hi
  have src2 : ∀ (i : Nat) (x : ABlk), (m.set j (some { b with cells := cells }))[i]? = some (some x) → ∃ y, m[i]? = some (some y) ∧ y.rw = x.rw ∧ y.ob = x.ob ∧ y.elem = x.elem ∧ y.ex = x.ex := by
    intro i x hi
    rcases src i x hi with h | ⟨rfl, rfl⟩
    · exact ⟨x, h, rfl, rfl, rfl, rfl⟩
    · exact ⟨b, hj, rfl, rfl, rfl, rfl⟩
  refine ⟨by rw [List.length_set]; exact hr.len, ?_, ?_, hr.frame, hr.size, hr.os, hr.tape, hr.output, ?_, ?_⟩
  · intro i x gb hi hgi
    rcases src i x hi with h | ⟨rfl, rfl⟩
    · exact hr.blk i x gb h hgi
    · obtain ⟨cs, fr, hh, hf, hs, hrw, hex⟩ := hr.blk i b gb hj hgi
      refine ⟨cs, fr, hh, ?_, ?_, fun h => ?_, hex⟩
      · show F2 (SR g) cells ((cs.toList.drop gb.base).take cells.length)
        rw [hl]; exact hc _ hf
      · show gb.base + cells.length ≤ cs.size
        rw [hl]; exact hs
      · obtain ⟨q1, q2, q3, q4⟩ := hrw h
        exact ⟨q1, q2, q3, by show cells.length + _ ≤ _; rw [hl]; exact q4⟩
  · intro p q bp bq gp gq hne hp hq hrw hgp hgq
    obtain ⟨y, h1, h2, _⟩ := src2 p bp hp
    obtain ⟨z, h3, _⟩ := src2 q bq hq
    exact hr.inj p q y z gp gq hne h1 h3 (h2.trans hrw) hgp hgq
  · obtain ⟨fp, rp, hA⟩ := hr.objs
    refine ⟨fp, rp, ?_, hA.own, hA.ro, hA.dis, ?_, hA.rr, hA.cel⟩
    · intro i x gb o hi hgi ho
      obtain ⟨y, h1, h2, h3, _⟩ := src2 i x hi
      have := hA.rep i y gb o h1 hgi (h3.trans ho)
      exact ⟨this.1, h2 ▸ this.2⟩
    · intro i x gb i' hi hgi ho
      obtain ⟨y, h1, h2, h3, _⟩ := src2 i x hi
      exact hA.oth i y gb i' h1 hgi (h3.trans ho)
  · intro i x gb hi hgi h1 h2
    obtain ⟨y, h3, h4, h5, _⟩ := src2 i x hi
    exact hr.ro i y gb h3 hgi (h4.trans h1) (h5.trans h2)
theorem F2.setAny {α β : Type} {R : α → β → Prop} {l : List α} {l' : List β} (h : F2 R l l') (i : Nat) {x y : α} (hx : l[i]? = some x) (hxy : ∀ w, R x w → R y w) : F2 R (l.set i y) l' := by
  induction h generalizing i with
  | nil => exact .nil
  | cons hr h ih => cases i with
    | zero =>
      simp only [List.getElem?_cons_zero, Option.some.injEq] at hx
      subst hx
      exact .cons (hxy _ hr) h
    | succ i => exact .cons hr (ih i (by simpa using hx))
theorem SeesP.nilCell {n₀ : Nat} {a : List Value} {m : Mem} {j i : Nat} {b : ABlk} (hj : m[j]? = some (some b)) (hi : b.cells[i]? = some (.slice none 0 0)) (B : Option ABlk) :
    SeesP P n₀ a m a (m.set j (some { b with cells := b.cells.set i (.slice (some ⟨m.length, 0, none⟩) 0 0) }) ++ [B]) := by
  intro c g₀ g A W _ hr ha
  have h1 := hr.ghost B
  have hjl := lt_of_getElem? hj
  have hlen := hr.len
  refine ⟨g ++ [none], ?_, by rw [← List.append_assoc]; exact ha.app⟩
  rw [← List.append_assoc]
  have h2 := h1.recell (j := j) (b := b) (by rw [List.getElem?_append_left hjl]; exact hj) (cells := b.cells.set i (.slice (some ⟨m.length, 0, none⟩) 0 0)) (by simp) (fun l hf => hf.setAny i hi fun w hw => by
    cases hw with
    | slice0 => exact .nilS _ _ _ (by simp only [List.length_append] at hlen ⊢; simp; omega))
  rw [List.set_append_left _ _ hjl] at h2
  exact h2
end Go.AE
end
section
namespace Go.AE
variable {P : Program}
def roundOut (B : Nat) (J : World → Prop) (Jx : Code → World → Prop) (W : World) : Exit → Act → World → Prop
  | .normal, _, W' => KeepsFrom B W W' ∧ J W'
  | .ret, _, W' => KeepsFrom B W W' ∧ Jx .ret W'
  | .exit id, _, W' => KeepsFrom B W W' ∧ Jx (.exit id) W'
  | .goto t, _, W' => KeepsFrom B W W' ∧ Jx (.goto t) W'
  | _, _, _ => False
def IterW (P : Program) (gf : FuncId) (cap : Array Value) (vs : List (List Value)) (Pre : World → Prop) : Prop :=
  (∀ args w, (callFunc gf args).run P w = .ok (.enter gf args) w) ∧
  ∀ (m l : Nat) (J : Nat → World → Prop) (Jx : World → Prop) (W : World), (∀ k W W', J k W → W.grownBy W' none → J k W') → (∀ W W', Jx W → W.grownBy W' none → Jx W') → (∀ k W, J k W → Good W fun _ => False) → (∀ k W, J k W → Pre W) →
    (∀ k v W1, vs[k]? = some v → J k W1 → ∀ m', YieldAt Fence.wide m' P l ⟨v⟩ W1 fun e W' => (e = .returned (.bool true) ∧ J (k + 1) W') ∨ (e = .returned (.bool false) ∧ Jx W')) →
    J 0 W → CallsIn Fence.wide m P gf (#[.func (.yield l) #[] #[]] ++ cap) W fun e W' => (∃ v, e = .returned v) ∧ (J vs.length W' ∨ Jx W')
theorem IterOk.w {gf : FuncId} {vs : List (List Value)} (h : IterOk P gf vs) (Pre : World → Prop) : IterW P gf #[] vs Pre :=
  ⟨h.1, fun m l J Jx W h1 h2 h3 _ h5 h6 => by rw [Array.append_empty]; exact h.2 m l J Jx W h1 h2 h3 h5 h6⟩
theorem range_go {gf : FuncId} {cap : Array Value} {Pre : World → Prop} {vs : List (List Value)} (hit : IterW P gf cap vs Pre) {g : Operand} {ps : Array Tmp} {assign body : Code} {Q : Exit → Act → World → Prop} {a : Act} {w : World} {rm : Nat}
    (hg : a.eval g = .func (.func gf) #[] cap) (hps : ∀ v ∈ vs, v.length = ps.size) (J : Nat → World → Prop) (Jx : Code → World → Prop)
    (hJ : ∀ k W W' row, J k W → W.grownBy W' row → (∀ r, row = some r → w.heap.size ≤ r ∧ ∃ o : Obj, W.heap[r]? = some o ∧ mine o = false) → J k W')
    (hJg : ∀ k W, J k W → Good W fun _ => False) (hJp : ∀ k W, J k W → Pre W)
    (hJx : ∀ c W W' row, Jx c W → W.grownBy W' row → (∀ r, row = some r → w.heap.size ≤ r ∧ ∃ o : Obj, W.heap[r]? = some o ∧ mine o = false) → Jx c W') (h0 : J 0 w)
    (hround : ∀ (k l : Nat) (v : List Value) (W : World) (m : Nat), vs[k]? = some v → J k W →
      assign.wpIn (Fence.wide.inRound l) m P (Exit.then (fun a' W' => KeepsFrom w.heap.size W W' ∧ ∀ W2, W'.grownBy W2 (some l) → w.heap.size ≤ l → (∃ o : Obj, W'.heap[l]? = some o ∧ mine o = false) →
        body.wpIn (Fence.wide.inRound l) m P (roundOut w.heap.size (J (k + 1)) Jx W2) a' W2) (fun _ _ _ => False)) { tmps := (ps.zip ⟨v⟩).foldl (fun t (p, v) => t.setIfInBounds p v) a.tmps, defers := [] } W)
    (hdone : ∀ (D : Nat) (W : World), w.heap.size ≤ D → J vs.length W → W.heap[D]? = some (.deferred (some [])) → Q .normal { a with defers := mark D :: a.defers } W)
    (hstop : ∀ (D : Nat) (c : Code) (W : World), w.heap.size ≤ D → Jx c W → W.heap[D]? = some (.deferred (some [])) → c.wpIn Fence.wide rm P Q { a with defers := mark D :: a.defers } W) :
    (Code.rangeFunc g ps assign body).wpIn Fence.wide rm P Q a w := by
  refine wpIn_rangeFunc ?_
  intro fn hfn
  obtain ⟨B, hB⟩ : ∃ B, B = w.heap.size := ⟨_, rfl⟩
  obtain ⟨R, hR⟩ : ∃ R : LoopState → Option Code → Loop, R = fun st pe => { state := st, pending := pe, fn, tmps := a.tmps, params := ps, assign, body, defers := B } := ⟨_, rfl⟩
  obtain ⟨W1, hW1⟩ : ∃ W1, (w.alloc (.deferred (some []))).alloc (.loop (R .ready none)) = W1 := ⟨_, rfl⟩
  have hl1 : W1.heap[B + 1]? = some (.loop (R .ready none)) := by
    have := World.alloc_heap_new (w.alloc (.deferred (some []))) (.loop (R .ready none))
    rw [World.size_alloc, hW1, ← hB] at this; exact this
  have hd1 : W1.heap[B]? = some (.deferred (some [])) := by
    rw [← hW1, hB]
    exact (Go.RowKit.Below.heap_alloc _ _ _ (by simp)).trans (World.alloc_heap_new w _)
  have hj1 : J 0 W1 := by
    rw [← hW1]
    refine hJ 0 _ _ none (hJ 0 _ _ none h0 (World.grownBy_alloc w _ none) fun r e => by cases e) (World.grownBy_alloc _ _ none) fun r e => by cases e
  refine ⟨B + 1, [mark B], W1, { target := .fn (.func gf) cap, args := #[.func (.yield (B + 1)) #[] #[]] }, W1, gf, #[.func (.yield (B + 1)) #[] #[]] ++ cap, W1, ?_, ?_, ?_, ?_, fun h => (by cases h), ?_⟩
  · rw [← hW1, hR, hB]; exact run_enterLoop_outer _ _ _ _ _
  · simp only [resolve, hg]
    simp [go_sem]
  · intro f' _; trivial
  · simp [invoke, go_sem, hit.1]
  · -- the two blocks of the loop's own
    let Bk : LoopState → Option Code → World → Prop := fun st pe W => W.heap[B + 1]? = some (.loop (R st pe)) ∧ W.heap[B]? = some (.deferred (some []))
    have bkGrow : ∀ st pe W W', Bk st pe W → W.grownBy W' none → Bk st pe W' := fun st pe W W' h hg =>
      ⟨(hg.block _ (Array.getElem?_eq_some_iff.1 h.1).1 (by simp)).trans h.1, (hg.block _ (Array.getElem?_eq_some_iff.1 h.2).1 (by simp)).trans h.2⟩
    have bkKeep : ∀ st pe W W', Bk st pe W → KeepsFrom w.heap.size W W' → Bk st pe W' := fun st pe W W' h hk =>
      ⟨hk.same _ _ (by omega) h.1 rfl, hk.same _ _ (by omega) h.2 rfl⟩
    have bkPut : ∀ st pe st' pe' W, Bk st pe W → Bk st' pe' (W.putObj (B + 1) (.loop (R st' pe'))) := fun st pe st' pe' W h =>
      ⟨World.putObj_heap_same (Array.getElem?_eq_some_iff.1 h.1).1, (World.putObj_heap_other (by omega)).trans h.2⟩
    have rowl : ∀ st pe W, Bk st pe W → ∀ r, some (B + 1) = some r → w.heap.size ≤ r ∧ ∃ o : Obj, W.heap[r]? = some o ∧ mine o = false := fun st pe W h r e => by
      cases e; exact ⟨by omega, _, h.1, rfl⟩
    refine (hit.2 (rm - 1) (B + 1) (fun k W => J k W ∧ Bk .ready none W) (fun W => ∃ c, Jx c W ∧ Bk .done (some c) W) W1
      (fun k W W' h hg => ⟨hJ k W W' none h.1 hg fun r e => (by cases e), bkGrow _ _ _ _ h.2 hg⟩)
      (fun W W' h hg => by obtain ⟨c, h1, h2⟩ := h; exact ⟨c, hJx c W W' none h1 hg fun r e => (by cases e), bkGrow _ _ _ _ h2 hg⟩) (fun k W h => hJg k W h.1) (fun k W h => hJp k W h.1) ?_ ⟨hj1, hl1, hd1⟩).mono ?_
    · rintro k v W hv ⟨hj, hbk⟩ m'
      have hy := run_yield (P := P) (args := ⟨v⟩) hbk.1 (by rw [hR]; exact hps v (List.mem_of_getElem? hv))
      rw [hR] at hy
      refine ⟨fn, _, assign, body, hy, roundIn_of_wpIn hfn (wpIn_mono (hround k (B + 1) v W m' hv hj) ?_)⟩
      intro e a' W' hp
      cases e with
      | normal =>
        obtain ⟨hkf, hb⟩ := hp
        have hbk' := bkKeep _ _ _ _ hbk hkf
        have hrun := run_beginRound (P := P) hbk'.1 (by rw [hR])
        have eR : ({ R .ready none with state := .busy } : Loop) = R .busy none := by rw [hR]
        rw [eR] at hrun
        refine ⟨_, hrun, wpIn_mono (hb _ (grownBy_putObj' _ _ _) (by omega) ⟨_, hbk'.1, rfl⟩) ?_⟩
        have hbk2 := bkPut _ _ .busy none _ hbk'
        have fin : ∀ (jump : Option Code) (W3 : World), KeepsFrom w.heap.size (W'.putObj (B + 1) (.loop (R .busy none))) W3 →
            (Instr.endRound (B + 1) jump).run P W3 = .ok (.bool jump.isNone) (W3.putObj (B + 1) (.loop (R (if jump.isNone then .ready else .done) jump))) ∧ Bk .busy none W3 := fun jump W3 hk3 => by
          have hbk3 := bkKeep _ _ _ _ hbk2 hk3
          have := run_endRound (P := P) jump hbk3.1
          have eR2 : ({ R .busy none with state := if jump.isNone then .ready else .done, pending := jump } : Loop) = R (if jump.isNone then .ready else .done) jump := by rw [hR]
          rw [eR2] at this
          exact ⟨this, hbk3⟩
        intro e a3 W3 hp3
        cases e with
        | normal =>
          obtain ⟨hk3, hj3⟩ := hp3
          obtain ⟨hr, hbk3⟩ := fin none W3 hk3
          exact ⟨_, _, hr, .inl ⟨rfl, hJ _ _ _ _ hj3 (grownBy_putObj' _ _ _) (rowl _ _ _ hbk3), bkPut _ _ _ _ _ hbk3⟩⟩
        | ret =>
          obtain ⟨hk3, hj3⟩ := hp3
          obtain ⟨hr, hbk3⟩ := fin (some .ret) W3 hk3
          exact ⟨_, _, hr, .inr ⟨rfl, .ret, hJx _ _ _ _ hj3 (grownBy_putObj' _ _ _) (rowl _ _ _ hbk3), bkPut _ _ _ _ _ hbk3⟩⟩
        | exit id =>
          obtain ⟨hk3, hj3⟩ := hp3
          obtain ⟨hr, hbk3⟩ := fin (some (.exit id)) W3 hk3
          exact ⟨_, _, hr, .inr ⟨rfl, .exit id, hJx _ _ _ _ hj3 (grownBy_putObj' _ _ _) (rowl _ _ _ hbk3), bkPut _ _ _ _ _ hbk3⟩⟩
        | goto t =>
          obtain ⟨hk3, hj3⟩ := hp3
          obtain ⟨hr, hbk3⟩ := fin (some (.goto t)) W3 hk3
          exact ⟨_, _, hr, .inr ⟨rfl, .goto t, hJx _ _ _ _ hj3 (grownBy_putObj' _ _ _) (rowl _ _ _ hbk3), bkPut _ _ _ _ _ hbk3⟩⟩
        | panic ch => exact hp3.elim
        | outgrown => exact hp3.elim
      | ret => exact hp.elim
      | exit id => exact hp.elim
      | goto t => exact hp.elim
      | panic ch => exact hp.elim
      | outgrown => exact hp.elim
    · rintro e W2 ⟨⟨v, rfl⟩, ⟨hj, hbk⟩ | ⟨c, hj, hbk⟩⟩
      · have hend := run_endLoop (P := P) hbk.1 (by rw [hR]; simp)
        exact ⟨none, _, by rw [hend, hR], hdone B _ (by omega) (hJ _ _ _ _ hj (grownBy_putObj' _ _ _) (rowl _ _ _ hbk)) ((World.putObj_heap_other (by omega)).trans hbk.2)⟩
      · have hend := run_endLoop (P := P) hbk.1 (by rw [hR]; simp)
        exact ⟨some c, _, by rw [hend, hR], hstop B c _ (by omega) (hJx _ _ _ _ hj (grownBy_putObj' _ _ _) (rowl _ _ _ hbk)) ((World.putObj_heap_other (by omega)).trans hbk.2)⟩
end Go.AE
end
section
namespace Go.AE
variable {P : Program}
def obless (m : Mem) : Bool := m.all fun b => match b with
  | some b => b.ob.isNone
  | none => true
theorem obless_ok {m : Mem} (h : obless m = true) {j : Nat} {b : ABlk} (hj : m[j]? = some (some b)) : b.ob = none := by
  have := List.all_eq_true.1 h (some b) (List.mem_of_getElem? hj)
  exact Option.isNone_iff_eq_none.1 this
theorem Rel.rebase {c : Ctx} {g : List (Option GB)} {m : Mem} {W : World} (h : Rel P c g m W) (hno : obless m = true) : ∃ c1 : Ctx, c1.W = W ∧ (∀ k, c1.F k → ∃ cs e x, W.heap[k]? = some (.cells cs e x)) ∧ Ext P c c1 [] ∧ Rel P c1 g m W := by
  let c1 : Ctx := ⟨W, fun k => (c.W.heap.size ≤ k ∨ c.F k) ∧ ∃ cs e x, W.heap[k]? = some (.cells cs e x), c.R, h.goodF (fun k hk => hk.1), fun k hk => ⟨Nat.lt_of_lt_of_le (c.rr k hk).1 h.size, fun hF => by
    have h1 := c.rr k hk
    rcases hF.1 with h2 | h2
    · omega
    · exact h1.2 h2⟩⟩
  have low : ∀ k, W.heap.size ≤ k ∨ c1.F k → c.W.heap.size ≤ k ∨ c.F k := fun k hk => hk.elim (fun h' => .inl (Nat.le_trans h.size h')) fun h' => h'.1
  refine ⟨c1, rfl, fun k hk => hk.2, ⟨fun g' m' W' hr => ?_, h.size, fun k hk hF => ⟨fun h' => ?_, h.frame k hk hF⟩, fun _ hd => (by cases hd), .nil⟩, ?_⟩
  · refine ⟨hr.len, fun j b gb hj hg => ?_, hr.inj, fun k hk hF => ?_, Nat.le_trans h.size hr.size, hr.os.trans h.os, hr.tape.trans h.tape, hr.output.trans h.output, ?_, hr.ro⟩
    · obtain ⟨cs, fr, h1, h2, h3, h4, h5⟩ := hr.blk j b gb hj hg
      refine ⟨cs, fr, h1, h2, h3, fun hw => ?_, h5⟩
      obtain ⟨q1, q2, q3, q4⟩ := h4 hw
      exact ⟨q1, low _ q2, q3, q4⟩
    · refine (hr.frame k (Nat.lt_of_lt_of_le hk h.size) fun h' => ?_).trans (h.frame k hk hF)
      rcases h'.1 with h' | h'
      · omega
      · exact hF h'
    · obtain ⟨fp, rp, hA⟩ := hr.objs
      exact ⟨fp, rp, hA.rep, fun j k hk => ⟨(hA.own j k hk).1, low _ (hA.own j k hk).2⟩, hA.ro, hA.dis, hA.oth, c.rr, hA.cel⟩
  · rcases h'.1 with h' | h'
    · omega
    · exact hF h'
  · refine ⟨h.len, fun j b gb hj hg => ?_, h.inj, fun _ _ _ => rfl, Nat.le_refl _, rfl, rfl, rfl, ?_, h.ro⟩
    · obtain ⟨cs, fr, h1, h2, h3, h4, h5⟩ := h.blk j b gb hj hg
      refine ⟨cs, fr, h1, h2, h3, fun hw => ?_, h5⟩
      obtain ⟨q1, q2, q3, q4⟩ := h4 hw
      exact ⟨q1, .inr ⟨q2, _, _, _, h1⟩, q3, q4⟩
    · exact Objs.no (fun j b gb hj _ => obless_ok hno hj) c1.rr
theorem Rel.keeps {c : Ctx} {g : List (Option GB)} {m : Mem} {W W' : World} (h : Rel P c g m W') (hW : c.W = W) (hF : ∀ k, c.F k → ∃ cs e x, W.heap[k]? = some (.cells cs e x)) (B : Nat) : KeepsFrom B W W' := by
  subst hW
  refine ⟨h.size, fun k o _ hk ho => ?_⟩
  refine (h.frame k (Array.getElem?_eq_some_iff.1 hk).1 fun h' => ?_).trans hk
  obtain ⟨cs, e, x, hc⟩ := hF k h'
  rw [hk] at hc
  cases hc
  cases ho
def setPs (a : List Value) : List (Tmp × Value) → List Value
  | [] => a
  | (t, v) :: l => setPs (a.set t v) l
theorem setPs_rel {g : List (Option GB)} : ∀ (l : List (Tmp × Value)) (a : List Value) (A : Array Value), F2 (VR g) a A.toList → (∀ p ∈ l, plainC p.2 = true) → F2 (VR g) (setPs a l) (l.foldl (fun t (p : Tmp × Value) => t.setIfInBounds p.1 p.2) A).toList
  | [], _, _, h, _ => h
  | (t, v) :: l, a, A, h, hp => by
    refine setPs_rel l _ _ ?_ fun p hp' => hp p (List.mem_cons_of_mem _ hp')
    rw [Array.toList_setIfInBounds]
    exact h.set t (.plain g (hp (t, v) List.mem_cons_self))
def exitOf : Code → Option Exit
  | .ret => some .ret
  | .exit id => some (.exit id)
  | .goto t => some (.goto t)
  | _ => none
def keepsB (bl : List (Nat × ABlk)) (m : Mem) : Prop := ∀ p ∈ bl, m[p.1]? = some (some p.2)
def IterAb (P : Program) (gf : FuncId) (caps : List Value) (bl : List (Nat × ABlk)) (vs : List (List Value)) : Prop :=
  ∀ (c : Ctx) (g : List (Option GB)) (m : Mem) (W : World) (rc : List Value), Rel P c g m W → F2 (AR0 g) caps rc → keepsB bl m → IterW P gf ⟨rc⟩ vs fun W' => ∃ (c' : Ctx) (m' : Mem) (gx : List (Option GB)), Rel P c' (g ++ gx) m' W' ∧ keepsB bl m'
theorem IterOk.ab {gf : FuncId} {vs : List (List Value)} (h : IterOk P gf vs) : IterAb P gf [] [] vs := fun c g m W rc _ hc _ => by
  cases hc
  exact h.w _
def RangeR (P : Program) (n₁ : Nat) (bl : List (Nat × ABlk)) (ps : List Tmp) (assign body : Code) (K : Exit → List Value → Mem → Prop) (a : List Value) : List (List Value) → Mem → Prop
  | [], m => obless m = true ∧ keepsB bl m ∧ K .normal a m
  | v :: vs, m => obless m = true ∧ keepsB bl m ∧ AWp P n₁ assign (fun e a1 m1 => e = .normal ∧ obless m1 = true ∧ AWp P n₁ body (fun e2 _ m2 => match e2 with
    | .normal => RangeR P n₁ bl ps assign body K a vs m2
    | .ret => obless m2 = true ∧ K .ret a m2
    | .exit id => obless m2 = true ∧ K (.exit id) a m2
    | .goto t => obless m2 = true ∧ K (.goto t) a m2
    | _ => False) a1 m1) (setPs a (ps.zip v)) m
theorem RangeR.no {n₁ : Nat} {bl : List (Nat × ABlk)} {ps : List Tmp} {assign body : Code} {K : Exit → List Value → Mem → Prop} {a : List Value} {vs : List (List Value)} {m : Mem} (h : RangeR P n₁ bl ps assign body K a vs m) : obless m = true ∧ keepsB bl m := by
  cases vs with
  | nil => exact ⟨h.1, h.2.1⟩
  | cons v vs => exact ⟨h.1, h.2.1⟩
theorem AWp.range {n₀ : Nat} {gf : FuncId} {caps : List Value} {bl : List (Nat × ABlk)} {vs : List (List Value)} (hit : IterAb P gf caps bl vs) {g : Operand} {ps : Array Tmp} {assign body : Code} {K : Exit → List Value → Mem → Prop} {a : List Value} {m : Mem}
    (hg : aeval a g = .func (.func gf) #[] ⟨caps⟩) (hps : ∀ v ∈ vs, v.length = ps.size) (hpl : ∀ v ∈ vs, ∀ x ∈ v, plainC x = true) (hca : calmC assign = true) (hcb : calmC body = true)
    (h : RangeR P m.length bl ps.toList assign body K a vs m) : AWp P n₀ (.rangeFunc g ps assign body) K a m := by
  intro c g₀ gg A W hn hr ha ds ro rm hc
  obtain rfl : ro = none := hc.elim (fun h => h) fun h => by cases h
  obtain ⟨c1, hW1, hF1, hx1, hr1⟩ := hr.rebase h.no.1
  have hlen : (g₀ ++ gg).length = m.length := hr.len
  obtain ⟨rc, hgA, hrc⟩ : ∃ rc, (addD A ds).eval g = .func (.func gf) #[] ⟨rc⟩ ∧ F2 (AR0 (g₀ ++ gg)) caps rc := by
    have h1 := ha.eval g
    rw [hg] at h1
    rw [addD_eval]
    generalize A.eval g = w at h1 ⊢
    cases h1 with
    | a h1 => cases h1 with
      | s h1 => cases h1 with
        | func _ => exact ⟨[], rfl, .nil⟩
        | clo _ h2 h3 => cases h2; exact ⟨_, rfl, h3⟩
  obtain ⟨g1, hg1⟩ : ∃ g1, g1 = g₀ ++ gg := ⟨_, rfl⟩
  rw [← hg1] at hr1 hlen ha hrc
  have hsz : c1.W.heap.size = W.heap.size := by rw [hW1]
  -- the end: the loop's own mark stays in the frame
  have fin : ∀ (D : Nat) (W' : World) (e : Exit) (m' : Mem) (gx : List (Option GB)), W.heap.size ≤ D → Rel P c1 (g1 ++ gx) m' W' → obless m' = true ∧ K e a m' → W'.heap[D]? = some (.deferred (some [])) → PostM P c g₀ ds K e { addD A ds with defers := mark D :: (addD A ds).defers } W' := by
    intro D W' e m' gx hD hr' hk hd
    obtain ⟨c5, hW5, hF5, hx5, hr5⟩ := hr'.rebase hk.1
    have hk := hk.2
    have hx := hx1.trans hx5
    refine ⟨a, m', gg ++ gx, c5, [mark D], hk, ⟨hx.back, hx.size, hx.fr, fun d hd' => ?_, List.pairwise_singleton _ _⟩, by rw [← List.append_assoc, ← hg1]; exact hr5, ?_, ?_⟩
    · obtain rfl := List.mem_singleton.1 hd'
      refine ⟨D, rfl, Nat.le_trans hr.size hD, by rw [hW5]; exact (Array.getElem?_eq_some_iff.1 hd).1, fun h' => ?_, by rw [hW5]; exact hd⟩
      obtain ⟨cs, e', x, hc'⟩ := hF5 D h'
      rw [hd] at hc'; cases hc'
    · rw [← List.append_assoc, ← hg1]
      exact (ha.app (g' := gx)).tmps
    · show mark D :: (A.defers ++ ds) = [mark D] ++ ds
      rw [ha.defers]; rfl
  refine range_go (hit c1 g1 m W rc hr1 hrc h.no.2) hgA hps (fun k W' => ∃ m' gx, Rel P c1 (g1 ++ gx) m' W' ∧ RangeR P m.length bl ps.toList assign body K a (vs.drop k) m') (fun cd W' => ∃ m' gx e, exitOf cd = some e ∧ Rel P c1 (g1 ++ gx) m' W' ∧ obless m' = true ∧ K e a m')
    (fun k W1 W2 row h hgr hrow => ?_) (fun k W h => by obtain ⟨_, _, h1, _⟩ := h; exact h1.good) (fun k W h => by obtain ⟨m', gx, h1, h2⟩ := h; exact ⟨c1, m', gx, h1, h2.no.2⟩) (fun cd W1 W2 row h hgr hrow => ?_) ⟨m, [], by simpa using hr1, by simpa using h⟩ ?_ ?_ ?_
  · obtain ⟨m', gx, h1, h2⟩ := h
    exact ⟨m', gx, h1.grow hgr fun r e => by rw [hsz]; exact hrow r e, h2⟩
  · obtain ⟨m', gx, e, h0, h1, h2⟩ := h
    exact ⟨m', gx, e, h0, h1.grow hgr fun r e => by rw [hsz]; exact hrow r e, h2⟩
  · rintro k l v W' m2 hv ⟨m', gx, hr', hrd⟩
    have hkl : k < vs.length := (List.getElem?_eq_some_iff.1 hv).1
    have hv' : vs[k] = v := (List.getElem?_eq_some_iff.1 hv).2
    rw [List.drop_eq_getElem_cons hkl, hv'] at hrd
    obtain ⟨c2, hW2, hF2, hx2, hr2⟩ := hr'.rebase hrd.1
    have hrd := hrd.2.2
    have hfr : ARel (g1 ++ gx) (setPs a (ps.toList.zip v)) { tmps := (ps.zip ⟨v⟩).foldl (fun t (p, v) => t.setIfInBounds p v) A.tmps, defers := [] } := by
      refine ⟨?_, rfl⟩
      have h1 := setPs_rel (ps.toList.zip v) a A.tmps (ha.app (g' := gx)).tmps fun p hp => hpl v (List.mem_of_getElem? hv) _ (List.of_mem_zip hp).2
      have h2 : (ps.zip ⟨v⟩).foldl (fun t (p, v) => t.setIfInBounds p v) A.tmps = (ps.toList.zip v).foldl (fun t (p : Tmp × Value) => t.setIfInBounds p.1 p.2) A.tmps := by
        rw [← Array.foldl_toList, Array.toList_zip]
      show F2 _ _ (Array.toList _)
      rw [h2]; exact h1
    refine wpIn_mono (hrd c2 g1 gx _ W' hlen hr2 hfr [] (some l) m2 (.inr hca)) ?_
    intro e A' Wa hp
    obtain ⟨a1, m1, gx1, c3, ds3, A0, ⟨rfl, hno1, hb⟩, hx3, hr3, ha3, rfl⟩ := hp.next
    have hra : Rel P c2 (g1 ++ gx1) m1 Wa := hx3.back _ _ _ hr3
    refine ⟨hra.keeps hW2 hF2 _, fun Wb hgr hl ho => ?_⟩
    have hrb : Rel P c1 (g1 ++ gx1) m1 Wb := (hx2.back _ _ _ hra).grow hgr fun r e => by cases e; rw [hsz]; exact ⟨hl, ho⟩
    obtain ⟨c4, hW4, hF4, hx4, hr4⟩ := hrb.rebase hno1
    refine wpIn_mono (hb c4 g1 gx1 A0 Wb hlen hr4 ha3 (ds3 ++ []) (some l) m2 (.inr hcb)) ?_
    intro e A3 W3 hp3
    obtain ⟨a3, m3, gx3, c6, ds6, A6, hk, hx6, hr6, _, rfl⟩ := hp3.next
    have hr6' : Rel P c4 (g1 ++ gx3) m3 W3 := hx6.back _ _ _ hr6
    have hkf := hr6'.keeps hW4 hF4 W.heap.size
    have hr7 := hx4.back _ _ _ hr6'
    cases e with
    | normal => exact ⟨hkf, m3, gx3, hr7, hk⟩
    | ret => exact ⟨hkf, m3, gx3, .ret, rfl, hr7, hk⟩
    | exit id => exact ⟨hkf, m3, gx3, .exit id, rfl, hr7, hk⟩
    | goto t => exact ⟨hkf, m3, gx3, .goto t, rfl, hr7, hk⟩
    | panic ch => exact hk.elim
    | outgrown => exact hk.elim
  · rintro D W' hD ⟨m', gx, hr', hrd⟩ hd
    rw [List.drop_length] at hrd
    exact fin D W' .normal m' gx hD hr' ⟨hrd.1, hrd.2.2⟩ hd
  · rintro D cd W' hD ⟨m', gx, e, he, hr', hk⟩ hd
    have := fin D W' e m' gx hD hr' hk hd
    unfold exitOf at he
    split at he <;> simp only [Option.some.injEq, reduceCtorEq] at he <;> subst he
    · exact wpIn_ret this
    · exact wpIn_exit this
    · exact wpIn_goto this
end Go.AE
end
section
namespace Go.AE
set_option linter.unusedSimpArgs false
set_option linter.unusedVariables false
variable {P : Program}
structure It where
  i : Nat
  light : Bool
def dstAt (all : List Oper) (j : Nat) : Option Tmp := (all[j]?).bind (·.dst)
def hideL {α : Type} (z : α) (ts : List Nat) (a : List α) : List α := ts.foldl (fun a t => a.set t z) a
theorem hideL_len {α : Type} {z : α} : ∀ (ts : List Nat) (a : List α), (hideL z ts a).length = a.length
  | [], _ => rfl
  | t :: ts, a => (hideL_len ts (a.set t z)).trans (by simp)
theorem hideL_not {α : Type} {z : α} : ∀ (ts : List Nat) (a : List α) (t : Nat), t ∉ ts → (hideL z ts a)[t]? = a[t]?
  | [], _, _, _ => rfl
  | s :: ts, a, t, h => by
    simp only [List.mem_cons, not_or] at h
    show (hideL z ts (a.set s z))[t]? = _
    rw [hideL_not ts _ t h.2, List.getElem?_set_ne (fun e => h.1 e.symm)]
theorem hideL_mem {α : Type} {z : α} : ∀ (ts : List Nat) (a : List α) (t : Nat) (v : α), t ∈ ts → (hideL z ts a)[t]? = some v → v = z
  | s :: ts, a, t, v, h, hv => by
    have hv : (hideL z ts (a.set s z))[t]? = some v := hv
    by_cases ht : t ∈ ts
    · exact hideL_mem ts _ t v ht hv
    · rw [hideL_not ts _ t ht] at hv
      rcases List.mem_cons.1 h with rfl | h
      · rw [List.getElem?_set] at hv
        split at hv
        · split at hv
          · cases hv; rfl
          · cases hv
        · rename_i hn; exact (hn rfl).elim
      · exact (ht h).elim
def hidT (all : List Oper) (cls : List (List Nat)) (i : Nat) : List Nat :=
  (List.range all.length).filterMap fun j => bif Nat.beq j i || (memN (cls.getD i []) j || memN (cls.getD j []) i) then none else dstAt all j
theorem dstAt_lt {all : List Oper} {j : Nat} {t : Tmp} (h : dstAt all j = some t) : j < all.length := by
  unfold dstAt at h
  cases hj : all[j]? with
  | none => rw [hj] at h; cases h
  | some o => exact lt_of_getElem? hj
theorem hidT_not {all : List Oper} {cls : List (List Nat)} {i j : Nat} {t : Tmp} (hd : dstAt all j = some t) (h : t ∉ hidT all cls i) : j = i ∨ j ∈ cls.getD i [] ∨ i ∈ cls.getD j [] := by
  cases hq : Nat.beq j i || (memN (cls.getD i []) j || memN (cls.getD j []) i) with
  | true =>
    simp only [Bool.or_eq_true] at hq
    rcases hq with hq | hq | hq
    · exact .inl (Nat.eq_of_beq_eq_true hq)
    · exact .inr (.inl (memN_iff.1 hq))
    · exact .inr (.inr (memN_iff.1 hq))
  | false =>
    exfalso
    refine h (List.mem_filterMap.2 ⟨j, List.mem_range.2 (dstAt_lt hd), ?_⟩)
    rw [hq]; exact hd
theorem hidT_mem {all : List Oper} {cls : List (List Nat)} {i : Nat} {t : Tmp} (h : t ∈ hidT all cls i) : ∃ j, dstAt all j = some t ∧ j ≠ i ∧ j ∉ cls.getD i [] ∧ i ∉ cls.getD j [] := by
  obtain ⟨j, _, hj⟩ := List.mem_filterMap.1 h
  cases hq : Nat.beq j i || (memN (cls.getD i []) j || memN (cls.getD j []) i) with
  | true => rw [hq] at hj; cases hj
  | false =>
    rw [hq] at hj
    simp only [Bool.or_eq_false_iff] at hq
    refine ⟨j, hj, fun e => ?_, fun e => ?_, fun e => ?_⟩
    · rw [e] at hq; have := hq.1; rw [Nat.beq_refl] at this; cases this
    · rw [memN_iff.2 e] at hq; exact absurd hq.2.1 (by simp)
    · rw [memN_iff.2 e] at hq; exact absurd hq.2.2 (by simp)
def takeD (a : List Value) (dst : Option Tmp) (a' : List Value) : List Value := match dst with
  | some d => a.set d (a'.getD d topV)
  | none => a
theorem takeD_put {a ah : List Value} (hl : ah.length = a.length) (dst : Option Tmp) (v : Value) : takeD a dst (putA ah dst v) = putA a dst v := by
  cases dst with
  | none => rfl
  | some d =>
    show a.set d ((ah.set d v).getD d topV) = a.set d v
    rcases Nat.lt_or_ge d a.length with h | h
    · rw [List.getD_eq_getElem?_getD, List.getElem?_set_self (by omega)]; rfl
    · rw [List.set_eq_of_length_le h, List.set_eq_of_length_le h]
def evFr (P : Program) (n₀ : Nat) (T : Tab P) (all : List Oper) (cls : List (List Nat)) : List It → List Value → Mem → List (Nat × List Nat) → (List Value → Mem → Prop) → Prop
  | [], a, m, _, k => k a m
  | ⟨i, true⟩ :: R, a, m, pd, k => ∃ o v js, all[i]? = some o ∧ lightOp o.op = true ∧ FlG P T o all (hideL topV (hidT all cls i) a) (onlyB js m) v ∧ evFr P n₀ T all cls R (putA a o.dst v) m ((i, js) :: pd) k
  | ⟨i, false⟩ :: R, a, m, pd, k => ∃ o, all[i]? = some o ∧ evOps (propA P n₀).toOps T all [o] (hideL topV (hidT all cls i) a) m fun a' m' => (∀ f ∈ pd, f.1 ∉ cls.getD i [] → ∀ j ∈ f.2, j < m.length → m'[j]? = m[j]?) ∧ evFr P n₀ T all cls R (takeD a o.dst a') m' pd k
def ordOk (all : List Oper) : List It → List Nat → Bool
  | [], E => (List.range all.length).all (memN E)
  | it :: R, E => (match all[it.i]? with
    | some o => (waits o).all (memN E) && !memN E it.i
    | none => false) && ((it.light || (List.range all.length).all fun j => Nat.beq j it.i || (memN E j || (match all[j]? with | some oj => !((waits oj).all (memN E)) | none => true))) && ordOk all R (it.i :: E))
def nodupO : List (Option Tmp) → Bool
  | [] => true
  | none :: l => nodupO l
  | some t :: l => !(l.any fun x => match x with | some s => Nat.beq s t | none => false) && nodupO l
theorem nodupO_ok : ∀ {l : List (Option Tmp)} {i j : Nat} {t : Tmp}, nodupO l = true → l[i]? = some (some t) → l[j]? = some (some t) → i = j
  | [], _, _, _, _, h, _ => by simp at h
  | x :: l, i, j, t, hn, hi, hj => by
    have tl : nodupO l = true := by
      cases x with
      | none => exact hn
      | some s => unfold nodupO at hn; rw [Bool.and_eq_true] at hn; exact hn.2
    have hd : ∀ k : Nat, l[k]? = some (some t) → x ≠ some t := by
      rintro k hk rfl
      unfold nodupO at hn
      rw [Bool.and_eq_true, Bool.not_eq_true'] at hn
      have := hn.1
      rw [← Bool.not_eq_true, List.any_eq_true] at this
      exact this ⟨some t, List.mem_of_getElem? hk, Nat.beq_refl t⟩
    cases i with
    | zero =>
      cases j with
      | zero => rfl
      | succ j => simp at hi hj; exact (hd j hj hi).elim
    | succ i =>
      cases j with
      | zero => simp at hi hj; exact (hd i hi hj).elim
      | succ j => simp at hi hj; rw [nodupO_ok tl hi hj]
def freeOk (all : List Oper) (cls : List (List Nat)) (R : List It) : Bool := noSel all && (clsOk all cls && (nodupO (all.map (·.dst)) && ordOk all R []))
theorem dst_inj {all : List Oper} (h : nodupO (all.map (·.dst)) = true) {i j : Nat} {t : Tmp} (hi : dstAt all i = some t) (hj : dstAt all j = some t) : i = j := by
  have key : ∀ k, dstAt all k = some t → (all.map (·.dst))[k]? = some (some t) := fun k hk => by
    unfold dstAt at hk
    rw [List.getElem?_map]
    cases hk2 : all[k]? with
    | none => rw [hk2] at hk; cases hk
    | some o => rw [hk2] at hk; exact congrArg some hk
  exact nodupO_ok h (key i hi) (key j hj)
theorem cls_in {all : List Oper} {cls : List (List Nat)} (hc : clsOk all cls = true) {E : List Nat} (hE : ∀ j ∈ E, ∀ o, all[j]? = some o → ∀ w ∈ waits o, w ∈ E) : ∀ (n i : Nat) (o : Oper), i < n → all[i]? = some o → (∀ j ∈ waits o, j ∈ E) → ∀ x ∈ cls.getD i [], x ∈ E
  | 0, i, _, hi, _, _, _, _ => by omega
  | n + 1, i, o, hi, ho, hw, x, hx => by
    have hil := lt_of_getElem? ho
    have h0 := List.all_eq_true.1 hc i (List.mem_range.2 hil)
    rw [ho] at h0
    simp only [Bool.and_eq_true] at h0
    have h1 := List.all_eq_true.1 h0.2 x hx
    rw [Bool.or_eq_true] at h1
    rcases h1 with h1 | h1
    · exact hw x (memN_iff.1 h1)
    · rw [List.any_eq_true] at h1
      obtain ⟨j, hj, hxj⟩ := h1
      have hji : j < i := by
        have := List.all_eq_true.1 h0.1 j hj
        rw [Nat.blt_eq] at this; exact this
      have hoj : all[j]? = some all[j] := List.getElem?_eq_getElem (by omega)
      exact cls_in hc hE n j all[j] (by omega) hoj (hE j (hw j hj) _ hoj) x (memN_iff.1 hxj)
theorem OpDone.upon3 {c : Ctx} {g₀ g : List (Option GB)} {o : Oper} {A : Act} {N : Value → Mem → Prop} {next : Act → World → Prop} {Q : Exit → Act → World → Prop} {r : Result Next}
    (h : OpDone P c g₀ g N r)
    (hn : ∀ v w m' x W', N v m' → Rel P c (g₀ ++ (g ++ x)) m' W' → VR (g₀ ++ (g ++ x)) v w → next (A.put o.dst w) W') (hu : ∀ g' : List (Option GB), VR g' Go.undef Go.undef) : o.upon P A next Q r := by
  unfold OpDone at h
  split at h
  · obtain ⟨v, m', g', hN, hr, hv⟩ := h
    exact hn _ _ _ _ _ hN hr hv
  · obtain ⟨m', g', hN, hr⟩ := h
    exact hn _ _ _ _ _ hN hr (hu _)
  · simp only [Oper.upon]
    refine h.mono ?_
    rintro e W'' ⟨v, w, m', g', rfl, hN, hr, hv⟩
    exact hn _ _ _ _ _ hN hr hv
  · exact h.elim
theorem evOps_head3 {n₀ : Nat} {T : Tab P} {all : List Oper} {c : Ctx} {g₀ : List (Option GB)} {Q : Exit → Act → World → Prop} {o : Oper} {a : List Value} {m : Mem} {k : List Value → Mem → Prop}
    (h : evOps (propA P n₀).toOps T all [o] a m k) {g : List (Option GB)} {A : Act} {W : World} (hr : Rel P c (g₀ ++ g) m W) (ha : ARel (g₀ ++ g) a A) {K : Act → World → Prop}
    (hK : ∀ v w m' x W', k (putA a o.dst v) m' → Rel P c (g₀ ++ (g ++ x)) m' W' → VR (g₀ ++ (g ++ x)) v w → K (A.put o.dst w) W') :
    if Region.wanted o (yielded all.toArray A.tmps) then o.wp P A W K Q else K (A.put o.dst undef) W := by
  have nilE : ∀ a m, evOps (propA P n₀).toOps T all [] a m k → k a m := fun a m h => by
    simp only [evOps, forceL_eq, forceM_eq] at h; exact h
  have main : (propA P n₀).holds (evOp (propA P n₀).toOps T o.op (aeval a) m fun v m' => laid a o.dst v m' fun a m => evOps (propA P n₀).toOps T all [] a m k) → o.wp P A W K Q := by
    intro h
    simp only [laid_eq] at h
    have := evOp_ok (o := o) h hr (fun x => ha.eval x)
    exact OpDone.upon3 (N := fun v m' => evOps (propA P n₀).toOps T all [] (putA a o.dst v) m' k) this (fun v w m' x W' hN => hK v w m' x W' (nilE _ _ hN)) fun g' => VR.undef _
  have hr0 : Rel P c (g₀ ++ (g ++ [])) m W := by rw [List.append_nil]; exact hr
  unfold evOps at h
  split at h
  · rename_i hg
    rw [if_pos (by simp [Region.wanted, hg])]
    exact main h
  · rename_i j want hg
    split at h
    case h_3 => exact absurd h (propA P n₀).fl_ok
    case h_2 =>
      rename_i xs hb
      rw [laid_eq] at h
      rw [if_neg (by simp [Region.wanted, hg, yields_none ha hb])]
      exact hK _ _ _ _ _ (nilE _ _ h) hr0 (.undef _)
    rename_i b hb
    obtain ⟨h1, h2⟩ := (propA P n₀).br_ok _ _ _ h
    rw [laid_eq] at h2
    have hy := yields_bool ha hb
    by_cases hbw : b = want
    · subst hbw
      rw [if_pos (by simp [Region.wanted, hg, hy])]
      exact main (h1 (by simp))
    · rw [if_neg (by simp [Region.wanted, hg, hy, hbw])]
      exact hK _ _ _ _ _ (nilE _ _ (h2 (by simpa using hbw))) hr0 (.undef _)
structure Pd where
  i : Nat
  js : List Nat
  o : Oper
  v : Value
  ah : List Value
  mi : Mem
  G : List (Option GB)
structure PdOk (P : Program) (T : Tab P) (all : List Oper) (cls : List (List Nat)) (L : List Nat) (a : List Value) (m : Mem) (A : Act) (p : Pd) : Prop where
  ho : all[p.i]? = some p.o
  lt : lightOp p.o.op = true
  fl : FlG P T p.o all p.ah (onlyB p.js p.mi) p.v
  len : p.ah.length = A.tmps.size
  vis : ∀ t v w, p.ah[t]? = some v → A.tmps[t]? = some w → VR p.G v w ∨ ∃ j ∈ cls.getD p.i [], j ∉ L ∧ dstAt all j = some t
  hid : ∀ t v, t ∈ hidT all cls p.i → p.ah[t]? = some v → v = topV
  agr : ∀ j ∈ cls.getD p.i [], ∀ t, dstAt all j = some t → p.ah[t]? = a[t]?
  val : ∀ d v, dstAt all p.i = some d → a[d]? = some v → v = p.v
  gl : p.G.length = p.mi.length
  low : ∀ (j : Nat) (b : ABlk) (gb : GB), p.mi[j]? = some (some b) → p.G[j]? = some (some gb) → b.cells.all (lowS p.G.length) = true
  blk : ∀ j ∈ p.js, j < p.mi.length → m[j]? = p.mi[j]?
structure FInv (P : Program) (n₀ : Nat) (T : Tab P) (all : List Oper) (cls : List (List Nat)) (c : Ctx) (g₀ : List (Option GB)) (k : List Value → Mem → Prop) (R : List It) (E L : List Nat) (a : List Value) (m : Mem) (A : Act) (W : World) (pds : List Pd) (g : List (Option GB)) : Prop where
  ev : evFr P n₀ T all cls R a m (pds.map fun p => (p.i, p.js)) k
  rel : Rel P c (g₀ ++ g) m W
  dfr : A.defers = []
  len : a.length = A.tmps.size
  ord : ordOk all R E = true
  sub : ∀ j ∈ L, j ∈ E
  ran : ∀ j ∈ E, j < all.length
  ecl : ∀ j ∈ E, ∀ o, all[j]? = some o → ∀ w ∈ waits o, w ∈ E
  lcl : ∀ j ∈ L, ∀ o, all[j]? = some o → ∀ w ∈ waits o, w ∈ L
  pdE : ∀ j ∈ E, j ∉ L → ∃ p ∈ pds, p.i = j
  full : ∀ t v w, a[t]? = some v → A.tmps[t]? = some w → VR (g₀ ++ g) v w ∨ ∃ j ∈ E, j ∉ L ∧ dstAt all j = some t
  pok : ∀ p ∈ pds, p.i ∉ L → PdOk P T all cls L a m A p
  pin : ∀ p ∈ pds, p.i ∈ E ∧ ∀ x ∈ cls.getD p.i [], x ∈ E
  gx : ∀ p ∈ pds, ∃ x, g₀ ++ g = p.G ++ x
  pre : ∀ p ∈ pds, ∀ q ∈ pds, p.i ∈ cls.getD q.i [] → ∃ y, q.G = p.G ++ y
theorem put_get {A : Act} {dst : Option Tmp} {w u : Value} {t : Nat} (h : (A.put dst w).tmps[t]? = some u) : (dst = some t ∧ u = w) ∨ (dst ≠ some t ∧ A.tmps[t]? = some u) := by
  cases dst with
  | none => exact .inr ⟨by simp, h⟩
  | some d =>
    have h : (A.tmps.setIfInBounds d w)[t]? = some u := h
    by_cases hd : d = t
    · subst hd
      rw [Array.getElem?_setIfInBounds_self] at h
      split at h
      · cases h; exact .inl ⟨rfl, rfl⟩
      · cases h
    · rw [Array.getElem?_setIfInBounds_ne hd] at h
      exact .inr ⟨by simpa using hd, h⟩
theorem putA_get {a : List Value} {dst : Option Tmp} {w u : Value} {t : Nat} (h : (putA a dst w)[t]? = some u) : (dst = some t ∧ u = w) ∨ (dst ≠ some t ∧ a[t]? = some u) := by
  cases dst with
  | none => exact .inr ⟨by simp, h⟩
  | some d =>
    have h : (a.set d w)[t]? = some u := h
    by_cases hd : d = t
    · subst hd
      rw [List.getElem?_set] at h
      split at h
      · split at h
        · cases h; exact .inl ⟨rfl, rfl⟩
        · cases h
      · rename_i hn; exact (hn rfl).elim
    · rw [List.getElem?_set_ne hd] at h
      exact .inr ⟨by simpa using hd, h⟩
theorem putA_ne {a : List Value} {dst : Option Tmp} {w : Value} {t : Nat} (h : dst ≠ some t) : (putA a dst w)[t]? = a[t]? := by
  cases dst with
  | none => rfl
  | some d => exact List.getElem?_set_ne (fun e => h (by rw [e]))
theorem putA_len (a : List Value) (dst : Option Tmp) (w : Value) : (putA a dst w).length = a.length := by
  cases dst with
  | none => rfl
  | some d => simp [putA]
theorem put_size (A : Act) (dst : Option Tmp) (w : Value) : (A.put dst w).tmps.size = A.tmps.size := by
  cases dst with
  | none => rfl
  | some d => simp [Act.put]
theorem put_defers (A : Act) (dst : Option Tmp) (w : Value) : (A.put dst w).defers = A.defers := by cases dst <;> rfl
theorem frame_of {g : List (Option GB)} {a : List Value} {A : Act} (hl : a.length = A.tmps.size) (hd : A.defers = []) (h : ∀ (t : Nat) v w, a[t]? = some v → A.tmps[t]? = some w → VR g v w) : ARel g a A :=
  ⟨F2.of_get (by rw [hl]; simp) fun t v w h1 h2 => h t v w h1 (by simpa using h2), hd⟩
variable {n₀ : Nat} {T : Tab P} {all : List Oper} {cls : List (List Nat)} {c : Ctx} {g₀ : List (Option GB)} {k : List Value → Mem → Prop}
theorem ord_cons {it : It} {R : List It} {E : List Nat} (h : ordOk all (it :: R) E = true) : ∃ o, all[it.i]? = some o ∧ (∀ j ∈ waits o, j ∈ E) ∧ it.i ∉ E ∧ (it.light = true ∨ ∀ j o, all[j]? = some o → j ≠ it.i → j ∉ E → ¬ ∀ w ∈ waits o, w ∈ E) ∧ ordOk all R (it.i :: E) = true := by
  unfold ordOk at h
  simp only [Bool.and_eq_true] at h
  obtain ⟨h1, h2, h3⟩ := h
  split at h1
  case h_2 => cases h1
  rename_i o ho
  simp only [Bool.and_eq_true, Bool.not_eq_true'] at h1
  refine ⟨o, ho, fun j hj => memN_iff.1 (List.all_eq_true.1 h1.1 j hj), fun hm => (by have h2 := h1.2; rw [memN_iff.2 hm] at h2; cases h2), ?_, h3⟩
  rw [Bool.or_eq_true] at h2
  rcases h2 with h2 | h2
  · exact .inl h2
  · refine .inr fun j oj hj hne hE hw => ?_
    have := List.all_eq_true.1 h2 j (List.mem_range.2 (lt_of_getElem? hj))
    rw [hj] at this
    simp only [Bool.or_eq_true, Bool.not_eq_true'] at this
    rcases this with h | h | h
    · exact hne (Nat.eq_of_beq_eq_true h)
    · exact hE (memN_iff.1 h)
    · rw [← Bool.not_eq_true, List.all_eq_true] at h
      exact h fun w hw' => memN_iff.2 (hw w hw')
theorem FInv.settle (hcl : clsOk all cls = true) (hnd : nodupO (all.map (·.dst)) = true) {i : Nat} {R : List It} {E L : List Nat} {a : List Value} {m : Mem} {A : Act} {W : World} {pds : List Pd} {g : List (Option GB)}
    (h : FInv P n₀ T all cls c g₀ k (⟨i, true⟩ :: R) E L a m A W pds g) : ∃ a' pds', FInv P n₀ T all cls c g₀ k R (i :: E) L a' m A W pds' g := by
  obtain ⟨o, v, js, ho, hlt, hfl, hev⟩ := h.ev
  obtain ⟨o', ho', hw, hiE, _, hord⟩ := ord_cons h.ord
  have hoo : o' = o := by have : all[i]? = some o' := ho'; rw [ho] at this; cases this; rfl
  subst hoo
  have hiL : i ∉ L := fun hi => hiE (h.sub i hi)
  have hcE : ∀ x ∈ cls.getD i [], x ∈ E := cls_in hcl h.ecl (i + 1) i o' (Nat.lt_succ_self i) ho hw
  have hcj : ∀ j ∈ E, ∀ oj, all[j]? = some oj → i ∉ cls.getD j [] := fun j hj oj hoj hi => hiE (cls_in hcl h.ecl (j + 1) j oj (Nat.lt_succ_self j) hoj (h.ecl j hj oj hoj) i hi)
  have hdi : dstAt all i = o'.dst := by unfold dstAt; rw [ho]; rfl
  have hne : ∀ j t, j ≠ i → dstAt all j = some t → o'.dst ≠ some t := fun j t hj hd he => hj (dst_inj hnd hd (hdi.trans he))
  have hlen : (hideL topV (hidT all cls i) a).length = a.length := hideL_len _ _
  refine ⟨putA a o'.dst v, ⟨i, js, o', v, hideL topV (hidT all cls i) a, m, g₀ ++ g⟩ :: pds, ?_⟩
  refine ⟨hev, h.rel, h.dfr, (putA_len a o'.dst v).trans h.len, hord, fun j hj => List.mem_cons_of_mem _ (h.sub j hj), fun j hj => (List.mem_cons.1 hj).elim (fun e => e ▸ lt_of_getElem? ho) (h.ran j), ?_, h.lcl, ?_, ?_, ?_, ?_, ?_, ?_⟩
  · intro j hj oj hoj w hw'
    rcases List.mem_cons.1 hj with rfl | hj
    · rw [ho] at hoj; cases hoj; exact List.mem_cons_of_mem _ (hw w hw')
    · exact List.mem_cons_of_mem _ (h.ecl j hj oj hoj w hw')
  · intro j hj hjL
    rcases List.mem_cons.1 hj with rfl | hj
    · exact ⟨_, List.mem_cons_self, rfl⟩
    · obtain ⟨p, hp, hpi⟩ := h.pdE j hj hjL
      exact ⟨p, List.mem_cons_of_mem _ hp, hpi⟩
  · intro t v' w hv hw'
    rcases putA_get hv with ⟨hd, _⟩ | ⟨_, hv⟩
    · exact .inr ⟨i, List.mem_cons_self, hiL, hdi.trans hd⟩
    · rcases h.full t v' w hv hw' with h1 | ⟨j, hj, h2, h3⟩
      · exact .inl h1
      · exact .inr ⟨j, List.mem_cons_of_mem _ hj, h2, h3⟩
  · intro p hp hpL
    rcases List.mem_cons.1 hp with rfl | hp
    · refine ⟨ho, hlt, hfl, hlen.trans h.len, ?_, fun t v' ht hv => hideL_mem _ _ t v' ht hv, ?_, ?_, h.rel.len, h.rel.lows, fun _ _ _ => rfl⟩
      · intro t v' w hv hw'
        by_cases ht : t ∈ hidT all cls i
        · rw [hideL_mem _ _ t v' ht hv]; exact .inl (.top _)
        · have hv : a[t]? = some v' := by rw [← hideL_not _ _ t ht]; exact hv
          rcases h.full t v' w hv hw' with h1 | ⟨j, hj, h2, h3⟩
          · exact .inl h1
          · rcases hidT_not h3 ht with rfl | h4 | h4
            · exact (hiE hj).elim
            · exact .inr ⟨j, h4, h2, h3⟩
            · obtain ⟨oj, hoj⟩ : ∃ oj, all[j]? = some oj := ⟨_, List.getElem?_eq_getElem (dstAt_lt h3)⟩
              exact (hcj j hj oj hoj h4).elim
      · intro j hj t hd
        have hji : j ≠ i := fun e => hiE (e ▸ hcE j hj)
        show (hideL topV (hidT all cls i) a)[t]? = (putA a o'.dst v)[t]?
        rw [putA_ne (hne j t hji hd), hideL_not]
        intro ht
        obtain ⟨j', h1, h2, h3, h4⟩ := hidT_mem ht
        have := dst_inj hnd hd h1
        subst this
        exact h3 hj
      · intro d v' hd hv
        rcases putA_get hv with ⟨_, h2⟩ | ⟨h2, _⟩
        · exact h2
        · exact (h2 (hdi.symm.trans hd)).elim
    · have q := h.pok p hp hpL
      have hpE := h.pin p hp
      have hpi : p.i ≠ i := fun e => hiE (e ▸ hpE.1)
      refine ⟨q.ho, q.lt, q.fl, q.len, q.vis, q.hid, ?_, ?_, q.gl, q.low, q.blk⟩
      · intro j hj t hd
        have hji : j ≠ i := fun e => hiE (e ▸ hpE.2 j hj)
        rw [putA_ne (hne j t hji hd)]
        exact q.agr j hj t hd
      · intro d v' hd hv
        rw [putA_ne (hne p.i d hpi hd)] at hv
        exact q.val d v' hd hv
  · intro p hp
    rcases List.mem_cons.1 hp with rfl | hp
    · exact ⟨List.mem_cons_self, fun x hx => List.mem_cons_of_mem _ (hcE x hx)⟩
    · exact ⟨List.mem_cons_of_mem _ (h.pin p hp).1, fun x hx => List.mem_cons_of_mem _ ((h.pin p hp).2 x hx)⟩
  · intro p hp
    rcases List.mem_cons.1 hp with rfl | hp
    · exact ⟨[], (List.append_nil _).symm⟩
    · exact h.gx p hp
  · intro p hp q hq hpq
    rcases List.mem_cons.1 hp with rfl | hp
    · rcases List.mem_cons.1 hq with rfl | hq
      · exact ⟨[], (List.append_nil _).symm⟩
      · exact (hiE ((h.pin q hq).2 i hpq)).elim
    · rcases List.mem_cons.1 hq with rfl | hq
      · exact h.gx p hp
      · exact h.pre p hp q hq hpq
theorem FInv.lightStep (hcl : clsOk all cls = true) (hnd : nodupO (all.map (·.dst)) = true) {Q : Exit → Act → World → Prop} {R : List It} {E L : List Nat} {a : List Value} {m : Mem} {A : Act} {W : World} {pds : List Pd} {g : List (Option GB)}
    (h : FInv P n₀ T all cls c g₀ k R E L a m A W pds g) {p : Pd} (hp : p ∈ pds) (hpL : p.i ∉ L) (hw : ∀ j ∈ waits p.o, j ∈ L) {K : Act → World → Prop}
    (hK : ∀ w, FInv P n₀ T all cls c g₀ k R E (p.i :: L) a m (A.put p.o.dst w) W pds g → K (A.put p.o.dst w) W) : wpOp P all.toArray Q p.i K A W := by
  have q := h.pok p hp hpL
  have hdi : dstAt all p.i = p.o.dst := by unfold dstAt; rw [q.ho]; rfl
  have hcL : ∀ x ∈ cls.getD p.i [], x ∈ L := cls_in hcl h.lcl (p.i + 1) p.i p.o (Nat.lt_succ_self _) q.ho hw
  have ha : ARel p.G p.ah A := frame_of q.len h.dfr fun t v w h1 h2 => by
    rcases q.vis t v w h1 h2 with h3 | ⟨j, hj, hjL, _⟩
    · exact h3
    · exact (hjL (hcL j hj)).elim
  obtain ⟨x, hx⟩ := h.gx p hp
  have hr : Rel P c p.G (onlyB p.js p.mi) W := (show Rel P c (p.G ++ x) m W by rw [← hx]; exact h.rel).only q.gl q.low q.blk
  have done : ∀ w, VR p.G p.v w → FInv P n₀ T all cls c g₀ k R E (p.i :: L) a m (A.put p.o.dst w) W pds g := by
    intro w hvw
    refine ⟨h.ev, h.rel, (put_defers _ _ _).trans h.dfr, h.len.trans (put_size _ _ _).symm, h.ord, ?_, h.ran, h.ecl, ?_, ?_, ?_, ?_, h.pin, h.gx, h.pre⟩
    · intro j hj
      rcases List.mem_cons.1 hj with rfl | hj
      · exact (h.pin p hp).1
      · exact h.sub j hj
    · intro j hj oj hoj w hw'
      rcases List.mem_cons.1 hj with rfl | hj
      · rw [q.ho] at hoj; cases hoj; exact List.mem_cons_of_mem _ (hw w hw')
      · exact List.mem_cons_of_mem _ (h.lcl j hj oj hoj w hw')
    · intro j hj hjL
      exact h.pdE j hj fun hl => hjL (List.mem_cons_of_mem _ hl)
    · intro t v u hv hu
      rcases put_get hu with ⟨hd, rfl⟩ | ⟨hd, hu⟩
      · have := q.val t v (hdi.trans hd) hv
        subst this
        left; rw [hx]; exact hvw.app
      · rcases h.full t v u hv hu with h1 | ⟨j, hj, h2, h3⟩
        · exact .inl h1
        · refine .inr ⟨j, hj, fun hl => ?_, h3⟩
          rcases List.mem_cons.1 hl with rfl | hl
          · exact hd (hdi.symm.trans h3)
          · exact h2 hl
    · intro r hr' hrL
      have hrL' : r.i ∉ L := fun hl => hrL (List.mem_cons_of_mem _ hl)
      have s := h.pok r hr' hrL'
      have hrp : r.i ≠ p.i := fun e => hrL (e ▸ List.mem_cons_self)
      refine ⟨s.ho, s.lt, s.fl, s.len.trans (put_size _ _ _).symm, ?_, s.hid, s.agr, s.val, s.gl, s.low, s.blk⟩
      intro t v u hv hu
      rcases put_get hu with ⟨hd, rfl⟩ | ⟨hd, hu⟩
      · by_cases hpr : p.i ∈ cls.getD r.i []
        · have hv' := hv
          rw [s.agr p.i hpr t (hdi.trans hd)] at hv'
          have := q.val t v (hdi.trans hd) hv'
          subst this
          obtain ⟨y, hy⟩ := h.pre p hp r hr' hpr
          left; rw [hy]; exact hvw.app
        · have hrc : r.i ∉ cls.getD p.i [] := fun e => hrL' (hcL _ e)
          have ht : t ∈ hidT all cls r.i := by
            refine Classical.byContradiction fun hn => ?_
            rcases hidT_not (hdi.trans hd) hn with e | e | e
            · exact hrp e.symm
            · exact hpr e
            · exact hrc e
          rw [s.hid t v ht hv]; exact .inl (.top _)
      · rcases s.vis t v u hv hu with h1 | ⟨j, hj, h2, h3⟩
        · exact .inl h1
        · refine .inr ⟨j, hj, fun hl => ?_, h3⟩
          rcases List.mem_cons.1 hl with rfl | hl
          · exact hd (hdi.symm.trans h3)
          · exact h2 hl
  have fin : ∀ w, (Region.wanted p.o (yielded all.toArray A.tmps) = true → (execOp A.eval p.o).run P W = .ok (.value w) W) → (Region.wanted p.o (yielded all.toArray A.tmps) = false → w = undef) → VR p.G p.v w → wpOp P all.toArray Q p.i K A W := by
    intro w h1 h2 hvw
    unfold wpOp
    have ho' : all.toArray[p.i]? = some p.o := by simpa using q.ho
    rw [ho']
    simp only
    cases hwn : Region.wanted p.o (yielded all.toArray A.tmps) with
    | true =>
      rw [if_pos rfl]
      simp only [Oper.wp, h1 hwn, Oper.upon]
      exact .inl (hK w (done w hvw))
    | false =>
      rw [if_neg (by simp)]
      rw [← h2 hwn]
      exact hK w (done w hvw)
  have run : evOp (propA P 0).toOps T p.o.op (aeval p.ah) (onlyB p.js p.mi) (fun v' _ => v' = p.v) → ∃ w, (execOp A.eval p.o).run P W = .ok (.value w) W ∧ VR p.G p.v w := by
    intro hev
    obtain ⟨v', w, h1, h2, h3⟩ := evOp_still (X := propA P 0) (T := T) (ρ := aeval p.ah) (m := onlyB p.js p.mi) (k := fun v' _ => v' = p.v) q.lt hev hr (fun x => ha.eval x)
    exact ⟨w, h1, (show v' = p.v from h3) ▸ h2⟩
  have hg := q.fl
  unfold FlG at hg
  cases hgu : p.o.guard with
  | none =>
    rw [hgu] at hg
    obtain ⟨w, h1, h2⟩ := run hg
    exact fin w (fun _ => h1) (fun hn => by simp [Region.wanted, hgu] at hn) h2
  | some jw =>
    obtain ⟨j, want⟩ := jw
    rw [hgu] at hg
    rcases hg with ⟨b, hb, hyes, hno⟩ | ⟨l, hb, hd⟩
    · have hy := yields_bool ha hb
      by_cases hbw : b = want
      · obtain ⟨w, h1, h2⟩ := run (hyes hbw)
        exact fin w (fun _ => h1) (fun hn => by simp [Region.wanted, hgu, hy, hbw] at hn) h2
      · exact fin undef (fun hn => by simp [Region.wanted, hgu, hy, hbw] at hn) (fun _ => rfl) (by rw [hno hbw]; exact VR.undef _)
    · have hy := yields_none ha hb
      exact fin undef (fun hn => by simp [Region.wanted, hgu, hy] at hn) (fun _ => rfl) (by rw [hd]; exact VR.undef _)
theorem FInv.heavyStep (hcl : clsOk all cls = true) (hnd : nodupO (all.map (·.dst)) = true) {Q : Exit → Act → World → Prop} {i : Nat} {R : List It} {E L : List Nat} {a : List Value} {m : Mem} {A : Act} {W : World} {pds : List Pd} {g : List (Option GB)}
    (h : FInv P n₀ T all cls c g₀ k (⟨i, false⟩ :: R) E L a m A W pds g) (hwL : ∀ o, all[i]? = some o → ∀ j ∈ waits o, j ∈ L) {K : Act → World → Prop}
    (hK : ∀ a' m' A' W' g', FInv P n₀ T all cls c g₀ k R (i :: E) (i :: L) a' m' A' W' pds g' → K A' W') : wpOp P all.toArray Q i K A W := by
  obtain ⟨o, ho, hev⟩ := h.ev
  obtain ⟨o', ho', hw, hiE, _, hord⟩ := ord_cons h.ord
  have hoo : o' = o := by have : all[i]? = some o' := ho'; rw [ho] at this; cases this; rfl
  subst hoo
  replace hwL : ∀ j ∈ waits o', j ∈ L := hwL o' ho
  have hcL : ∀ x ∈ cls.getD i [], x ∈ L := cls_in hcl h.lcl (i + 1) i o' (Nat.lt_succ_self _) ho hwL
  have hcj : ∀ j ∈ E, ∀ oj, all[j]? = some oj → i ∉ cls.getD j [] := fun j hj oj hoj hi => hiE (cls_in hcl h.ecl (j + 1) j oj (Nat.lt_succ_self j) hoj (h.ecl j hj oj hoj) i hi)
  have hdi : dstAt all i = o'.dst := by unfold dstAt; rw [ho]; rfl
  have hne : ∀ j t, j ≠ i → dstAt all j = some t → o'.dst ≠ some t := fun j t hj hd he => hj (dst_inj hnd hd (hdi.trans he))
  have hlen : (hideL topV (hidT all cls i) a).length = a.length := hideL_len _ _
  have ha : ARel (g₀ ++ g) (hideL topV (hidT all cls i) a) A := frame_of (hlen.trans h.len) h.dfr fun t v w hv hw' => by
    by_cases ht : t ∈ hidT all cls i
    · rw [hideL_mem _ _ t v ht hv]; exact .top _
    · rw [hideL_not _ _ t ht] at hv
      rcases h.full t v w hv hw' with h1 | ⟨j, hj, h2, h3⟩
      · exact h1
      · exfalso
        rcases hidT_not h3 ht with rfl | h4 | h4
        · exact hiE hj
        · exact h2 (hcL j h4)
        · obtain ⟨oj, hoj⟩ : ∃ oj, all[j]? = some oj := ⟨_, List.getElem?_eq_getElem (dstAt_lt h3)⟩
          exact hcj j hj oj hoj h4
  have hG : ∀ p ∈ pds, p.i ∉ L → ∀ j ∈ p.js, j < p.mi.length → j < m.length := fun p hp hpL j hj hjl => by
    have q := h.pok p hp hpL
    obtain ⟨x, hx⟩ := h.gx p hp
    have h1 := h.rel.len
    rw [hx, List.length_append, q.gl] at h1
    omega
  have := evOps_head3 (Q := Q) hev h.rel ha (K := K) fun v w m' x W' hN hr2 hv2 => by
    obtain ⟨hkeep, hN⟩ := hN
    rw [takeD_put hlen] at hN
    have hgg : g₀ ++ (g ++ x) = (g₀ ++ g) ++ x := (List.append_assoc _ _ _).symm
    refine hK (putA a o'.dst v) m' _ W' (g ++ x) ⟨hN, hr2, (put_defers _ _ _).trans h.dfr, (putA_len _ _ _).trans (h.len.trans (put_size _ _ _).symm), hord, ?_, fun j hj => (List.mem_cons.1 hj).elim (fun e => e ▸ lt_of_getElem? ho) (h.ran j), ?_, ?_, ?_, ?_, ?_, ?_, ?_, h.pre⟩
    · intro j hj
      rcases List.mem_cons.1 hj with rfl | hj
      · exact List.mem_cons_self
      · exact List.mem_cons_of_mem _ (h.sub j hj)
    · intro j hj oj hoj w hw'
      rcases List.mem_cons.1 hj with rfl | hj
      · rw [ho] at hoj; cases hoj; exact List.mem_cons_of_mem _ (hw w hw')
      · exact List.mem_cons_of_mem _ (h.ecl j hj oj hoj w hw')
    · intro j hj oj hoj w hw'
      rcases List.mem_cons.1 hj with rfl | hj
      · rw [ho] at hoj; cases hoj; exact List.mem_cons_of_mem _ (hwL w hw')
      · exact List.mem_cons_of_mem _ (h.lcl j hj oj hoj w hw')
    · intro j hj hjL
      rcases List.mem_cons.1 hj with rfl | hj
      · exact (hjL List.mem_cons_self).elim
      · exact h.pdE j hj fun hl => hjL (List.mem_cons_of_mem _ hl)
    · intro t v' u hv hu
      rcases putA_get hv with ⟨hd, rfl⟩ | ⟨hd, hv⟩
      · rcases put_get hu with ⟨_, rfl⟩ | ⟨hd', _⟩
        · exact .inl hv2
        · exact (hd' hd).elim
      · rcases put_get hu with ⟨hd', _⟩ | ⟨_, hu⟩
        · exact (hd hd').elim
        · rcases h.full t v' u hv hu with h1 | ⟨j, hj, h2, h3⟩
          · left; rw [hgg]; exact h1.app
          · refine .inr ⟨j, List.mem_cons_of_mem _ hj, fun hl => ?_, h3⟩
            rcases List.mem_cons.1 hl with rfl | hl
            · exact hiE hj
            · exact h2 hl
    · intro p hp hpL
      have hpL' : p.i ∉ L := fun hl => hpL (List.mem_cons_of_mem _ hl)
      have q := h.pok p hp hpL'
      have hpE := h.pin p hp
      have hpi : p.i ≠ i := fun e => hiE (e ▸ hpE.1)
      have hpc : p.i ∉ cls.getD i [] := fun e => hpL' (hcL _ e)
      have hic : i ∉ cls.getD p.i [] := fun e => hiE (hpE.2 i e)
      refine ⟨q.ho, q.lt, q.fl, q.len.trans (put_size _ _ _).symm, ?_, q.hid, ?_, ?_, q.gl, q.low, ?_⟩
      · intro t v' u hv hu
        rcases put_get hu with ⟨hd, _⟩ | ⟨_, hu⟩
        · have ht : t ∈ hidT all cls p.i := by
            refine Classical.byContradiction fun hn => ?_
            rcases hidT_not (hdi.trans hd) hn with e | e | e
            · exact hpi e.symm
            · exact hic e
            · exact hpc e
          rw [q.hid t v' ht hv]; exact .inl (.top _)
        · rcases q.vis t v' u hv hu with h1 | ⟨j, hj, h2, h3⟩
          · exact .inl h1
          · refine .inr ⟨j, hj, fun hl => ?_, h3⟩
            rcases List.mem_cons.1 hl with rfl | hl
            · exact hic hj
            · exact h2 hl
      · intro j hj t hd
        have hji : j ≠ i := fun e => hiE (e ▸ hpE.2 j hj)
        rw [putA_ne (hne j t hji hd)]
        exact q.agr j hj t hd
      · intro d v' hd hv
        rw [putA_ne (hne p.i d hpi hd)] at hv
        exact q.val d v' hd hv
      · intro j hj hjl
        rw [hkeep (p.i, p.js) (List.mem_map.2 ⟨p, hp, rfl⟩) hpc j hj (hG p hp hpL' j hj hjl)]
        exact q.blk j hj hjl
    · intro p hp
      exact ⟨List.mem_cons_of_mem _ (h.pin p hp).1, fun x hx => List.mem_cons_of_mem _ ((h.pin p hp).2 x hx)⟩
    · intro p hp
      obtain ⟨y, hy⟩ := h.gx p hp
      exact ⟨y ++ x, by rw [hgg, hy, List.append_assoc]⟩
  unfold wpOp
  have ho2 : all.toArray[i]? = some o' := by simpa using ho
  rw [ho2]
  simp only
  split
  · rename_i hwn; rw [if_pos hwn] at this; exact .inl this
  · rename_i hwn; rw [if_neg hwn] at this; exact this
theorem filter_less {p q : Nat → Bool} : ∀ {l : List Nat} {x : Nat}, (∀ y, q y = true → p y = true) → x ∈ l → p x = true → q x = false → (l.filter q).length < (l.filter p).length
  | y :: l, x, hs, hx, h1, h2 => by
    have le : ∀ l : List Nat, (l.filter q).length ≤ (l.filter p).length := by
      intro l
      induction l with
      | nil => exact Nat.le_refl _
      | cons z l ih =>
        rw [List.filter_cons, List.filter_cons]
        cases hq : q z with
        | true => rw [hs z hq]; simp only [if_true, List.length_cons]; omega
        | false => cases p z <;> simp <;> omega
    rcases List.mem_cons.1 hx with rfl | hx
    · rw [List.filter_cons, List.filter_cons, h1, h2]
      have := le l
      simp; omega
    · have ih := filter_less (l := l) hs hx h1 h2
      rw [List.filter_cons, List.filter_cons]
      cases hq : q y with
      | true => rw [hs y hq]; simp only [if_true, List.length_cons]; omega
      | false => cases p y <;> simp <;> omega
theorem FInv.stuck (hcl : clsOk all cls = true) {R : List It} {E L : List Nat} {a : List Value} {m : Mem} {A : Act} {W : World} {pds : List Pd} {g : List (Option GB)} {listed : Array Bool} (h : FInv P n₀ T all cls c g₀ k R E L a m A W pds g) (his : Is all.toArray listed L) (hre : Region.ready .any all.toArray listed = []) : ∀ n j, j < n → j < all.length → j ∈ L := by
  intro n
  induction n with
  | zero => intro j hj; omega
  | succ n ihn =>
    intro j hjn hjl
    refine Classical.byContradiction fun hjL => ?_
    have hoj : all[j]? = some all[j] := List.getElem?_eq_getElem hjl
    have h0 := List.all_eq_true.1 hcl j (List.mem_range.2 hjl)
    rw [hoj] at h0
    simp only [Bool.and_eq_true] at h0
    have : j ∈ Region.ready .any all.toArray listed := ready_of (his.un (by simpa using hjl) (by cases hm : memN L j with | true => exact (hjL (memN_iff.1 hm)).elim | false => rfl)) (o := all[j]) (by rw [List.getElem?_toArray]; exact hoj) fun w hw' => by
      have hwj := List.all_eq_true.1 h0.1 w hw'
      rw [Nat.blt_eq] at hwj
      exact his.wait (memN_iff.2 (ihn w (by omega) (by omega))) fun x hx => by simpa using h.ran x (h.sub x hx)
    rw [hre] at this; cases this
theorem FInv.done {Q : Exit → Act → World → Prop} (hQ : ∀ a m g A W, k a m → Rel P c (g₀ ++ g) m W → ARel (g₀ ++ g) a A → Q .normal A W) {R : List It} {E L : List Nat} {a : List Value} {m : Mem} {A : Act} {W : World} {pds : List Pd} {g : List (Option GB)} (h : FInv P n₀ T all cls c g₀ k R E L a m A W pds g) (hall : ∀ j, j < all.length → j ∈ L) : Q .normal A W := by
  cases R with
  | cons it R =>
    obtain ⟨o, ho, _, hiE, _⟩ := ord_cons h.ord
    exact (hiE (h.sub _ (hall _ (lt_of_getElem? ho)))).elim
  | nil =>
    refine hQ a m g A W h.ev h.rel (frame_of h.len h.dfr fun t v w h1 h2 => ?_)
    rcases h.full t v w h1 h2 with h3 | ⟨j, _, hjL, hd⟩
    · exact h3
    · exact (hjL (hall j (dstAt_lt hd))).elim
theorem FInv.run (hcl : clsOk all cls = true) (hnd : nodupO (all.map (·.dst)) = true) {Q : Exit → Act → World → Prop} (hQ : ∀ a m g A W, k a m → Rel P c (g₀ ++ g) m W → ARel (g₀ ++ g) a A → Q .normal A W) :
    ∀ (fuel : Nat) (R : List It) (E L : List Nat) (a : List Value) (m : Mem) (A : Act) (W : World) (pds : List Pd) (g : List (Option GB)) (listed : Array Bool), FInv P n₀ T all cls c g₀ k R E L a m A W pds g → Is all.toArray listed L →
      ((List.range all.length).filter fun j => !memN L j).length ≤ fuel → wpAny P .any all.toArray Q fuel listed A W := by
  intro fuel
  induction fuel with
  | zero =>
    intro R E L a m A W pds g listed h his hf
    have hall : ∀ j, j < all.length → j ∈ L := by
      intro j hj
      refine Classical.byContradiction fun hn => ?_
      have : j ∈ (List.range all.length).filter fun j => !memN L j := List.mem_filter.2 ⟨List.mem_range.2 hj, by
        cases hm : memN L j with
        | true => exact (hn (memN_iff.1 hm)).elim
        | false => rfl⟩
      have := List.length_pos_of_mem this
      omega
    have hre : Region.ready .any all.toArray listed = [] := by
      cases hre : Region.ready .any all.toArray listed with
      | nil => rfl
      | cons i rest =>
        exfalso
        obtain ⟨h0, _⟩ := ready_any (show i ∈ Region.ready .any all.toArray listed by rw [hre]; exact List.mem_cons_self)
        obtain ⟨h1, h2⟩ := his.of_un h0
        rw [memN_iff.2 (hall i (by simpa using h1))] at h2; cases h2
    exact ⟨hre, h.done hQ hall⟩
  | succ fuel ih =>
    have ready : ∀ (R : List It) (E L : List Nat) (a : List Value) (m : Mem) (A : Act) (W : World) (pds : List Pd) (g : List (Option GB)) (listed : Array Bool), FInv P n₀ T all cls c g₀ k R E L a m A W pds g → Is all.toArray listed L → ((List.range all.length).filter fun j => !memN L j).length ≤ fuel + 1 →
        ∀ j ∈ Region.ready .any all.toArray listed, ∃ oj, all[j]? = some oj ∧ j ∉ L ∧ (∀ w ∈ waits oj, w ∈ L) ∧ ((List.range all.length).filter fun x => !memN (j :: L) x).length ≤ fuel ∧ (j ∈ E → wpOp P all.toArray Q j (wpAny P .any all.toArray Q fuel (listed.setIfInBounds j true)) A W) := by
      intro R E L a m A W pds g listed h his hf j hj
      obtain ⟨h0, oj, hoj, hwj⟩ := ready_any hj
      obtain ⟨h1, h2⟩ := his.of_un h0
      have hjL : j ∉ L := fun hl => by rw [memN_iff.2 hl] at h2; cases h2
      have hoj' : all[j]? = some oj := by simpa using hoj
      have hjl : j < all.length := lt_of_getElem? hoj'
      have hwL : ∀ w ∈ waits oj, w ∈ L := fun w hw' => by
        have h3 := hwj w hw'
        have hws : w < all.toArray.size := by
          rcases Nat.lt_or_ge w listed.size with h' | h'
          · rw [← his.1]; exact h'
          · simp [Array.getElem?_eq_none h'] at h3
        rw [his.2 w hws] at h3
        exact memN_iff.1 h3
      have hless : ((List.range all.length).filter fun x => !memN (j :: L) x).length ≤ fuel := by
        have := filter_less (p := fun x => !memN L x) (q := fun x => !memN (j :: L) x) (l := List.range all.length) (x := j) (fun y hy => by
          have hy : (!(Nat.beq y j || memN L y)) = true := hy
          rw [Bool.not_eq_true', Bool.or_eq_false_iff] at hy
          show (!memN L y) = true
          rw [hy.2]; rfl) (List.mem_range.2 hjl) (by show (!memN L j) = true; rw [h2]; rfl) (by show (!(Nat.beq j j || memN L j)) = false; rw [Nat.beq_refl]; rfl)
        omega
      refine ⟨oj, hoj', hjL, hwL, hless, fun hjE => ?_⟩
      obtain ⟨p, hp, rfl⟩ := h.pdE j hjE hjL
      have q := h.pok p hp hjL
      have hpo : p.o = oj := by have := q.ho; rw [hoj'] at this; cases this; rfl
      exact h.lightStep hcl hnd hp hjL (by rw [hpo]; exact hwL) fun w h' => ih _ _ _ _ _ _ _ _ _ _ h' (his.set (by simpa using hjl)) hless
    intro R
    induction R with
    | cons it R ihR =>
      intro E L a m A W pds g listed h his hf
      obtain ⟨i, lt⟩ := it
      cases lt with
      | true =>
        obtain ⟨a', pds', h'⟩ := h.settle hcl hnd
        exact ihR _ _ _ _ _ _ _ _ _ h' his hf
      | false =>
        obtain ⟨o, ho, hw, hiE, hoth, _⟩ := ord_cons h.ord
        have hoth := hoth.resolve_left (by simp)
        refine ⟨fun hre => h.done hQ fun j hj => h.stuck hcl his hre (j + 1) j (Nat.lt_succ_self j) hj, fun j hj => ?_⟩
        obtain ⟨oj, hoj, hjL, hwL, hless, hlight⟩ := ready _ _ _ _ _ _ _ _ _ _ h his hf j hj
        by_cases hji : j = i
        · subst hji
          exact h.heavyStep hcl hnd (fun o' ho' => by rw [hoj] at ho'; cases ho'; exact hwL) fun a' m' A' W' g' h' => ih R _ _ _ _ _ _ _ _ _ h' (his.set (by simpa using lt_of_getElem? hoj)) hless
        · exact hlight (Classical.byContradiction fun hn => hoth j oj hoj hji hn fun w hw' => h.sub w (hwL w hw'))
    | nil =>
      intro E L a m A W pds g listed h his hf
      refine ⟨fun hre => h.done hQ fun j hj => h.stuck hcl his hre (j + 1) j (Nat.lt_succ_self j) hj, fun j hj => ?_⟩
      obtain ⟨oj, hoj, hjL, hwL, hless, hlight⟩ := ready _ _ _ _ _ _ _ _ _ _ h his hf j hj
      exact hlight (memN_iff.1 (List.all_eq_true.1 (show (List.range all.length).all (memN E) = true from h.ord) j (List.mem_range.2 (lt_of_getElem? hoj))))
theorem AWp.free {K : Exit → List Value → Mem → Prop} {a : List Value} {m : Mem} {id : Nat} {ops : Array Oper} {R : List It} (hok : freeOk ops.toList cls R = true) (h : evFr P n₀ T ops.toList cls R a m [] (K .normal)) : AWp P n₀ (.region id ops true) K a m := by
  refine AWp.mono (K := fun e a m => e = .normal ∧ K e a m) ?_ fun _ _ _ h => h.2
  refine AWp.of_any T.mixed (fun _ _ ⟨e, _⟩ => by cases e) ?_
  intro c g₀ g A W hn hr ha
  simp only [freeOk, Bool.and_eq_true] at hok
  obtain ⟨_, hcl, hnd, hord⟩ := hok
  have hall : ops.toList.toArray = ops := by simp
  have hfull : ∀ (t : Nat) v w, a[t]? = some v → A.tmps[t]? = some w → VR (g₀ ++ g) v w ∨ ∃ j ∈ ([] : List Nat), j ∉ ([] : List Nat) ∧ dstAt ops.toList j = some t := fun t v w h1 h2 => by
    obtain ⟨w', hw', hv⟩ := ha.tmps.get t v h1
    have h3 : A.tmps[t]? = some w' := by rw [← Array.getElem?_toList]; exact hw'
    rw [h2] at h3
    cases h3
    exact .inl hv
  have hinv : FInv P n₀ T ops.toList cls c g₀ (K .normal) R [] [] a m A { W with drawn := W.drawn + 1 } [] g := {
    ev := h
    rel := hr.drew
    dfr := ha.defers
    len := by simpa using ha.tmps.length
    ord := hord
    sub := fun j hj => by cases hj
    ran := fun j hj => by cases hj
    ecl := fun j hj => by cases hj
    lcl := fun j hj => by cases hj
    pdE := fun j hj => by cases hj
    full := hfull
    pok := fun p hp => by cases hp
    pin := fun p hp => by cases hp
    gx := fun p hp => by cases hp
    pre := fun p hp => by cases hp }
  have his : Is ops.toList.toArray (Array.replicate ops.size false) [] := ⟨by simp, fun k hk => by
    have hk : k < ops.size := by simpa using hk
    simp [memN, hk]⟩
  have := FInv.run hcl hnd (Q := Post P c g₀ (fun e a m => e = Exit.normal ∧ K e a m)) (fun a m g A W hk hr ha => ⟨a, m, g, ⟨rfl, hk⟩, hr, ha⟩) ops.size R [] [] a m A _ [] g _ hinv his (by
    refine Nat.le_trans (List.length_filter_le _ _) ?_
    simp)
  rwa [hall] at this
end Go.AE
end
section
namespace Go.AE
open Go Go.RowKit
variable {P : Program}
def bareV : Value → Bool
  | .int _ _ => true
  | .bool _ => true
  | _ => false
theorem VR.bare {g : List (Option GB)} {v w : Value} (h : VR g v w) (hb : bareV v = true) : w = v := by
  cases h with
  | a h => cases h with
    | s h => cases h with
      | int => rfl
      | bool => rfl
      | top _ _ => cases hb
      | _ => cases hb
    | agg _ => cases hb
  | tup _ => cases hb
  | top _ => cases hb
theorem bareV_VR (g : List (Option GB)) {v : Value} (hb : bareV v = true) : VR g v v := by
  cases v with
  | int k n => exact .s (.int k n)
  | bool b => exact .s (.bool b)
  | _ => cases hb
theorem F2.bare {g : List (Option GB)} : ∀ {vs ws : List Value}, F2 (VR g) vs ws → vs.all bareV = true → ws = vs
  | _, _, .nil, _ => rfl
  | _, _, .cons h1 h2, h => by
    rw [List.all_cons, Bool.and_eq_true] at h
    rw [VR.bare h1 h.1, F2.bare h2 h.2]
structure Touch (W W' : World) (fp : Nat → Prop) : Prop where
  size : W.heap.size ≤ W'.heap.size
  same : ∀ k, k < W.heap.size → ¬ fp k → W'.heap[k]? = W.heap[k]?
  os : W'.os = W.os
  tape : W'.tape = W.tape
  output : W'.output = W.output
theorem Touch.refl (W : World) (fp : Nat → Prop) : Touch W W fp := ⟨Nat.le_refl _, fun _ _ _ => rfl, rfl, rfl, rfl⟩
def bareB (o : Ob) : ABlk := ⟨[], 0, false, false, some o⟩
structure Owns (W W' : World) (fp fp' : Nat → Prop) : Prop where
  old : ∀ k, fp' k → fp k ∨ W.heap.size ≤ k
  lt : ∀ k, fp' k → k < W'.heap.size
  mine : ∀ k, fp' k → ∃ ob, W'.heap[k]? = some ob ∧ mine ob = true
theorem ACall.method {f : FuncId} {o o' : Ob} {as : List Value} {v : Value} (has : as.all bareV = true) (hv : bareV v = true ∨ v = .tuple #[])
    (h : ∀ (r : GB) (W : World) (fp rp : Nat → Prop), o.rep r W fp rp → (∀ k, fp k → k < W.heap.size) → (∀ k, fp k → ¬ rp k) → Calls P f ⟨.pointer (some ⟨r.b, r.base, none⟩) :: as⟩ W fun e W' => e = .returned v ∧ W'.heap[r.b]? = W.heap[r.b]? ∧ Touch W W' fp ∧ ∃ fp', o'.rep r W' fp' rp ∧ Owns W W' fp fp') :
    ACall P f (.pointer (some ⟨0, 0, none⟩) :: as) [some (bareB o)] fun w m => w = v ∧ m = [some (bareB o')] := by
  intro c g W args' hr ha
  cases ha with
  | cons h1 h2 =>
  rename_i x ys
  obtain rfl := F2.bare h2 has
  obtain ⟨gb, hg, rfl⟩ : ∃ gb, g[0]? = some (some gb) ∧ x = .pointer (some ⟨gb.b, gb.base, none⟩) := by
    cases h1 with
    | a h1 => cases h1 with
      | s h1 => cases h1 with
        | ptr j off gb hg => exact ⟨gb, hg, rfl⟩
  obtain ⟨fp, rp, hA⟩ := hr.objs
  have hrep := (hA.rep 0 (bareB o) gb o rfl hg rfl).1
  refine (h gb W (fp 0) (rp 0) hrep (fun k hk => (hA.own 0 k hk).1) fun k hk hk' => ?_).mono ?_
  · have h1 := hA.rr k (hA.ro 0 k hk')
    rcases (hA.own 0 k hk).2 with h2 | h2
    · omega
    · exact h1.2 h2
  rintro e W' ⟨rfl, hroot, ht, fp', hrep', ho⟩
  have only : ∀ (j : Nat) (b : ABlk), [some (bareB o')][j]? = some (some b) → j = 0 ∧ b = bareB o' := fun j b hj => by
    cases j with
    | zero => cases hj; exact ⟨rfl, rfl⟩
    | succ j => cases hj
  have hgl : g = [some gb] := by
    have hl : g.length = 1 := hr.len
    match g, hl, hg with
    | [x], _, hg => cases hg; rfl
  have own' : ∀ k, k < W.heap.size → fp 0 k → c.W.heap.size ≤ k ∨ c.F k := fun k _ hk => (hA.own 0 k hk).2
  refine ⟨v, v, [some (bareB o')], [], rfl, ⟨rfl, rfl⟩, ?_, ?_⟩
  · rw [List.append_nil]
    refine ⟨hr.len, ?_, ?_, fun k hk hF => ?_, Nat.le_trans hr.size ht.size, ht.os.trans hr.os, ht.tape.trans hr.tape, ht.output.trans hr.output, ?_, fun j b gb hj hg hrw hob => ?_⟩
    · intro j b gb' hj hg'
      obtain ⟨rfl, rfl⟩ := only j b hj
      rw [hg] at hg'
      cases hg'
      obtain ⟨cs, fr, hh, h3, h4, _, _⟩ := hr.blk 0 (bareB o) gb rfl hg
      exact ⟨cs, fr, hroot.trans hh, h3, h4, fun h => (by cases h), fun h => (by cases h)⟩
    · intro i j bi bj gi gj hij hi hj
      obtain ⟨rfl, _⟩ := only i bi hi
      obtain ⟨rfl, _⟩ := only j bj hj
      exact (hij rfl).elim
    · refine (ht.same k (Nat.lt_of_lt_of_le hk hr.size) fun hk' => ?_).trans (hr.frame k hk hF)
      rcases (hA.own 0 k hk').2 with h | h
      · omega
      · exact hF h
    · refine ⟨fun j k => j = 0 ∧ fp' k, fun j k => j = 0 ∧ rp 0 k, ?_, ?_, ?_, ?_, ?_, hA.rr, ?_⟩
      · intro j b gb' o1 hj hg' hob
        obtain ⟨rfl, rfl⟩ := only j b hj
        rw [hg] at hg'
        cases hg'
        cases hob
        have e1 : (fun k => (0 : Nat) = 0 ∧ fp' k) = fp' := funext fun k => propext ⟨fun h => h.2, fun h => ⟨rfl, h⟩⟩
        have e2 : (fun k => (0 : Nat) = 0 ∧ rp 0 k) = rp 0 := funext fun k => propext ⟨fun h => h.2, fun h => ⟨rfl, h⟩⟩
        rw [e1, e2]
        exact ⟨hrep', rfl⟩
      · rintro j k ⟨rfl, hk⟩
        refine ⟨ho.lt k hk, ?_⟩
        rcases ho.old k hk with h | h
        · exact (hA.own 0 k h).2
        · exact .inl (Nat.le_trans hr.size h)
      · rintro j k ⟨rfl, hk⟩
        exact hA.ro 0 k hk
      · rintro i j k hij ⟨rfl, _⟩ ⟨rfl, _⟩
        exact hij rfl
      · intro i b gb' j hi hg' hob
        obtain ⟨rfl, rfl⟩ := only i b hi
        cases hob
      · rintro j k ⟨_, hk⟩
        exact ho.mine k hk
    · obtain ⟨rfl, rfl⟩ := only j b hj
      cases hob
  · rcases hv with hv | rfl
    · exact bareV_VR _ hv
    · exact .tup .nil
end Go.AE
end
section
namespace Go.AE
variable {P : Program}
theorem Rel.cells {c : Ctx} {g : List (Option GB)} {m : Mem} {W : World} (hr : Rel P c g m W) {j : Nat} {b : ABlk} {l : List Value} (hj : m[j]? = some (some b)) (hl : l.length = b.cells.length) (hc : ∀ t, F2 (SR g) b.cells t → F2 (SR g) l t) :
    Rel P c g (m.set j (some { b with cells := l })) W := by
  have hb : ∀ (i : Nat) (y : ABlk), (m.set j (some { b with cells := l }))[i]? = some (some y) → ∃ x, m[i]? = some (some x) ∧ x.elem = y.elem ∧ x.rw = y.rw ∧ x.ex = y.ex ∧ y.cells.length = x.cells.length ∧ (∀ t, F2 (SR g) x.cells t → F2 (SR g) y.cells t) ∧ x.ob = y.ob := by
    intro i y hy
    by_cases hij : j = i
    · subst hij
      rw [List.getElem?_set_self (lt_of_getElem? hj)] at hy
      cases hy
      exact ⟨b, hj, rfl, rfl, rfl, hl, hc, rfl⟩
    · rw [List.getElem?_set_ne hij] at hy
      exact ⟨y, hy, rfl, rfl, rfl, rfl, fun _ h => h, rfl⟩
  refine ⟨by rw [hr.len, List.length_set], ?_, ?_, hr.frame, hr.size, hr.os, hr.tape, hr.output, ?_, ?_⟩
  rotate_right
  · intro j y gb hj hg e1 e2
    obtain ⟨x, hx, _, h2, _, _, _, h5⟩ := hb j y hj
    exact hr.ro j x gb hx hg (h2.trans e1) (h5.trans e2)
  rotate_right
  · obtain ⟨fp, rp, hA⟩ := hr.objs
    refine ⟨fp, rp, ?_, hA.own, hA.ro, hA.dis, ?_, hA.rr, hA.cel⟩
    · intro j y gb o hj hg ho
      obtain ⟨x, hx, _, h2, _, _, _, h5⟩ := hb j y hj
      have := hA.rep j x gb o hx hg (h5.trans ho)
      exact ⟨this.1, h2 ▸ this.2⟩
    · intro i y gb j hi hg ho
      obtain ⟨x, hx, _, _, _, _, _, h5⟩ := hb i y hi
      exact hA.oth i x gb j hx hg (h5.trans ho)
  · intro j y gb hj hg
    obtain ⟨x, hx, h1, h2, h3, hl, h4, _⟩ := hb j y hj
    obtain ⟨cs, fr, hh, hf, hsz, hrw, hex⟩ := hr.blk j x gb hx hg
    refine ⟨cs, fr, hh, ?_, ?_, fun h => (by rw [hl, ← h1]; exact hrw (h2.trans h)), fun h => hex (h3.trans h)⟩
    · rw [hl]; exact h4 _ hf
    · rw [hl]; exact hsz
  · intro i j bi bj gi gj hne hi hj hrw hgi hgj
    obtain ⟨x, hx, _, h2, _⟩ := hb i bi hi
    obtain ⟨y, hy, _⟩ := hb j bj hj
    exact hr.inj i j x y gi gj hne hx hy (h2.trans hrw) hgi hgj
theorem Sees.nilCell {n₀ : Nat} {a : List Value} {m : Mem} {j q : Nat} {b : ABlk} (hj : m[j]? = some (some b)) (hq : b.cells[q]? = some (.slice none 0 0)) (nb : Option ABlk) :
    Sees n₀ a m a (m.set j (some { b with cells := b.cells.set q (.slice (some ⟨m.length, 0, none⟩) 0 0) }) ++ [nb]) := by
  intro P c g₀ g A W hn hr ha
  refine ⟨g ++ [none], ?_, by rw [← List.append_assoc]; exact ha.app⟩
  rw [← List.append_assoc]
  have h1 := hr.ghost nb
  have hl : m.length < (g₀ ++ g ++ [none]).length := by rw [List.length_append, hr.len]; simp
  have hj1 : (m ++ [nb])[j]? = some (some b) := AE.getElem?_app hj
  have h2 := h1.cells (l := b.cells.set q (.slice (some ⟨m.length, 0, none⟩) 0 0)) hj1 (List.length_set ..) fun t ht => by
    refine F2.of_get (by rw [List.length_set]; exact ht.length) fun k x y hx hy => ?_
    by_cases hk : q = k
    · subst hk
      rw [List.getElem?_set_self (lt_of_getElem? hq)] at hx
      cases hx
      obtain ⟨w, hw, hv⟩ := ht.get q _ hq
      rw [hy] at hw
      cases hw
      cases hv with
      | slice0 => exact .nilS _ _ _ hl
      | _ => exact .nilS _ _ _ hl
    · rw [List.getElem?_set_ne hk] at hx
      obtain ⟨w, hw, hv⟩ := ht.get k x hx
      rw [hy] at hw
      cases hw
      exact hv
  rwa [List.set_append_left _ _ (lt_of_getElem? hj)] at h2
theorem Sees.low {n₀ n₁ : Nat} {a a' : List Value} {m m' : Mem} (h : Sees n₁ a m a' m') (h0 : n₀ ≤ n₁) (h1 : n₁ ≤ m.length) : Sees n₀ a m a' m' := by
  intro P c g₀ g A W hn hr ha
  have hlen : (g₀ ++ g).length = m.length := hr.len
  rw [List.length_append] at hlen
  have e : g₀ ++ g = (g₀ ++ g.take (n₁ - n₀)) ++ g.drop (n₁ - n₀) := by rw [List.append_assoc, List.take_append_drop]
  rw [e] at hr ha
  obtain ⟨g', hr', ha'⟩ := h P c _ _ A W (by rw [List.length_append, List.length_take]; omega) hr ha
  rw [List.append_assoc] at hr' ha'
  exact ⟨_, hr', ha'⟩
theorem AWp.outS {n₀ n₁ : Nat} {x : Code} {K : Exit → List Value → Mem → Prop} {a : List Value} {m : Mem} (h0 : n₁ = m.length) (h : AWp P n₀ x (fun e a m => K e a m ∨ (n₁ ≤ m.length ∧ ∃ a' m', Sees n₁ a m a' m' ∧ K e a' m')) a m) : AWp P n₀ x K a m := by
  intro c g₀ g A W hn hr ha ds ro rm hc
  have h0 : n₀ ≤ n₁ := by
    have := hr.len
    rw [List.length_append] at this
    omega
  refine wpIn_mono (h c g₀ g A W hn hr ha ds ro rm hc) ?_
  rintro e A' W' ⟨a1, m1, g', c', ds', hK, hx, hr', ht, hd⟩
  rcases hK with hK | ⟨hlen, a2, m2, hs, hK⟩
  · exact ⟨a1, m1, g', c', ds', hK, hx, hr', ht, hd⟩
  · obtain ⟨g2, hr2, ha2⟩ := (hs.low h0 hlen) P c' g₀ g' { A' with defers := [] } W' hn hr' ⟨ht, rfl⟩
    exact ⟨a2, m2, g2, c', ds', hK, hx, hr2, ha2.tmps, hd⟩
end Go.AE
end
