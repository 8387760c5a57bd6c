/-
  An abstract logic for the model (part 16): how frames and memories look, evaluated by functions. Conditions: none.
-/
import Derived.Test.YtfohjnfdgegfcaaDoorAe15
namespace Go.AE
variable {P : Program} {r : RD} {G₀ : List (Option GB)}

/-- One quiet operation comes up. -/
theorem RSt.next {c : Ctx} {E : Nat → Bool} {G : List (Option GB)} {A : Act} {W W' : World} (h : RDOK P r) (s : RSt P r c G₀ E G A W) {i : Nat} {o : Oper} (hi : i < r.q) (ho : r.all[i]? = some o) (hE : E i = false) {w : Value}
    (hf : QFin P (G.take (r.id i)) (memFor (r.cls.getD i []) r.m (r.sl i)) W (r.d i) w W') (hrw : ∀ b, (r.d i).nb = some b → b.rw = true) : ∃ G', RSt P r c G₀ (fun k => E k || k == i) G' (A.put o.dst w) W' := by
  obtain ⟨g', gd, hr', hv⟩ := hf
  have hdst : r.dst i = o.dst := by simp [RD.dst, ho]
  have hold : ∀ k, k < W.heap.size → W'.heap[k]? = W.heap[k]? := fun k hk => hr'.frame k hk (fun h => h)
  have still : Rel P c G (r.mE E) W' := s.rel.still hold hr'.size hr'.os hr'.tape hr'.output
  obtain ⟨more, hm, _⟩ := RD.sl_split h hi
  have hidl : r.id i ≤ G.length := by rw [s.rel.len, r.mE_length, hm]; simp [RD.id]
  have htl : (G.take (r.id i)).length = r.id i := by rw [List.length_take, Nat.min_eq_left hidl]
  have hml : (memFor (r.cls.getD i []) r.m (r.sl i)).length = r.id i := by simp [memFor, roM, RD.id]
  cases hnb : (r.d i).nb with
  | none =>
    rw [hnb] at hr'
    have hg' : g' = [] := by
      have := hr'.len
      simp only [List.length_append, htl, hml, Option.toList_none, List.map_nil, List.length_nil] at this
      exact List.length_eq_zero_iff.1 (by omega)
    subst hg'
    rw [List.append_nil] at hv
    refine ⟨G, ?_, ?_, s.base, ?_, ?_⟩
    · rw [RD.mE_none h hi hnb]; exact still
    · rw [RD.frE_put h hi hE, hdst]; exact s.frm.putA o.dst (hv.gle (Gle.take _ _))
    · intro k b hk hEk hb
      simp only [Bool.or_eq_false_iff] at hEk
      exact s.none_ k b hk hEk.1 hb
    · intro j b gb hj hg
      rw [RD.mE_none h hi hnb] at hj
      exact s.low j b gb hj hg
  | some b =>
    rw [hnb] at hr'
    have hg' : ∃ x, g' = [x] := by
      have := hr'.len
      simp only [List.length_append, htl, hml, Option.toList_some, List.map_cons, List.map_nil, List.length_cons, List.length_nil] at this
      exact List.length_eq_one_iff.1 (by omega)
    obtain ⟨x, rfl⟩ := hg'
    obtain ⟨hlt, hnone, hset⟩ := RD.mE_some h hi hE hnb
    have hidG : r.id i < G.length := by rw [s.rel.len]; exact hlt
    have hGn : G[r.id i]? = some none := s.none_ i b hi hE hnb
    have hle : Gle G (G.set (r.id i) x) := Gle.set hGn x
    have hle2 : Gle (G.take (r.id i) ++ [x]) (G.set (r.id i) x) := Gle.take_set x hidG
    have hbrw := hrw b hnb
    have hlast : (memFor (r.cls.getD i []) r.m (r.sl i) ++ (some b : Option ABlk).toList.map some)[r.id i]? = some (some b) := by
      rw [List.getElem?_append_right (by rw [hml]; exact Nat.le_refl _), hml]; simp
    have hlastg : (G.take (r.id i) ++ [x])[r.id i]? = some x := by
      rw [List.getElem?_append_right (by rw [htl]; exact Nat.le_refl _), htl]; simp
    have newb : ∀ gb, x = some gb → ∃ cs fr, W'.heap[gb.b]? = some (.cells cs b.elem fr) ∧ F2 (SR (G.take (r.id i) ++ [x])) b.cells (cs.toList.take b.cells.length) ∧ b.cells.length + gb.extra * P.cellsOf b.elem ≤ cs.size ∧
        (fr = (0, 0) ∧ W.heap.size ≤ gb.b) ∧ (b.ex = true → gb.extra = 0) := by
      intro gb hx
      obtain ⟨cs, fr, hh, hf, hsz, hown, hex⟩ := hr'.blk (r.id i) b gb hlast (by rw [hlastg, hx])
      obtain ⟨h1, h2⟩ := hown hbrw
      exact ⟨cs, fr, hh, hf, hsz, ⟨h1, h2.resolve_right (fun h => h)⟩, hex⟩
    have oldb : ∀ (j : Nat) (bj : ABlk) (gj : GB), (r.mE E)[j]? = some (some bj) → G[j]? = some (some gj) → gj.b < W.heap.size := by
      intro j bj gj hj hgj
      obtain ⟨cs, fr, hh, _⟩ := s.rel.blk j bj gj hj hgj
      rcases Nat.lt_or_ge gj.b W.heap.size with h' | h'
      · exact h'
      · rw [Array.getElem?_eq_none h'] at hh; cases hh
    have split : ∀ (j : Nat) (bj : ABlk) (gj : GB), ((r.mE E).set (r.id i) (some b))[j]? = some (some bj) → (G.set (r.id i) x)[j]? = some (some gj) →
        (j ≠ r.id i ∧ (r.mE E)[j]? = some (some bj) ∧ G[j]? = some (some gj)) ∨ (j = r.id i ∧ bj = b ∧ x = some gj) := by
      intro j bj gj hj hgj
      by_cases e : r.id i = j
      · rw [List.getElem?_set, if_pos e, if_pos hlt] at hj
        rw [List.getElem?_set, if_pos e, if_pos hidG] at hgj
        simp only [Option.some.injEq] at hj hgj
        exact .inr ⟨e.symm, hj.symm, hgj⟩
      · rw [List.getElem?_set, if_neg e] at hj hgj
        exact .inl ⟨fun h => e h.symm, hj, hgj⟩
    refine ⟨G.set (r.id i) x, ?_, ?_, fun j hj => by rw [List.getElem?_set, if_neg (by simp only [RD.id]; omega)]; exact s.base j hj, ?_, ?_⟩
    · rw [hset]
      refine ⟨by simp [still.len], ?_, ?_, still.frame, still.size, still.os, still.tape, still.output⟩
      · intro j bj gj hj hgj
        rcases split j bj gj hj hgj with ⟨_, hj, hgj⟩ | ⟨rfl, rfl, hx⟩
        · obtain ⟨cs, fr, hh, hf, rest⟩ := still.blk j bj gj hj hgj
          exact ⟨cs, fr, hh, hf.imp fun _ _ h => h.gle hle, rest⟩
        · obtain ⟨cs, fr, hh, hf, hsz, ⟨h1, h2⟩, hex⟩ := newb gj hx
          exact ⟨cs, fr, hh, hf.imp fun _ _ h => h.gle hle2, hsz, fun _ => ⟨h1, .inl (Nat.le_trans s.rel.size h2)⟩, hex⟩
      · intro p q bp bq gp gq hne hp hq hrwp hgp hgq
        rcases split p bp gp hp hgp with ⟨np, hp2, hgp2⟩ | ⟨ep, ebp, hx⟩ <;> rcases split q bq gq hq hgq with ⟨nq, hq2, hgq2⟩ | ⟨eq, ebq, hx'⟩
        · exact still.inj p q bp bq gp gq hne hp2 hq2 hrwp hgp2 hgq2
        · obtain ⟨_, _, _, _, _, ⟨_, h2⟩, _⟩ := newb gq hx'
          have := oldb p bp gp hp2 hgp2
          omega
        · obtain ⟨_, _, _, _, _, ⟨_, h2⟩, _⟩ := newb gp hx
          have := oldb q bq gq hq2 hgq2
          omega
        · exact absurd (ep.trans eq.symm) hne
    · rw [RD.frE_put h hi hE, hdst]
      exact ARel.putA ⟨s.frm.tmps.imp fun _ _ h => h.gle hle, s.frm.defers⟩ o.dst (hv.gle hle2)
    · intro k bk hk hEk hb
      simp only [Bool.or_eq_false_iff, beq_eq_false_iff_ne] at hEk
      have h1 := s.none_ k bk hk hEk.1 hb
      rw [List.getElem?_set, if_neg]
      · exact h1
      · intro e
        -- two new blocks never share a place
        have lt_id : ∀ p q, p < q → q < r.q → ∀ bb, (r.d p).nb = some bb → r.id p < r.id q := by
          intro p q hpq hq bb hbb
          obtain ⟨more, hm, _⟩ := RD.sl_prefix h (q - (p + 1)) (p + 1) (by omega)
          rw [show p + 1 + (q - (p + 1)) = q from by omega] at hm
          have hpl : p < r.all.length := by have := h.le; omega
          obtain ⟨_, _, _, hs⟩ := h.step p r.all[p] (by omega) (List.getElem?_eq_getElem hpl)
          rw [hs, hbb] at hm
          simp only [RD.id, hm]
          simp
        rcases Nat.lt_trichotomy i k with hl | hl | hl
        · have := lt_id i k hl hk b hnb; omega
        · exact hEk.2 hl.symm
        · have := lt_id k i hl hi bk hb; omega
    · intro j bj gj hj hgj
      rw [hset] at hj
      rcases split j bj gj hj hgj with ⟨_, hj2, hgj2⟩ | ⟨rfl, rfl, hx⟩
      · exact s.low j bj gj hj2 hgj2
      · obtain ⟨cs, fr, hh, hf, _⟩ := newb gj hx
        have := hf.lowS
        rw [List.length_append, htl] at this
        refine all_lowS_le ?_ this
        simp; omega

/-- How many of the first n are among E. -/
def cnt (E : Nat → Bool) (n : Nat) : Nat := ((List.range n).filter E).length
theorem cnt_succ (E : Nat → Bool) (n : Nat) : cnt E (n + 1) = cnt E n + if E n then 1 else 0 := by
  unfold cnt
  rw [List.range_succ, List.filter_append]
  cases h : E n <;> simp [h]
theorem cnt_le (E : Nat → Bool) : ∀ n, cnt E n ≤ n
  | 0 => by simp [cnt]
  | n + 1 => by rw [cnt_succ]; have := cnt_le E n; split <;> omega
theorem cnt_congr {E E' : Nat → Bool} : ∀ {n : Nat}, (∀ k, k < n → E k = E' k) → cnt E n = cnt E' n
  | 0, _ => rfl
  | n + 1, h => by rw [cnt_succ, cnt_succ, cnt_congr fun k hk => h k (by omega), h n (by omega)]
theorem cnt_or {E : Nat → Bool} {i : Nat} (hE : E i = false) : ∀ {n : Nat}, i < n → cnt (fun k => E k || k == i) n = cnt E n + 1
  | 0, h => by omega
  | n + 1, h => by
    rw [cnt_succ, cnt_succ]
    by_cases hn : i = n
    · subst hn
      have : cnt (fun k => E k || k == i) i = cnt E i := cnt_congr fun k hk => by
        have : (k == i) = false := by simpa using Nat.ne_of_lt hk
        simp [this]
      rw [this, hE]; simp
    · have : (n == i) = false := by simpa using fun e => hn e.symm
      rw [cnt_or hE (by omega), this]; simp; omega
theorem cnt_full {E : Nat → Bool} : ∀ {n : Nat}, cnt E n = n → ∀ k, k < n → E k = true
  | 0, _, k, hk => by omega
  | n + 1, h, k, hk => by
    rw [cnt_succ] at h
    have := cnt_le E n
    cases hn : E n with
    | false => rw [hn] at h; simp at h; omega
    | true =>
      rw [hn] at h
      simp at h
      by_cases e : k = n
      · subst e; exact hn
      · exact cnt_full h k (by omega)
end Go.AE
