/-
  An abstract logic for the model (part 7): how frames and memories look, evaluated by functions. Conditions: none.
-/
import Derived.Test.YtfohjnfdgegfcaaDoorAe6
namespace Go.AE
variable {P : Program}

theorem SR.oneCell {g : List (Option GB)} {v w : Value} (h : SR g v w) : w.oneCell' = true := by
  have := h.scalar.2
  cases w <;> first | rfl | cases this

theorem F2.oneCell {g : List (Option GB)} {xs ys : List Value} (h : F2 (SR g) xs ys) : ∀ u ∈ ys, u.oneCell' = true := by
  induction h with
  | nil => intro u hu; cases hu
  | cons hr _ ih =>
    intro u hu
    cases hu with
    | head => exact hr.oneCell
    | tail _ hu => exact ih u hu

/-- The cells that an append or a copy takes. -/
def srcA (m : Mem) (size : Nat) (x : Value) : Option (Nat × Bool × List Value) :=
  match x with
  | .slice none 0 0 => some (0, true, [])
  | .slice (some ⟨j, off, none⟩) n _ =>
    match m[j]? with
    | some (some b) => some (n, decide (off + n * size ≤ b.cells.length), (b.cells.drop off).take (n * size))
    | _ => none
  | .string s => some ((bl s).length, size == 1, (bl s).map fun b => .int .u8 b.toNat)
  | _ => none

theorem srcA_ok {m : Mem} {size n : Nat} {cnd : Bool} {x x' : Value} {xs : List Value} (h : srcA m size x = some (n, cnd, xs)) (hc : cnd = true) {c : Ctx} {g : List (Option GB)} {W : World} (hr : Rel P c g m W) (hx : VR g x x') :
    ∃ ys, (Builtin.lenOf x').run P W = .ok n W ∧ (∀ W', W'.heap = W.heap → (Builtin.firstCells size n x').run P W' = .ok ⟨ys⟩ W') ∧ F2 (SR g) xs ys ∧ xs.length = n * size := by
  unfold srcA at h
  split at h
  · simp only [Option.some.injEq, Prod.mk.injEq] at h
    obtain ⟨rfl, rfl, rfl⟩ := h
    cases hx with
    | a hx => cases hx with
      | s hx => cases hx with
        | slice0 => exact ⟨[], rfl, fun W' _ => rfl, .nil, by simp⟩
  · rename_i j off n' cap
    split at h
    case h_2 => cases h
    rename_i b hj
    simp only [Option.some.injEq, Prod.mk.injEq] at h
    obtain ⟨rfl, rfl, rfl⟩ := h
    have hc' := of_decide_eq_true hc
    cases hx with
    | a hx => cases hx with
      | s hx => cases hx with
        | slice _ _ _ _ gb hg =>
          obtain ⟨ys, hf, hcell⟩ := hr.cellsAt hj hg hc'
          have hlen : ((b.cells.drop off).take (n' * size)).length = n' * size := by simp; omega
          refine ⟨ys, rfl, fun W' hW => ?_, hf, hlen⟩
          exact run_firstCells_some (P := P) W' size n' ⟨gb.b, off, none⟩ n' (cap + gb.extra) ys (by rw [← hf.length, hlen]) fun k v hk => by rw [cell?_heap hW]; exact hcell k v hk
  · simp only [Option.some.injEq, Prod.mk.injEq] at h
    obtain ⟨rfl, rfl, rfl⟩ := h
    obtain rfl := SR.inv_str hx
    rename_i s
    have hs1 : size = 1 := by simpa using hc
    subst hs1
    refine ⟨(bl s).map fun b => .int .u8 b.toNat, by rw [size_bl]; rfl, fun W' _ => ?_, F2.refl _ fun x hx => ?_, by simp⟩
    · show Result.ok ((s.extract 0 (bl s).length).data.map fun b => Value.int .u8 b.toNat) W' = _
      rw [extract_eq]
      congr 1
      apply Array.ext'
      simp
      rw [List.take_of_length_le]
      rw [List.length_map, size_bl]; exact Nat.le_refl _
    · obtain ⟨b, _, rfl⟩ := List.mem_map.1 hx
      exact .int _ _
  · cases h

/-- In place of a block of its own a row with more capacity may be written on. -/
theorem Rel.growIn {c : Ctx} {g : List (Option GB)} {m : Mem} {W : World} (hr : Rel P c g m W) {j : Nat} {b : ABlk} {gb : GB} (hj : m[j]? = some (some b)) (hg : g[j]? = some (some gb)) (hrw : b.rw = true)
    {len n cap size : Nat} (hsz : P.cellsOf b.elem = size) (hcap : b.cells.length = cap * size) (hlc : len ≤ cap) (hroom : len + n ≤ cap + gb.extra) {xs ys : List Value} (hf : F2 (SR g) xs ys) (hn : xs.length = n * size) :
    ∃ W', (Go.storeCells ⟨gb.b, len * size, none⟩ ys).run P W = .ok () W' ∧ Rel P c (g ++ [some ⟨gb.b, cap + gb.extra - (len + n)⟩]) (m.set j none ++ [grownBlk b.elem (b.cells.take (len * size) ++ xs)]) W' := by
  obtain ⟨cs, fr, hh, hcs, hx, hown0, _⟩ := hr.blk j b gb hj hg
  obtain ⟨rfl, hown⟩ := hown0 hrw
  have hys : ys.length = n * size := by rw [← hf.length, hn]
  have e1 : (len + n) * size ≤ (cap + gb.extra) * size := Nat.mul_le_mul_right _ hroom
  rw [Nat.add_mul, Nat.add_mul] at e1
  rw [hsz, hcap] at hx
  have hst := run_storeCells_at P gb.b (len * size) b.elem ys 0 cs W hh (by rw [hys]; simp only [Nat.add_zero]; omega) hf.oneCell
  simp only [Nat.add_zero] at hst
  refine ⟨_, hst, ?_⟩
  generalize hrow : (cs.toList.take (len * size) ++ ys ++ cs.toList.drop (len * size + ys.length)).toArray = row
  have hjl := lt_of_getElem? hj
  have hat : ∀ k, (W.setRow gb.b row).heap[k]? = if gb.b = k then some (.cells row b.elem (0, 0)) else W.heap[k]? := by
    intro k
    split
    · rename_i e; subst e; exact setRow_heap W gb.b cs row b.elem (0, 0) hh
    · rename_i e; exact setRow_other W gb.b k row (fun h => e h.symm)
  have hlcs : len * size ≤ cs.size := by have := Nat.mul_le_mul_right size hlc; omega
  have get : ∀ (k : Nat) (bk : ABlk), (m.set j none)[k]? = some (some bk) → m[k]? = some (some bk) ∧ k ≠ j := by
    intro k bk hk
    rw [List.getElem?_set] at hk
    split at hk
    · first | (cases hk; done) | (split at hk <;> cases hk)
    · rename_i e; exact ⟨hk, fun h => e h.symm⟩
  have split' : ∀ (k : Nat) (bk : ABlk) (gk : GB), (m.set j none ++ [grownBlk b.elem (b.cells.take (len * size) ++ xs)])[k]? = some (some bk) → (g ++ [some ⟨gb.b, cap + gb.extra - (len + n)⟩])[k]? = some (some gk) →
      (m[k]? = some (some bk) ∧ k ≠ j ∧ g[k]? = some (some gk)) ∨ (k = m.length ∧ bk = ⟨b.cells.take (len * size) ++ xs, b.elem, true, false⟩ ∧ gk = ⟨gb.b, cap + gb.extra - (len + n)⟩) := by
    intro k bk gk hk hgk
    rcases Nat.lt_trichotomy k m.length with hl | hl | hl
    · rw [List.getElem?_append_left (by simpa using hl)] at hk
      rw [List.getElem?_append_left (by rw [hr.len]; exact hl)] at hgk
      exact .inl ⟨(get k bk hk).1, (get k bk hk).2, hgk⟩
    · subst hl
      rw [List.getElem?_append_right (by simp)] at hk
      rw [← hr.len, List.getElem?_append_right (Nat.le_refl _)] at hgk
      simp [grownBlk] at hk hgk
      exact .inr ⟨rfl, hk.symm, hgk.symm⟩
    · rw [List.getElem?_eq_none (by simp; omega)] at hk; cases hk
  refine ⟨by simp [hr.len], ?_, ?_, ?_, ?_, hr.os, hr.tape, hr.output⟩
  · intro k bk gk hk hgk
    rcases split' k bk gk hk hgk with ⟨hk, hne, hgk⟩ | ⟨rfl, rfl, rfl⟩
    · obtain ⟨cs', fr', hh', hf', rest⟩ := hr.blk k bk gk hk hgk
      refine ⟨cs', fr', ?_, hf'.imp fun _ _ h => h.app, rest⟩
      rw [hat, if_neg (hr.inj j k b bk gb gk (fun h => hne h.symm) hj hk hrw hg hgk), hh']
    · refine ⟨row, (0, 0), by rw [hat, if_pos rfl], ?_, ?_, fun _ => ⟨rfl, hown⟩, by simp⟩
      · have h1 : F2 (SR g) (b.cells.take (len * size) ++ xs) (cs.toList.take (len * size) ++ ys) := by
          refine F2.append ?_ hf
          have := hcs.take (len * size)
          rw [List.take_take] at this
          rw [show min (len * size) b.cells.length = len * size from by rw [hcap]; exact Nat.min_eq_left (Nat.mul_le_mul_right size hlc)] at this
          exact this
        have h2 : row.toList.take (b.cells.take (len * size) ++ xs).length = cs.toList.take (len * size) ++ ys := by
          rw [h1.length, ← hrow]
          rw [List.take_left]
        rw [h2]
        exact h1.imp fun _ _ h => h.app
      · have hrs : row.size = cs.size := by
          rw [← hrow]; simp; omega
        rw [hrs, hsz]
        simp only [List.length_append, List.length_take, hcap, hn]
        have e2 : min (len * size) (cap * size) = len * size := Nat.min_eq_left (Nat.mul_le_mul_right size hlc)
        rw [e2, Nat.sub_mul, Nat.add_mul, Nat.add_mul]
        omega
  · intro p q bp bq gp gq hne hp hq hrwp hgp hgq
    rcases split' p bp gp hp hgp with ⟨hp, np, hgp⟩ | ⟨rfl, rfl, rfl⟩ <;> rcases split' q bq gq hq hgq with ⟨hq, nq, hgq⟩ | ⟨rfl, rfl, rfl⟩
    · exact hr.inj p q bp bq gp gq hne hp hq hrwp hgp hgq
    · exact hr.inj p j bp b gp gb np hp hj hrwp hgp hg
    · exact hr.inj j q b bq gb gq (fun h => nq h.symm) hj hq hrw hg hgq
    · exact absurd rfl hne
  · intro k hk hF
    rw [hat, if_neg, hr.frame k hk hF]
    intro e
    subst e
    rcases hown with h1 | h1
    · omega
    · exact hF h1
  · simpa using hr.size
end Go.AE
