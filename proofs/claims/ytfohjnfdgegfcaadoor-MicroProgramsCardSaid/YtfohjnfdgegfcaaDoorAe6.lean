/-
  An abstract logic for the model (part 6): how frames and memories look, evaluated by functions. Conditions: none.
-/
import Derived.Test.YtfohjnfdgegfcaaDoorAe5
namespace Go.AE
variable {P : Program}

/-- How an evaluation answers: a proposition, or a value reckoned outright. -/
structure Ops (R : Type) where
  br : Bool → R → R → R
  nd : Bool → R → R
  fl : R
  ld : Option Value → (Value → R) → R
  call : FuncId → List Value → Mem → (Value → Mem → R) → R
  code : Code → List Value → Mem → (Exit → List Value → Mem → R) → R
  pcall : FuncId → List Value → Mem → (Value → Option ABlk → R) → R

/-- What its answers are worth. -/
structure Ans (P : Program) (n₀ : Nat) (R : Type) extends Ops R where
  holds : R → Prop
  br_ok : ∀ c t e, holds (br c t e) → (c = true → holds t) ∧ (c = false → holds e)
  nd_ok : ∀ c r, holds (nd c r) → c = true ∧ holds r
  fl_ok : ¬ holds fl
  ld_ok : ∀ o k, holds (ld o k) → ∃ v, o = some v ∧ holds (k v)
  call_ok : ∀ f as m k, holds (call f as m k) → ACall P f as m fun v m' => holds (k v m')
  code_ok : ∀ x a m k, holds (code x a m k) → AWp P n₀ x (fun e a' m' => holds (k e a' m')) a m
  pcall_ok : ∀ f as m k, holds (pcall f as m k) → ∃ v nb, ACall P f as m (fun v' m' => v' = v ∧ m.length ≤ m'.length ∧ m'.drop m.length = nb.toList.map some) ∧ holds (k v nb)

instance {P : Program} {n₀ : Nat} {R : Type} : CoeOut (Ans P n₀ R) (Ops R) := ⟨Ans.toOps⟩

/-- What one operation comes to. -/
def OpDone (P : Program) (c : Ctx) (g₀ : List (Option GB)) (g : List (Option GB)) (N : Value → Mem → Prop) : Result Next → Prop
  | .ok (.value w) W' => ∃ v m' g', N v m' ∧ Rel P c (g₀ ++ (g ++ g')) m' W' ∧ VR (g₀ ++ (g ++ g')) v w
  | .ok .skip W' => ∃ m' g', N undef m' ∧ Rel P c (g₀ ++ (g ++ g')) m' W'
  | .ok (.enter f args) W' => Calls P f args W' fun e W'' => ∃ v w m' g', e = .returned w ∧ N v m' ∧ Rel P c (g₀ ++ (g ++ g')) m' W'' ∧ VR (g₀ ++ (g ++ g')) v w
  | _ => False

/-- Stores row by row. -/
def writeL (cells : List Value) (off : Nat) : List Value → List Value
  | [] => cells
  | x :: xs => writeL (cells.set off x) (off + 1) xs
theorem writeL_length : ∀ (xs : List Value) (cells : List Value) (off : Nat), (writeL cells off xs).length = cells.length
  | [], _, _ => rfl
  | x :: xs, cells, off => by simp [writeL, writeL_length xs]

theorem run_storeSR {g : List (Option GB)} {v w u : Value} (hv : SR g v w) {W : World} {a : Addr} (hc : W.cell? a = some u) (hf : W.frozen? a = false) : (store a w).run P W = .ok () (W.setCell a w) := by
  have h := hv.scalar.2
  cases w <;> first | (simp [store, Sem.run, hc, hf]; done) | (cases h; done)

theorem Rel.storeCells {c : Ctx} {g : List (Option GB)} : ∀ (xs ys : List Value) (i : Nat) (m : Mem) (W : World) (j : Nat) (b : ABlk) (gb : GB) (off : Nat), Rel P c g m W → m[j]? = some (some b) → g[j]? = some (some gb) → b.rw = true →
    off + i + xs.length ≤ b.cells.length → F2 (SR g) xs ys →
    ∃ W', (storeCells ⟨gb.b, off, none⟩ ys i).run P W = .ok () W' ∧ Rel P c g (m.set j (some { b with cells := writeL b.cells (off + i) xs })) W'
  | [], [], i, m, W, j, b, gb, off, hr, hj, hg, hrw, hl, _ => by
    refine ⟨W, rfl, ?_⟩
    have : m.set j (some { b with cells := writeL b.cells (off + i) [] }) = m := by
      have hlt := lt_of_getElem? hj
      apply List.ext_getElem?
      intro k
      rw [List.getElem?_set]
      split
      · rename_i e; subst e; rw [hj]; rfl
      · rfl
    rw [this]; exact hr
  | x :: xs, y :: ys, i, m, W, j, b, gb, off, hr, hj, hg, hrw, hl, .cons hxy hf => by
    simp only [List.length_cons] at hl
    have hi : off + i < b.cells.length := by omega
    obtain ⟨u, hu, _⟩ := hr.cell hj hg (List.getElem?_eq_getElem hi)
    have hr' := hr.setCell hj hg hrw (off + i) hxy
    have hlt := lt_of_getElem? hj
    have hj' : (m.set j (some { b with cells := b.cells.set (off + i) x }))[j]? = some (some { b with cells := b.cells.set (off + i) x }) := by
      rw [List.getElem?_set, if_pos rfl, if_pos hlt]
    obtain ⟨W', h1, h2⟩ := Rel.storeCells xs ys (i + 1) _ _ j _ gb off hr' hj' hg hrw (by simp; omega) hf
    refine ⟨W', ?_, ?_⟩
    · simp only [Go.storeCells, Sem.run_bind, Addr.add_lit, run_storeSR hxy hu (hr.frozen hj hg hrw _), Result.andThen_ok]
      exact h1
    · rw [List.set_set] at h2
      exact h2

theorem Rel.cellsAt {c : Ctx} {g : List (Option GB)} {m : Mem} {W : World} (hr : Rel P c g m W) {j : Nat} {b : ABlk} {gb : GB} (hj : m[j]? = some (some b)) (hg : g[j]? = some (some gb)) {off n : Nat} (_hl : off + n ≤ b.cells.length) :
    ∃ ys, F2 (SR g) ((b.cells.drop off).take n) ys ∧ ∀ k v, ys[k]? = some v → W.cell? ((⟨gb.b, off, none⟩ : Addr).add k) = some v := by
  obtain ⟨cs, fr, hh, hf, _⟩ := hr.blk j b gb hj hg
  refine ⟨((cs.toList.take b.cells.length).drop off).take n, (hf.drop off).take n, ?_⟩
  intro k v hk
  rw [List.getElem?_take] at hk
  split at hk
  case isFalse => cases hk
  rw [List.getElem?_drop, List.getElem?_take] at hk
  split at hk
  case isFalse => cases hk
  rw [Addr.add_lit]
  simp [World.cell?, hh]
  simpa using hk

theorem cell?_heap {W W' : World} (h : W'.heap = W.heap) (a : Addr) : W'.cell? a = W.cell? a := by simp [World.cell?, h]

theorem Rel.loadCells {c : Ctx} {g : List (Option GB)} {m : Mem} {W : World} (hr : Rel P c g m W) {j : Nat} {b : ABlk} {gb : GB} (hj : m[j]? = some (some b)) (hg : g[j]? = some (some gb)) {off n : Nat} (hl : off + n ≤ b.cells.length) :
    ∃ ys, (loadCells ⟨gb.b, off, none⟩ n).run P W = .ok ⟨ys⟩ W ∧ F2 (SR g) ((b.cells.drop off).take n) ys := by
  obtain ⟨ys, hf, hc⟩ := hr.cellsAt hj hg hl
  refine ⟨ys, ?_, hf⟩
  have hn : ys.length = n := by have := hf.length; simp at this; omega
  have := run_loadCells_list (P := P) W ⟨gb.b, off, none⟩ ys hc
  rw [hn] at this
  exact this

/-- A load. -/
def evLoad {R : Type} (X : Ops R) (T : Tab P) (t : TypeId) (addr : Value) (m : Mem) (k : Value → R) : R :=
  match T.und t, T.inf t, addr with
  | some d, some ti, .pointer (some ⟨j, off, none⟩) =>
    match m[j]? with
    | some (some b) => if isAggD d then X.nd (decide (off + ti.size ≤ b.cells.length)) (k (.agg ⟨(b.cells.drop off).take ti.size⟩)) else X.ld (b.cells[off]?) k
    | _ => X.fl
  | _, _, _ => X.fl

theorem evLoad_ok {n₀ : Nat} {R : Type} {X : Ans P n₀ R} {T : Tab P} {t : TypeId} {addr addr' : Value} {m : Mem} {k : Value → R} (h : X.holds (evLoad X T t addr m k)) {c : Ctx} {g : List (Option GB)} {W : World} (hr : Rel P c g m W) (ha : VR g addr addr') :
    ∃ v w, (Instr.loadAt t addr').run P W = .ok w W ∧ VR g v w ∧ X.holds (k v) := by
  unfold evLoad at h
  split at h
  case h_2 => exact absurd h X.fl_ok
  rename_i d ti j off hd hti
  split at h
  case h_2 => exact absurd h X.fl_ok
  rename_i b hj
  cases ha with
  | a ha => cases ha with
    | s ha => cases ha with
      | ptr _ _ gb hg =>
        split at h
        · rename_i hagg
          obtain ⟨hc, h⟩ := X.nd_ok _ _ h
          obtain ⟨ys, hys, hf⟩ := hr.loadCells hj hg (of_decide_eq_true hc)
          refine ⟨_, .agg ⟨ys⟩, ?_, .agg hf, h⟩
          simp [Instr.loadAt, Instr.sureAddr, loadVar, T.run_isAgg hd, hagg, T.run_size hti, hys]
        · rename_i hagg
          obtain ⟨v, hv, h⟩ := X.ld_ok _ _ h
          obtain ⟨w, hw, hs⟩ := hr.cell hj hg hv
          refine ⟨v, w, ?_, .s hs, h⟩
          simp [Instr.loadAt, Instr.sureAddr, loadVar, T.run_isAgg hd, hagg, hw]

/-- A store. -/
def evStore {R : Type} (X : Ops R) (T : Tab P) (t : TypeId) (addr x : Value) (m : Mem) (k : Mem → R) : R :=
  match T.inf t, addr with
  | some ti, .pointer (some ⟨j, off, none⟩) =>
    match m[j]? with
    | some (some b) =>
      if b.rw && cellsOk x then X.nd (decide (x.cells.toList.length = ti.size ∧ off + x.cells.toList.length ≤ b.cells.length)) (k (m.set j (some { b with cells := writeL b.cells off x.cells.toList }))) else X.fl
    | _ => X.fl
  | _, _ => X.fl

theorem evStore_ok {n₀ : Nat} {R : Type} {X : Ans P n₀ R} {T : Tab P} {t : TypeId} {addr addr' x x' : Value} {m : Mem} {k : Mem → R} (h : X.holds (evStore X T t addr x m k)) {c : Ctx} {g : List (Option GB)} {W : World} (hr : Rel P c g m W) (ha : VR g addr addr')
    (hx : VR g x x') : ∃ W' m', (Instr.storeAt t addr' x').run P W = .ok () W' ∧ Rel P c g m' W' ∧ X.holds (k m') := by
  unfold evStore at h
  split at h
  case h_2 => exact absurd h X.fl_ok
  rename_i ti j off hti
  split at h
  case h_2 => exact absurd h X.fl_ok
  rename_i b hj
  split at h
  case isFalse => exact absurd h X.fl_ok
  rename_i hb
  simp only [Bool.and_eq_true] at hb
  obtain ⟨hc, h⟩ := X.nd_ok _ _ h
  obtain ⟨hc1, hc2⟩ := of_decide_eq_true hc
  cases ha with
  | a ha => cases ha with
    | s ha => cases ha with
      | ptr _ _ gb hg =>
        have hcs := hx.cells hb.2
        obtain ⟨W', h1, h2⟩ := hr.storeCells x.cells.toList x'.cells.toList 0 m W j b gb off hj hg hb.1 (by omega) hcs
        refine ⟨W', _, ?_, h2, h⟩
        have hl := hcs.length
        simp only [Array.length_toList] at hl
        rw [Array.length_toList] at hc1
        simp [Instr.storeAt, Instr.sureAddr, storeVar, T.run_size hti, ← hl, hc1, h1]

/-- A new block that bears these cells; one that an append made. -/
def newBlk (e : TypeId) (cells : List Value) : Option ABlk := some ⟨cells, e, true, true⟩
def grownBlk (e : TypeId) (cells : List Value) : Option ABlk := some ⟨cells, e, true, false⟩

theorem run_newRow (e : TypeId) (cs : List Value) (W : World) : (newRow e ⟨cs⟩).run P W = .ok ⟨W.heap.size, 0, none⟩ (W.alloc (.cells ⟨cs⟩ e)) := rfl

theorem Rel.newRow {c : Ctx} {g : List (Option GB)} {m : Mem} {W : World} (hr : Rel P c g m W) {xs ys : List Value} (hf : F2 (SR g) xs ys) (e : TypeId) :
    Rel P c (g ++ [some ⟨W.heap.size, 0⟩]) (m ++ [newBlk e xs]) (W.alloc (.cells ⟨ys⟩ e)) := by
  refine hr.alloc e 0 true (fun _ => rfl) ?_ ?_
  · rw [List.take_of_length_le (by rw [hf.length]; exact Nat.le_refl _)]; exact hf
  · rw [hf.length]; omega

theorem last_app {g : List (Option GB)} {x : Option GB} {m : Mem} (h : g.length = m.length) : (g ++ [x])[m.length]? = some x := by
  rw [← h, List.getElem?_append_right (Nat.le_refl _)]; simp
end Go.AE
