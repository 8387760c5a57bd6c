/-
  An abstract logic for the model (part 1): how frames and memories look, evaluated by functions. Conditions: none.
-/
import Derived.WalkKit
import Derived.Deep.LoopGhost
namespace Go.AE

/-- Two lists, element by element. -/
inductive F2 {α β : Type} (R : α → β → Prop) : List α → List β → Prop
  | nil : F2 R [] []
  | cons {x : α} {y : β} {xs : List α} {ys : List β} : R x y → F2 R xs ys → F2 R (x :: xs) (y :: ys)

namespace F2
variable {α β : Type} {R : α → β → Prop}
theorem length {l : List α} {l' : List β} (h : F2 R l l') : l.length = l'.length := by
  induction h with
  | nil => rfl
  | cons _ _ ih => simp [ih]
theorem get {l : List α} {l' : List β} (h : F2 R l l') : ∀ (i : Nat) (x : α), l[i]? = some x → ∃ y, l'[i]? = some y ∧ R x y := by
  induction h with
  | nil => intro i x hx; simp at hx
  | cons hr _ ih =>
    intro i x hx
    cases i with
    | zero => simp at hx; subst hx; exact ⟨_, by simp, hr⟩
    | succ i => simp at hx; obtain ⟨y, hy, hr'⟩ := ih i x hx; exact ⟨y, by simpa using hy, hr'⟩
theorem of_get : ∀ {l : List α} {l' : List β}, l.length = l'.length → (∀ (i : Nat) (x : α) (y : β), l[i]? = some x → l'[i]? = some y → R x y) → F2 R l l'
  | [], [], _, _ => .nil
  | x :: l, y :: l', hl, h => .cons (h 0 x y (by simp) (by simp)) (of_get (by simpa using hl) fun i x y hx hy => h (i + 1) x y (by simpa using hx) (by simpa using hy))
  | [], _ :: _, hl, _ => by simp at hl
  | _ :: _, [], hl, _ => by simp at hl
theorem imp {S : α → β → Prop} {l : List α} {l' : List β} (h : F2 R l l') (hi : ∀ x y, R x y → S x y) : F2 S l l' := by
  induction h with
  | nil => exact .nil
  | cons hr _ ih => exact .cons (hi _ _ hr) ih
theorem append {l₁ l₂ : List α} {l₁' l₂' : List β} (h : F2 R l₁ l₁') (h' : F2 R l₂ l₂') : F2 R (l₁ ++ l₂) (l₁' ++ l₂') := by
  induction h with
  | nil => exact h'
  | cons hr _ ih => exact .cons hr ih
theorem take {l : List α} {l' : List β} (h : F2 R l l') (n : Nat) : F2 R (l.take n) (l'.take n) := by
  induction h generalizing n with
  | nil => simp; exact .nil
  | cons hr _ ih => cases n with
    | zero => exact .nil
    | succ n => exact .cons hr (ih n)
theorem drop {l : List α} {l' : List β} (h : F2 R l l') (n : Nat) : F2 R (l.drop n) (l'.drop n) := by
  induction h generalizing n with
  | nil => simp; exact .nil
  | cons hr h ih => cases n with
    | zero => exact .cons hr h
    | succ n => exact ih n
theorem set {l : List α} {l' : List β} (h : F2 R l l') (n : Nat) {x : α} {y : β} (hr : R x y) : F2 R (l.set n x) (l'.set n y) := by
  induction h generalizing n with
  | nil => exact .nil
  | cons hr' h ih => cases n with
    | zero => exact .cons hr h
    | succ n => exact .cons hr' (ih n)
theorem replicate (n : Nat) {x : α} {y : β} (hr : R x y) : F2 R (List.replicate n x) (List.replicate n y) := by
  induction n with
  | zero => exact .nil
  | succ n ih => exact .cons hr ih
theorem refl {R : α → α → Prop} (l : List α) (h : ∀ x ∈ l, R x x) : F2 R l l := by
  induction l with
  | nil => exact .nil
  | cons x l ih => exact .cons (h x (by simp)) (ih fun y hy => h y (by simp [hy]))
theorem map {γ δ : Type} {S : γ → δ → Prop} {f : α → γ} {f' : β → δ} {l : List α} {l' : List β} (h : F2 R l l') (hi : ∀ x y, R x y → S (f x) (f' y)) : F2 S (l.map f) (l'.map f') := by
  induction h with
  | nil => exact .nil
  | cons hr _ ih => exact .cons (hi _ _ hr) ih
end F2

/-- What a block of the abstract memory stands for: the block's number, and how many elements more its slices can take than the abstract ones say. -/
structure GB where
  b : Nat
  extra : Nat

/-- A block of the abstract memory: its cells, its elements' type, whether it may be written, whether its slices' capacities are known to the number. -/
structure ABlk where
  cells : List Value
  elem : TypeId
  rw : Bool
  ex : Bool

abbrev Mem := List (Option ABlk)

/-- No knowledge of a value. -/
def topV : Value := .map (some 0)

/-- A value of one cell. -/
def scalarV : Value → Bool
  | .agg _ => false
  | .tuple _ => false
  | _ => true

inductive SR (g : List (Option GB)) : Value → Value → Prop
  | top (w : Value) : scalarV w = true → SR g (.map (some 0)) w
  | bool (b : Bool) : SR g (.bool b) (.bool b)
  | int (k : IntKind) (n : Int) : SR g (.int k n) (.int k n)
  | str (s : ByteArray) : SR g (.string s) (.string s)
  | ptr0 : SR g (.pointer none) (.pointer none)
  | ptr (j off : Nat) (gb : GB) : g[j]? = some (some gb) → SR g (.pointer (some ⟨j, off, none⟩)) (.pointer (some ⟨gb.b, off, none⟩))
  | slice0 : SR g (.slice none 0 0) (.slice none 0 0)
  | slice (j off len cap : Nat) (gb : GB) : g[j]? = some (some gb) → SR g (.slice (some ⟨j, off, none⟩) len cap) (.slice (some ⟨gb.b, off, none⟩) len (cap + gb.extra))
  | nilFunc : SR g .nilFunc .nilFunc
  | nilIface : SR g .nilIface .nilIface
  | func (fn : Fn) : SR g (.func fn #[] #[]) (.func fn #[] #[])

inductive AR (g : List (Option GB)) : Value → Value → Prop
  | s {v w : Value} : SR g v w → AR g v w
  | agg {xs ys : List Value} : F2 (SR g) xs ys → AR g (.agg ⟨xs⟩) (.agg ⟨ys⟩)

inductive VR (g : List (Option GB)) : Value → Value → Prop
  | a {v w : Value} : AR g v w → VR g v w
  | tup {xs ys : List Value} : F2 (AR g) xs ys → VR g (.tuple ⟨xs⟩) (.tuple ⟨ys⟩)
  | top (v : Value) : VR g topV v

theorem getElem?_app {α : Type} {g g' : List α} {j : Nat} {x : α} (h : g[j]? = some x) : (g ++ g')[j]? = some x := by
  have hl : j < g.length := by
    rcases Nat.lt_or_ge j g.length with h' | h'
    · exact h'
    · rw [List.getElem?_eq_none h'] at h; cases h
  rw [List.getElem?_append_left hl, h]

theorem SR.app {g g' : List (Option GB)} {v w : Value} (h : SR g v w) : SR (g ++ g') v w := by
  cases h with
  | top _ h => exact .top _ h
  | ptr j off gb h => exact .ptr j off gb (getElem?_app h)
  | slice j off len cap gb h => exact .slice j off len cap gb (getElem?_app h)
  | bool => exact .bool _
  | int => exact .int _ _
  | str => exact .str _
  | ptr0 => exact .ptr0
  | slice0 => exact .slice0
  | nilFunc => exact .nilFunc
  | nilIface => exact .nilIface
  | func => exact .func _
theorem AR.app {g g' : List (Option GB)} {v w : Value} (h : AR g v w) : AR (g ++ g') v w := by
  cases h with
  | s h => exact .s h.app
  | agg h => exact .agg (h.imp fun _ _ h => h.app)
theorem VR.app {g g' : List (Option GB)} {v w : Value} (h : VR g v w) : VR (g ++ g') v w := by
  cases h with
  | a h => exact .a h.app
  | tup h => exact .tup (h.imp fun _ _ h => h.app)
  | top => exact .top _
theorem VR.s {g : List (Option GB)} {v w : Value} (h : SR g v w) : VR g v w := .a (.s h)
theorem VR.agg {g : List (Option GB)} {xs ys : List Value} (h : F2 (SR g) xs ys) : VR g (.agg ⟨xs⟩) (.agg ⟨ys⟩) := .a (.agg h)

/-- What every world here has: the library's number at the first place. -/
def Good (W : World) (F : Nat → Prop) : Prop := ¬ F 0 ∧ ∃ n, W.cell? ⟨0, 0, none⟩ = some (.int .i64 n)

/-- The world that a call began with, and the blocks that it may write besides its own. -/
structure Ctx where
  W : World
  F : Nat → Prop
  good : Good W F

/-- The abstract memory 'm' is how the world 'W' looks. -/
structure Rel (P : Program) (c : Ctx) (g : List (Option GB)) (m : Mem) (W : World) : Prop where
  len : g.length = m.length
  blk : ∀ (j : Nat) (b : ABlk) (gb : GB), m[j]? = some (some b) → g[j]? = some (some gb) → ∃ cs fr, W.heap[gb.b]? = some (.cells cs b.elem fr) ∧
    F2 (SR g) b.cells (cs.toList.take b.cells.length) ∧ b.cells.length + gb.extra * P.cellsOf b.elem ≤ cs.size ∧
    (b.rw = true → fr = (0, 0) ∧ (c.W.heap.size ≤ gb.b ∨ c.F gb.b)) ∧ (b.ex = true → gb.extra = 0)
  inj : ∀ (i j : Nat) (bi bj : ABlk) (gi gj : GB), i ≠ j → m[i]? = some (some bi) → m[j]? = some (some bj) → bi.rw = true → g[i]? = some (some gi) → g[j]? = some (some gj) → gi.b ≠ gj.b
  frame : ∀ k, k < c.W.heap.size → ¬ c.F k → W.heap[k]? = c.W.heap[k]?
  size : c.W.heap.size ≤ W.heap.size
  os : W.os = c.W.os
  tape : W.tape = c.W.tape
  output : W.output = c.W.output

theorem Rel.good {P : Program} {c : Ctx} {g : List (Option GB)} {m : Mem} {W : World} (h : Rel P c g m W) : Good W fun _ => False := by
  obtain ⟨h0, n, hn⟩ := c.good
  refine ⟨fun h => h, n, ?_⟩
  have hl : 0 < c.W.heap.size := by
    rcases Nat.lt_or_ge 0 c.W.heap.size with h' | h'
    · exact h'
    · simp only [World.cell?, Array.getElem?_eq_none h'] at hn
      cases hn
  rw [← hn]
  simp only [World.cell?, h.frame 0 hl h0]

/-- The abstract frame 'a' is how the frame 'A' looks. -/
structure ARel (g : List (Option GB)) (a : List Value) (A : Act) : Prop where
  tmps : F2 (VR g) a A.tmps.toList
  defers : A.defers = []

theorem ARel.app {g g' : List (Option GB)} {a : List Value} {A : Act} (h : ARel g a A) : ARel (g ++ g') a A := ⟨h.tmps.imp fun _ _ h => h.app, h.defers⟩

theorem Rel.drew {P : Program} {c : Ctx} {g : List (Option GB)} {m : Mem} {W : World} (h : Rel P c g m W) : Rel P c g m W.drew :=
  ⟨h.len, h.blk, h.inj, h.frame, h.size, h.os, h.tape, h.output⟩

/-- A cell that the abstract memory knows. -/
theorem Rel.cell {P : Program} {c : Ctx} {g : List (Option GB)} {m : Mem} {W : World} (h : Rel P c g m W) {j : Nat} {b : ABlk} {gb : GB} (hj : m[j]? = some (some b)) (hg : g[j]? = some (some gb))
    {i : Nat} {v : Value} (hi : b.cells[i]? = some v) : ∃ w, W.cell? ⟨gb.b, i, none⟩ = some w ∧ SR g v w := by
  obtain ⟨cs, fr, hh, hf, _⟩ := h.blk j b gb hj hg
  obtain ⟨w, hw, hr⟩ := hf.get i v hi
  refine ⟨w, ?_, hr⟩
  have hl : i < b.cells.length := by
    rcases Nat.lt_or_ge i b.cells.length with h' | h'
    · exact h'
    · rw [List.getElem?_eq_none h'] at hi; cases hi
  rw [List.getElem?_take, if_pos hl] at hw
  simp [World.cell?, hh]
  simpa using hw

theorem Rel.frozen {P : Program} {c : Ctx} {g : List (Option GB)} {m : Mem} {W : World} (h : Rel P c g m W) {j : Nat} {b : ABlk} {gb : GB} (hj : m[j]? = some (some b)) (hg : g[j]? = some (some gb))
    (hrw : b.rw = true) (i : Nat) : W.frozen? ⟨gb.b, i, none⟩ = false := by
  obtain ⟨cs, fr, hh, _, _, hr, _⟩ := h.blk j b gb hj hg
  obtain ⟨rfl, _⟩ := hr hrw
  simp [World.frozen?, hh]

/-- A store into a cell that the abstract memory knows. -/
theorem Rel.setCell {P : Program} {c : Ctx} {g : List (Option GB)} {m : Mem} {W : World} (h : Rel P c g m W) {j : Nat} {b : ABlk} {gb : GB} (hj : m[j]? = some (some b)) (hg : g[j]? = some (some gb))
    (hrw : b.rw = true) (i : Nat) {v w : Value} (hv : SR g v w) :
    Rel P c g (m.set j (some { b with cells := b.cells.set i v })) (W.setCell ⟨gb.b, i, none⟩ w) := by
  obtain ⟨cs, fr, hh, hf, hsz, hr, hnr⟩ := h.blk j b gb hj hg
  obtain ⟨rfl, hown⟩ := hr hrw
  have hjl : j < m.length := by
    rcases Nat.lt_or_ge j m.length with h' | h'
    · exact h'
    · rw [List.getElem?_eq_none h'] at hj; cases hj
  have hat : ∀ k, (W.setCell ⟨gb.b, i, none⟩ w).heap[k]? = if gb.b = k then some (.cells (cs.setIfInBounds i w) b.elem (0, 0)) else W.heap[k]? := by
    intro k
    simp only [World.setCell, Array.getElem?_modify]
    split
    · rename_i e; subst e; rw [hh]; rfl
    · rfl
  refine ⟨by simp [h.len], ?_, ?_, ?_, ?_, h.os, h.tape, h.output⟩
  · intro j' b' gb' hj' hg'
    rw [List.getElem?_set] at hj'
    by_cases e : j = j'
    · subst e
      rw [if_pos rfl, if_pos hjl] at hj'
      simp only [Option.some.injEq] at hj'
      subst hj'
      obtain rfl : gb = gb' := by rw [hg] at hg'; exact Option.some.inj (Option.some.inj hg')
      refine ⟨cs.setIfInBounds i w, (0, 0), by rw [hat, if_pos rfl], ?_, by simpa using hsz, fun _ => ⟨rfl, hown⟩, hnr⟩
      have := hf.set i hv
      simp only [Array.toList_setIfInBounds, List.length_set]
      rw [List.take_set]
      exact this
    · rw [if_neg e] at hj'
      obtain ⟨cs', fr', hh', rest⟩ := h.blk j' b' gb' hj' hg'
      refine ⟨cs', fr', ?_, rest⟩
      rw [hat, if_neg (h.inj j j' b b' gb gb' e hj hj' hrw hg hg'), hh']
  · intro p q bp bq gp gq hne hp hq hrwp hgp hgq
    have get : ∀ (k : Nat) (bk : ABlk), (m.set j (some { b with cells := b.cells.set i v }))[k]? = some (some bk) → ∃ bk' : ABlk, m[k]? = some (some bk') ∧ bk'.rw = bk.rw := by
      intro k bk hk
      rw [List.getElem?_set] at hk
      by_cases e : j = k
      · subst e
        rw [if_pos rfl, if_pos hjl] at hk
        simp only [Option.some.injEq] at hk
        subst hk
        exact ⟨b, hj, rfl⟩
      · rw [if_neg e] at hk
        exact ⟨bk, hk, rfl⟩
    obtain ⟨bp', hp', ep⟩ := get p bp hp
    obtain ⟨bq', hq', _⟩ := get q bq hq
    exact h.inj p q bp' bq' gp gq hne hp' hq' (ep ▸ hrwp) hgp hgq
  · intro k hk hF
    rw [hat, if_neg, h.frame k hk hF]
    intro e
    subst e
    rcases hown with h1 | h1
    · omega
    · exact hF h1
  · simpa [World.setCell] using h.size

theorem lt_of_getElem? {α : Type} {l : List α} {i : Nat} {x : α} (h : l[i]? = some x) : i < l.length := by
  rcases Nat.lt_or_ge i l.length with h' | h'
  · exact h'
  · rw [List.getElem?_eq_none h'] at h; cases h

/-- A new block. -/
theorem Rel.alloc {P : Program} {c : Ctx} {g : List (Option GB)} {m : Mem} {W : World} (h : Rel P c g m W) {cells : List Value} {cs : List Value} (elem : TypeId) (extra : Nat) (ex : Bool) (hex : ex = true → extra = 0)
    (hc : F2 (SR g) cells (cs.take cells.length)) (hx : cells.length + extra * P.cellsOf elem ≤ cs.length) :
    Rel P c (g ++ [some ⟨W.heap.size, extra⟩]) (m ++ [some ⟨cells, elem, true, ex⟩]) (W.alloc (.cells ⟨cs⟩ elem)) := by
  have hold : ∀ k, k < W.heap.size → (W.alloc (.cells ⟨cs⟩ elem)).heap[k]? = W.heap[k]? := by
    intro k hk
    show (W.heap.push _)[k]? = _
    rw [Array.getElem?_push, if_neg (by omega)]
  have hnew : (W.alloc (.cells ⟨cs⟩ elem)).heap[W.heap.size]? = some (.cells ⟨cs⟩ elem (0, 0)) := by
    show (W.heap.push _)[W.heap.size]? = _
    rw [Array.getElem?_push, if_pos rfl]
  have hlt : ∀ (j : Nat) (b : ABlk) (gb : GB), m[j]? = some (some b) → g[j]? = some (some gb) → gb.b < W.heap.size := by
    intro j b gb hj hg
    obtain ⟨cs, fr, hh, _⟩ := h.blk j b gb hj hg
    rcases Nat.lt_or_ge gb.b W.heap.size with h' | h'
    · exact h'
    · rw [Array.getElem?_eq_none h'] at hh; cases hh
  have split : ∀ (j : Nat) (b : ABlk) (gb : GB), (m ++ [some ⟨cells, elem, true, ex⟩])[j]? = some (some b) → (g ++ [some ⟨W.heap.size, extra⟩])[j]? = some (some gb) →
      (m[j]? = some (some b) ∧ g[j]? = some (some gb)) ∨ (j = m.length ∧ b = ⟨cells, elem, true, ex⟩ ∧ gb = ⟨W.heap.size, extra⟩) := by
    intro j b gb hj hg
    rcases Nat.lt_trichotomy j m.length with hl | hl | hl
    · rw [List.getElem?_append_left hl] at hj
      rw [List.getElem?_append_left (by rw [h.len]; exact hl)] at hg
      exact .inl ⟨hj, hg⟩
    · subst hl
      rw [List.getElem?_append_right (Nat.le_refl _)] at hj
      rw [← h.len, List.getElem?_append_right (Nat.le_refl _)] at hg
      simp at hj hg
      exact .inr ⟨rfl, hj.symm, hg.symm⟩
    · rw [List.getElem?_eq_none (by simp; omega)] at hj; cases hj
  refine ⟨by simp [h.len], ?_, ?_, ?_, ?_, h.os, h.tape, h.output⟩
  · intro j b gb hj hg
    rcases split j b gb hj hg with ⟨hj, hg⟩ | ⟨rfl, rfl, rfl⟩
    · obtain ⟨cs', fr', hh', hf', rest⟩ := h.blk j b gb hj hg
      exact ⟨cs', fr', by rw [hold _ (hlt j b gb hj hg), hh'], hf'.imp fun _ _ h => h.app, rest⟩
    · exact ⟨⟨cs⟩, (0, 0), hnew, hc.imp fun _ _ h => h.app, hx, fun _ => ⟨rfl, .inl h.size⟩, hex⟩
  · intro p q bp bq gp gq hne hp hq hrw hgp hgq
    rcases split p bp gp hp hgp with ⟨hp, hgp⟩ | ⟨rfl, rfl, rfl⟩ <;> rcases split q bq gq hq hgq with ⟨hq, hgq⟩ | ⟨rfl, rfl, rfl⟩
    · exact h.inj p q bp bq gp gq hne hp hq hrw hgp hgq
    · have := hlt p bp gp hp hgp; show gp.b ≠ W.heap.size; omega
    · have := hlt q bq gq hq hgq; show W.heap.size ≠ gq.b; omega
    · exact absurd rfl hne
  · intro k hk hF
    rw [hold k (Nat.lt_of_lt_of_le hk h.size), h.frame k hk hF]
  · show _ ≤ (W.heap.push _).size
    have := h.size
    simp; omega

/-- A block is let go: nothing is known of it any more. -/
theorem Rel.kill {P : Program} {c : Ctx} {g : List (Option GB)} {m : Mem} {W : World} (h : Rel P c g m W) (j : Nat) : Rel P c g (m.set j none) W := by
  have get : ∀ (k : Nat) (bk : ABlk), (m.set j none)[k]? = some (some bk) → m[k]? = some (some bk) := by
    intro k bk hk
    rw [List.getElem?_set] at hk
    split at hk
    · split at hk <;> simp at hk
    · exact hk
  exact ⟨by simp [h.len], fun j' b gb hj hg => h.blk j' b gb (get _ _ hj) hg, fun p q bp bq gp gq hne hp hq => h.inj p q bp bq gp gq hne (get _ _ hp) (get _ _ hq), h.frame, h.size, h.os, h.tape, h.output⟩
end Go.AE
