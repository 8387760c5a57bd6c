/-
  An abstract logic for the model, and a symbolic executor over it (part 1). Conditions: none.
-/
import Derived.WalkKit
import Derived.Deep.LoopGhost
import Derived.CallsIn
import Derived.ControlIn
import Derived.OrdersIn
import Derived.TacticsIn
import Derived.RangeFuncNested
import Derived.RangeFuncCalls
import Derived.Sort.LoopGhostIn
import Derived.RangeFuncFrom
import Derived.RangeFuncWrites
import Derived.ChangeKeysEq
set_option linter.unusedVariables false
set_option linter.unusedSimpArgs false
set_option linter.unnecessarySimpa false
set_option linter.constructorNameAsVariable false
section
namespace Go.AE
inductive F2 {α β : Type} (R : α → β → Prop) : List α → List β → Prop
  | nil : F2 R [] []
  | cons {x : α} {y : β} {xs : List α} {ys : List β} : R x y → F2 R xs ys → F2 R (x :: xs) (y :: ys)
namespace F2
variable {α β : Type} {R : α → β → Prop}
theorem length {l : List α} {l' : List β} (h : F2 R l l') : l.length = l'.length := by
  induction h with
  | nil => rfl
  | cons _ _ ih => simp [ih]
theorem get {l : List α} {l' : List β} (h : F2 R l l') : ∀ (i : Nat) (x : α), l[i]? = some x → ∃ y, l'[i]? = some y ∧ R x y := by
  induction h with
  | nil => intro i x hx; simp at hx
  | cons hr _ ih =>
    intro i x hx
    cases i with
    | zero => simp at hx; subst hx; exact ⟨_, by simp, hr⟩
    | succ i => simp at hx; obtain ⟨y, hy, hr'⟩ := ih i x hx; exact ⟨y, by simpa using hy, hr'⟩
theorem of_get : ∀ {l : List α} {l' : List β}, l.length = l'.length → (∀ (i : Nat) (x : α) (y : β), l[i]? = some x → l'[i]? = some y → R x y) → F2 R l l'
  | [], [], _, _ => .nil
  | x :: l, y :: l', hl, h => .cons (h 0 x y (by simp) (by simp)) (of_get (by simpa using hl) fun i x y hx hy => h (i + 1) x y (by simpa using hx) (by simpa using hy))
  | [], _ :: _, hl, _ => by simp at hl
  | _ :: _, [], hl, _ => by simp at hl
theorem imp {S : α → β → Prop} {l : List α} {l' : List β} (h : F2 R l l') (hi : ∀ x y, R x y → S x y) : F2 S l l' := by
  induction h with
  | nil => exact .nil
  | cons hr _ ih => exact .cons (hi _ _ hr) ih
theorem append {l₁ l₂ : List α} {l₁' l₂' : List β} (h : F2 R l₁ l₁') (h' : F2 R l₂ l₂') : F2 R (l₁ ++ l₂) (l₁' ++ l₂') := by
  induction h with
  | nil => exact h'
  | cons hr _ ih => exact .cons hr ih
theorem take {l : List α} {l' : List β} (h : F2 R l l') (n : Nat) : F2 R (l.take n) (l'.take n) := by
  induction h generalizing n with
  | nil => simp; exact .nil
  | cons hr _ ih => cases n with
    | zero => exact .nil
    | succ n => exact .cons hr (ih n)
theorem drop {l : List α} {l' : List β} (h : F2 R l l') (n : Nat) : F2 R (l.drop n) (l'.drop n) := by
  induction h generalizing n with
  | nil => simp; exact .nil
  | cons hr h ih => cases n with
    | zero => exact .cons hr h
    | succ n => exact ih n
theorem set {l : List α} {l' : List β} (h : F2 R l l') (n : Nat) {x : α} {y : β} (hr : R x y) : F2 R (l.set n x) (l'.set n y) := by
  induction h generalizing n with
  | nil => exact .nil
  | cons hr' h ih => cases n with
    | zero => exact .cons hr h
    | succ n => exact .cons hr' (ih n)
theorem replicate (n : Nat) {x : α} {y : β} (hr : R x y) : F2 R (List.replicate n x) (List.replicate n y) := by
  induction n with
  | zero => exact .nil
  | succ n ih => exact .cons hr ih
theorem refl {R : α → α → Prop} (l : List α) (h : ∀ x ∈ l, R x x) : F2 R l l := by
  induction l with
  | nil => exact .nil
  | cons x l ih => exact .cons (h x (by simp)) (ih fun y hy => h y (by simp [hy]))
theorem map {γ δ : Type} {S : γ → δ → Prop} {f : α → γ} {f' : β → δ} {l : List α} {l' : List β} (h : F2 R l l') (hi : ∀ x y, R x y → S (f x) (f' y)) : F2 S (l.map f) (l'.map f') := by
  induction h with
  | nil => exact .nil
  | cons hr _ ih => exact .cons (hi _ _ hr) ih
end F2
structure GB where
  b : Nat
  base : Nat
  extra : Nat
structure Ob where
  rep : GB → World → (Nat → Prop) → (Nat → Prop) → Prop
  loc : ∀ {r : GB} {W W' : World} {fp rp : Nat → Prop}, rep r W fp rp → (∀ k, fp k ∨ rp k → W'.heap[k]? = W.heap[k]?) → rep r W' fp rp
  root : ∀ {r : GB} {W : World} {fp rp : Nat → Prop}, rep r W fp rp → fp r.b ∨ rp r.b
structure ABlk where
  cells : List Value
  elem : TypeId
  rw : Bool
  ex : Bool
  ob : Option Ob
abbrev Mem := List (Option ABlk)
def topV : Value := .map (some 0)
def scalarV : Value → Bool
  | .agg _ => false
  | .tuple _ => false
  | _ => true
inductive SR0 (g : List (Option GB)) : Value → Value → Prop
  | bool (b : Bool) : SR0 g (.bool b) (.bool b)
  | int (k : IntKind) (n : Int) : SR0 g (.int k n) (.int k n)
  | str (s : ByteArray) : SR0 g (.string s) (.string s)
  | ptr0 : SR0 g (.pointer none) (.pointer none)
  | ptr (j off : Nat) (gb : GB) : g[j]? = some (some gb) → SR0 g (.pointer (some ⟨j, off, none⟩)) (.pointer (some ⟨gb.b, gb.base + off, none⟩))
  | slice0 : SR0 g (.slice none 0 0) (.slice none 0 0)
  | slice (j off len cap : Nat) (gb : GB) : g[j]? = some (some gb) → SR0 g (.slice (some ⟨j, off, none⟩) len cap) (.slice (some ⟨gb.b, gb.base + off, none⟩) len (cap + gb.extra))
  | nilS (j off : Nat) (a : Option Addr) : j < g.length → SR0 g (.slice (some ⟨j, off, none⟩) 0 0) (.slice a 0 0)
  | func (fn : Fn) : SR0 g (.func fn #[] #[]) (.func fn #[] #[])
inductive AR0 (g : List (Option GB)) : Value → Value → Prop
  | s {v w : Value} : SR0 g v w → AR0 g v w
  | agg {xs ys : List Value} : F2 (SR0 g) xs ys → AR0 g (.agg ⟨xs⟩) (.agg ⟨ys⟩)
inductive SR (g : List (Option GB)) : Value → Value → Prop
  | top (w : Value) : scalarV w = true → SR g (.map (some 0)) w
  | bool (b : Bool) : SR g (.bool b) (.bool b)
  | int (k : IntKind) (n : Int) : SR g (.int k n) (.int k n)
  | str (s : ByteArray) : SR g (.string s) (.string s)
  | ptr0 : SR g (.pointer none) (.pointer none)
  | ptr (j off : Nat) (gb : GB) : g[j]? = some (some gb) → SR g (.pointer (some ⟨j, off, none⟩)) (.pointer (some ⟨gb.b, gb.base + off, none⟩))
  | slice0 : SR g (.slice none 0 0) (.slice none 0 0)
  | slice (j off len cap : Nat) (gb : GB) : g[j]? = some (some gb) → SR g (.slice (some ⟨j, off, none⟩) len cap) (.slice (some ⟨gb.b, gb.base + off, none⟩) len (cap + gb.extra))
  | nilFunc : SR g .nilFunc .nilFunc
  | nilIface : SR g .nilIface .nilIface
  | func (fn : Fn) : SR g (.func fn #[] #[]) (.func fn #[] #[])
  | nilS (j off : Nat) (a : Option Addr) : j < g.length → SR g (.slice (some ⟨j, off, none⟩) 0 0) (.slice a 0 0)
  | clo (fn : Fn) {f c f' c' : List Value} : F2 (AR0 g) f f' → F2 (AR0 g) c c' → SR g (.func fn ⟨f⟩ ⟨c⟩) (.func fn ⟨f'⟩ ⟨c'⟩)
inductive AR (g : List (Option GB)) : Value → Value → Prop
  | s {v w : Value} : SR g v w → AR g v w
  | agg {xs ys : List Value} : F2 (SR g) xs ys → AR g (.agg ⟨xs⟩) (.agg ⟨ys⟩)
inductive VR (g : List (Option GB)) : Value → Value → Prop
  | a {v w : Value} : AR g v w → VR g v w
  | tup {xs ys : List Value} : F2 (AR g) xs ys → VR g (.tuple ⟨xs⟩) (.tuple ⟨ys⟩)
  | top (v : Value) : VR g topV v
theorem getElem?_app {α : Type} {g g' : List α} {j : Nat} {x : α} (h : g[j]? = some x) : (g ++ g')[j]? = some x := by
  have hl : j < g.length := by
    rcases Nat.lt_or_ge j g.length with h' | h'
    · exact h'
    · rw [List.getElem?_eq_none h'] at h; cases h
  rw [List.getElem?_append_left hl, h]
theorem SR0.app {g g' : List (Option GB)} {v w : Value} (h : SR0 g v w) : SR0 (g ++ g') v w := by
  cases h with
  | ptr j off gb h => exact .ptr j off gb (getElem?_app h)
  | slice j off len cap gb h => exact .slice j off len cap gb (getElem?_app h)
  | bool => exact .bool _
  | int => exact .int _ _
  | str => exact .str _
  | ptr0 => exact .ptr0
  | slice0 => exact .slice0
  | func => exact .func _
  | nilS j off _ h => exact .nilS _ _ _ (by rw [List.length_append]; omega)
theorem AR0.app {g g' : List (Option GB)} {v w : Value} (h : AR0 g v w) : AR0 (g ++ g') v w := by
  cases h with
  | s h => exact .s h.app
  | agg h => exact .agg (h.imp fun _ _ h => h.app)
theorem SR.app {g g' : List (Option GB)} {v w : Value} (h : SR g v w) : SR (g ++ g') v w := by
  cases h with
  | top _ h => exact .top _ h
  | ptr j off gb h => exact .ptr j off gb (getElem?_app h)
  | slice j off len cap gb h => exact .slice j off len cap gb (getElem?_app h)
  | bool => exact .bool _
  | int => exact .int _ _
  | str => exact .str _
  | ptr0 => exact .ptr0
  | slice0 => exact .slice0
  | nilFunc => exact .nilFunc
  | nilIface => exact .nilIface
  | func => exact .func _
  | nilS j off _ h => exact .nilS _ _ _ (by rw [List.length_append]; omega)
  | clo fn hf hc => exact .clo fn (hf.imp fun _ _ h => h.app) (hc.imp fun _ _ h => h.app)
theorem SR0.sr {g : List (Option GB)} {v w : Value} (h : SR0 g v w) : SR g v w := by
  cases h with
  | ptr j off gb h => exact .ptr j off gb h
  | slice j off len cap gb h => exact .slice j off len cap gb h
  | bool => exact .bool _
  | int => exact .int _ _
  | str => exact .str _
  | ptr0 => exact .ptr0
  | slice0 => exact .slice0
  | func => exact .func _
  | nilS j off _ h => exact .nilS _ _ _ h
theorem AR0.ar {g : List (Option GB)} {v w : Value} (h : AR0 g v w) : AR g v w := by
  cases h with
  | s h => exact .s h.sr
  | agg h => exact .agg (h.imp fun _ _ h => h.sr)
theorem AR.app {g g' : List (Option GB)} {v w : Value} (h : AR g v w) : AR (g ++ g') v w := by
  cases h with
  | s h => exact .s h.app
  | agg h => exact .agg (h.imp fun _ _ h => h.app)
theorem VR.app {g g' : List (Option GB)} {v w : Value} (h : VR g v w) : VR (g ++ g') v w := by
  cases h with
  | a h => exact .a h.app
  | tup h => exact .tup (h.imp fun _ _ h => h.app)
  | top => exact .top _
theorem VR.s {g : List (Option GB)} {v w : Value} (h : SR g v w) : VR g v w := .a (.s h)
theorem VR.agg {g : List (Option GB)} {xs ys : List Value} (h : F2 (SR g) xs ys) : VR g (.agg ⟨xs⟩) (.agg ⟨ys⟩) := .a (.agg h)
def Good (W : World) (F : Nat → Prop) : Prop := ¬ F 0 ∧ ∃ n, W.cell? ⟨0, 0, none⟩ = some (.int .i64 n)
structure Ctx where
  W : World
  F : Nat → Prop
  R : Nat → Prop
  good : Good W F
  rr : ∀ k, R k → k < W.heap.size ∧ ¬ F k
abbrev quietC (W : World) (gd : Good W fun _ => False) : Ctx := ⟨W, fun _ => False, fun k => k < W.heap.size, gd, fun _ h => ⟨h, fun h => h⟩⟩
def mine : Obj → Bool
  | .cells _ _ _ => true
  | .map _ _ => true
  | _ => false
structure ObjsAt (n : Nat) (F R : Nat → Prop) (g : List (Option GB)) (m : Mem) (W : World) (fp rp : Nat → Nat → Prop) : Prop where
  rep : ∀ (j : Nat) (b : ABlk) (gb : GB) (o : Ob), m[j]? = some (some b) → g[j]? = some (some gb) → b.ob = some o → o.rep gb W (fp j) (rp j) ∧ b.rw = false
  own : ∀ j k, fp j k → k < W.heap.size ∧ (n ≤ k ∨ F k)
  ro : ∀ j k, rp j k → R k
  dis : ∀ i j k, i ≠ j → fp i k → ¬ fp j k
  oth : ∀ (i : Nat) (b : ABlk) (gb : GB) (j : Nat), m[i]? = some (some b) → g[i]? = some (some gb) → b.ob = none → ¬ fp j gb.b
  rr : ∀ k, R k → k < n ∧ ¬ F k
  cel : ∀ j k, fp j k → ∃ o, W.heap[k]? = some o ∧ mine o = true
theorem ObjsAt.fr {n : Nat} {F R : Nat → Prop} {g : List (Option GB)} {m : Mem} {W : World} {fp rp : Nat → Nat → Prop} (h : ObjsAt n F R g m W fp rp) {i j k : Nat} (h1 : fp i k) (h2 : rp j k) : False := by
  have h3 := (h.own i k h1).2
  have h4 := h.rr k (h.ro j k h2)
  rcases h3 with h3 | h3
  · omega
  · exact h4.2 h3
def Objs (n : Nat) (F R : Nat → Prop) (g : List (Option GB)) (m : Mem) (W : World) : Prop := ∃ fp rp, ObjsAt n F R g m W fp rp
theorem Objs.no {n : Nat} {F R : Nat → Prop} {g : List (Option GB)} {m : Mem} {W : World} (h : ∀ (j : Nat) (b : ABlk) (gb : GB), m[j]? = some (some b) → g[j]? = some (some gb) → b.ob = none) (hR : ∀ k, R k → k < n ∧ ¬ F k) : Objs n F R g m W :=
  ⟨fun _ _ => False, fun _ _ => False, fun j b gb o hj hg ho => (by rw [h j b gb hj hg] at ho; cases ho), fun _ _ h => h.elim, fun _ _ h => h.elim, fun _ _ _ _ h => h.elim, fun _ _ _ _ _ _ _ h => h, hR, fun _ _ h => h.elim⟩
theorem Objs.move {n : Nat} {F R : Nat → Prop} {g g' : List (Option GB)} {m m' : Mem} {W W' : World} (h : Objs n F R g m W) (hn : n ≤ W.heap.size) (hs : W.heap.size ≤ W'.heap.size) (σ : Nat → Nat)
    (ho : ∀ (j : Nat) (b : ABlk) (gb : GB) (o : Ob), m'[j]? = some (some b) → g'[j]? = some (some gb) → b.ob = some o → b.rw = false ∧ ∃ b0, m[σ j]? = some (some b0) ∧ b0.ob = some o ∧ g[σ j]? = some (some gb))
    (hi : ∀ i j, i < m'.length → j < m'.length → i ≠ j → σ i ≠ σ j)
    (hw : ∀ k, k < W.heap.size → W'.heap[k]? = W.heap[k]? ∨ ((n ≤ k ∨ F k) ∧ ∃ (i : Nat) (b : ABlk) (gi : GB), m[i]? = some (some b) ∧ b.ob = none ∧ g[i]? = some (some gi) ∧ gi.b = k))
    (hx : ∀ (j : Nat) (b : ABlk) (gb : GB), m'[j]? = some (some b) → g'[j]? = some (some gb) → b.ob = none → (∃ (i : Nat) (b0 : ABlk) (gi : GB), m[i]? = some (some b0) ∧ b0.ob = none ∧ g[i]? = some (some gi) ∧ gi.b = gb.b) ∨ W.heap.size ≤ gb.b ∨ (gb.b < n ∧ ¬ F gb.b)) :
    Objs n F R g' m' W' := by
  obtain ⟨fp, rp, hA⟩ := h
  refine ⟨fun j k => j < m'.length ∧ fp (σ j) k, fun j k => j < m'.length ∧ rp (σ j) k, ?_, ?_, fun j k h => hA.ro _ _ h.2, ?_, ?_, hA.rr, ?_⟩
  · intro j b gb o hj hg hb
    obtain ⟨h0, b0, h1, h2, h3⟩ := ho j b gb o hj hg hb
    have hl : j < m'.length := by
      rcases Nat.lt_or_ge j m'.length with h' | h'
      · exact h'
      · rw [List.getElem?_eq_none h'] at hj; cases hj
    refine ⟨?_, h0⟩
    have e1 : (fun k => j < m'.length ∧ fp (σ j) k) = fp (σ j) := funext fun k => propext ⟨fun h => h.2, fun h => ⟨hl, h⟩⟩
    have e2 : (fun k => j < m'.length ∧ rp (σ j) k) = rp (σ j) := funext fun k => propext ⟨fun h => h.2, fun h => ⟨hl, h⟩⟩
    rw [e1, e2]
    refine o.loc (hA.rep _ _ _ _ h1 h3 h2).1 fun k hk => ?_
    rcases hk with hk | hk
    · have hk1 := hA.own _ _ hk
      rcases hw k hk1.1 with h | ⟨_, i, b, gi, h4, h5, h6, rfl⟩
      · exact h
      · exact (hA.oth i b gi _ h4 h6 h5 hk).elim
    · have hk1 := hA.rr _ (hA.ro _ _ hk)
      rcases hw k (Nat.lt_of_lt_of_le hk1.1 hn) with h | ⟨h, _⟩
      · exact h
      · rcases h with h | h
        · omega
        · exact (hk1.2 h).elim
  · intro j k h
    have := hA.own _ _ h.2
    exact ⟨by omega, this.2⟩
  · intro i j k hij h1 h2
    exact hA.dis _ _ k (hi i j h1.1 h2.1 hij) h1.2 h2.2
  · intro i b gb j hj hg hb h
    have h3 := hA.own _ _ h.2
    rcases hx i b gb hj hg hb with ⟨i0, b0, gi, h4, h5, h6, h7⟩ | h4 | h4
    · exact hA.oth i0 b0 gi _ h4 h6 h5 (h7 ▸ h.2)
    · omega
    · rcases h3.2 with h5 | h5
      · omega
      · exact h4.2 h5
  · intro j k h
    obtain ⟨o, hc, hm⟩ := hA.cel _ _ h.2
    have hk1 := hA.own _ _ h.2
    rcases hw k hk1.1 with h' | ⟨_, i, b, gi, h4, h5, h6, rfl⟩
    · exact ⟨o, h'.trans hc, hm⟩
    · exact (hA.oth i b gi _ h4 h6 h5 h.2).elim
theorem Objs.keep {n : Nat} {F R : Nat → Prop} {g g' : List (Option GB)} {m m' : Mem} {W W' : World} (h : Objs n F R g m W) (hn : n ≤ W.heap.size) (hs : W.heap.size ≤ W'.heap.size)
    (ho : ∀ (j : Nat) (b : ABlk) (gb : GB), m'[j]? = some (some b) → g'[j]? = some (some gb) → (∃ b0, m[j]? = some (some b0) ∧ b0.ob = b.ob ∧ b.rw = b0.rw ∧ g[j]? = some (some gb)) ∨ (b.ob = none ∧ (W.heap.size ≤ gb.b ∨ (gb.b < n ∧ ¬ F gb.b) ∨ ∃ (i : Nat) (b0 : ABlk) (gi : GB), m[i]? = some (some b0) ∧ b0.ob = none ∧ g[i]? = some (some gi) ∧ gi.b = gb.b)))
    (hw : ∀ k, k < W.heap.size → W'.heap[k]? = W.heap[k]? ∨ ((n ≤ k ∨ F k) ∧ ∃ (i : Nat) (b : ABlk) (gi : GB), m[i]? = some (some b) ∧ b.ob = none ∧ g[i]? = some (some gi) ∧ gi.b = k)) : Objs n F R g' m' W' := by
  refine h.move hn hs id ?_ (fun _ _ _ _ h => h) hw ?_
  · intro j b gb o hj hg hb
    rcases ho j b gb hj hg with ⟨b0, h1, h2, h3, h4⟩ | ⟨h1, _⟩
    · obtain ⟨fp, rp, hA⟩ := h
      exact ⟨h3 ▸ (hA.rep j b0 gb o h1 h4 (h2.trans hb)).2, b0, h1, h2.trans hb, h4⟩
    · rw [hb] at h1; cases h1
  · intro j b gb hj hg hb
    rcases ho j b gb hj hg with ⟨b0, h1, h2, h3, h4⟩ | ⟨_, h1 | h1 | h1⟩
    · exact .inl ⟨j, b0, gb, h1, h2.trans hb, h4, rfl⟩
    · exact .inr (.inl h1)
    · exact .inr (.inr h1)
    · exact .inl h1
structure Rel (P : Program) (c : Ctx) (g : List (Option GB)) (m : Mem) (W : World) : Prop where
  len : g.length = m.length
  blk : ∀ (j : Nat) (b : ABlk) (gb : GB), m[j]? = some (some b) → g[j]? = some (some gb) → ∃ (cs : Array Value) (fr : TypeId × (Nat × Nat)), W.heap[gb.b]? = some (.cells cs fr.1 fr.2) ∧
    F2 (SR g) b.cells ((cs.toList.drop gb.base).take b.cells.length) ∧ gb.base + b.cells.length ≤ cs.size ∧
    (b.rw = true → fr = (b.elem, (0, 0)) ∧ (c.W.heap.size ≤ gb.b ∨ c.F gb.b) ∧ gb.base = 0 ∧ b.cells.length + gb.extra * P.cellsOf b.elem ≤ cs.size) ∧ (b.ex = true → gb.extra = 0)
  inj : ∀ (i j : Nat) (bi bj : ABlk) (gi gj : GB), i ≠ j → m[i]? = some (some bi) → m[j]? = some (some bj) → bi.rw = true → g[i]? = some (some gi) → g[j]? = some (some gj) → gi.b ≠ gj.b
  frame : ∀ k, k < c.W.heap.size → ¬ c.F k → W.heap[k]? = c.W.heap[k]?
  size : c.W.heap.size ≤ W.heap.size
  os : W.os = c.W.os
  tape : W.tape = c.W.tape
  output : W.output = c.W.output
  objs : Objs c.W.heap.size c.F c.R g m W
  ro : ∀ (j : Nat) (b : ABlk) (gb : GB), m[j]? = some (some b) → g[j]? = some (some gb) → b.rw = false → b.ob = none → c.R gb.b
theorem Rel.good {P : Program} {c : Ctx} {g : List (Option GB)} {m : Mem} {W : World} (h : Rel P c g m W) : Good W fun _ => False := by
  obtain ⟨h0, n, hn⟩ := c.good
  refine ⟨fun h => h, n, ?_⟩
  have hl : 0 < c.W.heap.size := by
    rcases Nat.lt_or_ge 0 c.W.heap.size with h' | h'
    · exact h'
    · simp only [World.cell?, Array.getElem?_eq_none h'] at hn
      cases hn
  rw [← hn]
  simp only [World.cell?, h.frame 0 hl h0]
theorem Rel.goodF {P : Program} {c : Ctx} {g : List (Option GB)} {m : Mem} {W : World} (h : Rel P c g m W) {F : Nat → Prop} (hF : ∀ k, F k → c.W.heap.size ≤ k ∨ c.F k) : Good W F := by
  obtain ⟨h0, n, hn⟩ := c.good
  have hl : 0 < c.W.heap.size := by
    rcases Nat.lt_or_ge 0 c.W.heap.size with h' | h'
    · exact h'
    · simp only [World.cell?, Array.getElem?_eq_none h'] at hn
      cases hn
  refine ⟨fun h => ?_, h.good.2⟩
  rcases hF 0 h with h' | h'
  · omega
  · exact h0 h'
structure ARel (g : List (Option GB)) (a : List Value) (A : Act) : Prop where
  tmps : F2 (VR g) a A.tmps.toList
  defers : A.defers = []
theorem ARel.app {g g' : List (Option GB)} {a : List Value} {A : Act} (h : ARel g a A) : ARel (g ++ g') a A := ⟨h.tmps.imp fun _ _ h => h.app, h.defers⟩
theorem Rel.drew {P : Program} {c : Ctx} {g : List (Option GB)} {m : Mem} {W : World} (h : Rel P c g m W) : Rel P c g m W.drew :=
  ⟨h.len, h.blk, h.inj, h.frame, h.size, h.os, h.tape, h.output, h.objs.keep h.size (Nat.le_refl _) (fun _ b _ hj hg => .inl ⟨b, hj, rfl, rfl, hg⟩) fun _ _ => .inl rfl, h.ro⟩
theorem Rel.noOb {P : Program} {c : Ctx} {g : List (Option GB)} {m : Mem} {W : World} (h : Rel P c g m W) {j : Nat} {b : ABlk} {gb : GB} (hj : m[j]? = some (some b)) (hg : g[j]? = some (some gb)) (hrw : b.rw = true) : b.ob = none := by
  obtain ⟨fp, rp, hA⟩ := h.objs
  cases hb : b.ob with
  | none => rfl
  | some o => have := (hA.rep j b gb o hj hg hb).2; rw [hrw] at this; cases this
theorem Rel.cell {P : Program} {c : Ctx} {g : List (Option GB)} {m : Mem} {W : World} (h : Rel P c g m W) {j : Nat} {b : ABlk} {gb : GB} (hj : m[j]? = some (some b)) (hg : g[j]? = some (some gb))
    {i : Nat} {v : Value} (hi : b.cells[i]? = some v) : ∃ w, W.cell? ⟨gb.b, gb.base + i, none⟩ = some w ∧ SR g v w := by
  obtain ⟨cs, fr, hh, hf, _⟩ := h.blk j b gb hj hg
  obtain ⟨w, hw, hr⟩ := hf.get i v hi
  refine ⟨w, ?_, hr⟩
  have hl : i < b.cells.length := by
    rcases Nat.lt_or_ge i b.cells.length with h' | h'
    · exact h'
    · rw [List.getElem?_eq_none h'] at hi; cases hi
  rw [List.getElem?_take, if_pos hl, List.getElem?_drop] at hw
  simp [World.cell?, hh]
  simpa using hw
theorem Rel.base0 {P : Program} {c : Ctx} {g : List (Option GB)} {m : Mem} {W : World} (h : Rel P c g m W) {j : Nat} {b : ABlk} {gb : GB} (hj : m[j]? = some (some b)) (hg : g[j]? = some (some gb))
    (hrw : b.rw = true) : gb.base = 0 := by
  obtain ⟨cs, fr, _, _, _, hr, _⟩ := h.blk j b gb hj hg
  exact (hr hrw).2.2.1
theorem Rel.frozen {P : Program} {c : Ctx} {g : List (Option GB)} {m : Mem} {W : World} (h : Rel P c g m W) {j : Nat} {b : ABlk} {gb : GB} (hj : m[j]? = some (some b)) (hg : g[j]? = some (some gb))
    (hrw : b.rw = true) (i : Nat) : W.frozen? ⟨gb.b, i, none⟩ = false := by
  obtain ⟨cs, fr, hh, _, _, hr, _⟩ := h.blk j b gb hj hg
  obtain ⟨rfl, _⟩ := hr hrw
  simp [World.frozen?, hh]
theorem Rel.setCell {P : Program} {c : Ctx} {g : List (Option GB)} {m : Mem} {W : World} (h : Rel P c g m W) {j : Nat} {b : ABlk} {gb : GB} (hj : m[j]? = some (some b)) (hg : g[j]? = some (some gb))
    (hrw : b.rw = true) (i : Nat) {v w : Value} (hv : SR g v w) :
    Rel P c g (m.set j (some { b with cells := b.cells.set i v })) (W.setCell ⟨gb.b, i, none⟩ w) := by
  obtain ⟨cs, fr, hh, hf, hsz0, hr, hnr⟩ := h.blk j b gb hj hg
  obtain ⟨rfl, hown, hbase, hsz⟩ := hr hrw
  rw [hbase, List.drop_zero] at hf
  have hjl : j < m.length := by
    rcases Nat.lt_or_ge j m.length with h' | h'
    · exact h'
    · rw [List.getElem?_eq_none h'] at hj; cases hj
  have hat : ∀ k, (W.setCell ⟨gb.b, i, none⟩ w).heap[k]? = if gb.b = k then some (.cells (cs.setIfInBounds i w) b.elem (0, 0)) else W.heap[k]? := by
    intro k
    simp only [World.setCell, Array.getElem?_modify]
    split
    · rename_i e; subst e; rw [hh]; rfl
    · rfl
  refine ⟨by simp [h.len], ?_, ?_, ?_, ?_, h.os, h.tape, h.output, ?_, ?_⟩
  rotate_right
  · intro j' b' gb' hj' hg' h1 h2
    rw [List.getElem?_set] at hj'
    by_cases e : j = j'
    · subst e
      rw [if_pos rfl, if_pos hjl] at hj'
      simp only [Option.some.injEq] at hj'
      subst hj'
      exact h.ro j b gb' hj hg' h1 h2
    · rw [if_neg e] at hj'
      exact h.ro j' b' gb' hj' hg' h1 h2
  rotate_right
  · refine h.objs.keep h.size (by simp [World.setCell]) ?_ ?_
    · intro j' b' gb' hj' hg'
      rw [List.getElem?_set] at hj'
      by_cases e : j = j'
      · subst e
        rw [if_pos rfl, if_pos hjl] at hj'
        simp only [Option.some.injEq] at hj'
        subst hj'
        exact .inl ⟨b, hj, rfl, rfl, hg'⟩
      · rw [if_neg e] at hj'
        exact .inl ⟨b', hj', rfl, rfl, hg'⟩
    · intro k _
      rw [hat]
      split
      · rename_i e
        exact .inr ⟨e ▸ hown, j, b, gb, hj, h.noOb hj hg hrw, hg, e⟩
      · exact .inl rfl
  · intro j' b' gb' hj' hg'
    rw [List.getElem?_set] at hj'
    by_cases e : j = j'
    · subst e
      rw [if_pos rfl, if_pos hjl] at hj'
      simp only [Option.some.injEq] at hj'
      subst hj'
      obtain rfl : gb = gb' := by rw [hg] at hg'; exact Option.some.inj (Option.some.inj hg')
      refine ⟨cs.setIfInBounds i w, (b.elem, (0, 0)), by rw [hat, if_pos rfl], ?_, by simpa using hsz0, fun _ => ⟨rfl, hown, hbase, by simpa using hsz⟩, hnr⟩
      have := hf.set i hv
      simp only [Array.toList_setIfInBounds, List.length_set]
      rw [hbase, List.drop_zero, List.take_set]
      exact this
    · rw [if_neg e] at hj'
      obtain ⟨cs', fr', hh', rest⟩ := h.blk j' b' gb' hj' hg'
      refine ⟨cs', fr', ?_, rest⟩
      rw [hat, if_neg (h.inj j j' b b' gb gb' e hj hj' hrw hg hg'), hh']
  · intro p q bp bq gp gq hne hp hq hrwp hgp hgq
    have get : ∀ (k : Nat) (bk : ABlk), (m.set j (some { b with cells := b.cells.set i v }))[k]? = some (some bk) → ∃ bk' : ABlk, m[k]? = some (some bk') ∧ bk'.rw = bk.rw := by
      intro k bk hk
      rw [List.getElem?_set] at hk
      by_cases e : j = k
      · subst e
        rw [if_pos rfl, if_pos hjl] at hk
        simp only [Option.some.injEq] at hk
        subst hk
        exact ⟨b, hj, rfl⟩
      · rw [if_neg e] at hk
        exact ⟨bk, hk, rfl⟩
    obtain ⟨bp', hp', ep⟩ := get p bp hp
    obtain ⟨bq', hq', _⟩ := get q bq hq
    exact h.inj p q bp' bq' gp gq hne hp' hq' (ep ▸ hrwp) hgp hgq
  · intro k hk hF
    rw [hat, if_neg, h.frame k hk hF]
    intro e
    subst e
    rcases hown with h1 | h1
    · omega
    · exact hF h1
  · simpa [World.setCell] using h.size
theorem lt_of_getElem? {α : Type} {l : List α} {i : Nat} {x : α} (h : l[i]? = some x) : i < l.length := by
  rcases Nat.lt_or_ge i l.length with h' | h'
  · exact h'
  · rw [List.getElem?_eq_none h'] at h; cases h
theorem Rel.alloc {P : Program} {c : Ctx} {g : List (Option GB)} {m : Mem} {W : World} (h : Rel P c g m W) {cells : List Value} {cs : List Value} (elem : TypeId) (extra : Nat) (ex : Bool) (hex : ex = true → extra = 0)
    (hc : F2 (SR g) cells (cs.take cells.length)) (hx : cells.length + extra * P.cellsOf elem ≤ cs.length) :
    Rel P c (g ++ [some ⟨W.heap.size, 0, extra⟩]) (m ++ [some ⟨cells, elem, true, ex, none⟩]) (W.alloc (.cells ⟨cs⟩ elem)) := by
  have hold : ∀ k, k < W.heap.size → (W.alloc (.cells ⟨cs⟩ elem)).heap[k]? = W.heap[k]? := by
    intro k hk
    show (W.heap.push _)[k]? = _
    rw [Array.getElem?_push, if_neg (by omega)]
  have hnew : (W.alloc (.cells ⟨cs⟩ elem)).heap[W.heap.size]? = some (.cells ⟨cs⟩ elem (0, 0)) := by
    show (W.heap.push _)[W.heap.size]? = _
    rw [Array.getElem?_push, if_pos rfl]
  have hlt : ∀ (j : Nat) (b : ABlk) (gb : GB), m[j]? = some (some b) → g[j]? = some (some gb) → gb.b < W.heap.size := by
    intro j b gb hj hg
    obtain ⟨cs, fr, hh, _⟩ := h.blk j b gb hj hg
    rcases Nat.lt_or_ge gb.b W.heap.size with h' | h'
    · exact h'
    · rw [Array.getElem?_eq_none h'] at hh; cases hh
  have split : ∀ (j : Nat) (b : ABlk) (gb : GB), (m ++ [some ⟨cells, elem, true, ex, none⟩])[j]? = some (some b) → (g ++ [some ⟨W.heap.size, 0, extra⟩])[j]? = some (some gb) →
      (m[j]? = some (some b) ∧ g[j]? = some (some gb)) ∨ (j = m.length ∧ b = ⟨cells, elem, true, ex, none⟩ ∧ gb = ⟨W.heap.size, 0, extra⟩) := by
    intro j b gb hj hg
    rcases Nat.lt_trichotomy j m.length with hl | hl | hl
    · rw [List.getElem?_append_left hl] at hj
      rw [List.getElem?_append_left (by rw [h.len]; exact hl)] at hg
      exact .inl ⟨hj, hg⟩
    · subst hl
      rw [List.getElem?_append_right (Nat.le_refl _)] at hj
      rw [← h.len, List.getElem?_append_right (Nat.le_refl _)] at hg
      simp at hj hg
      exact .inr ⟨rfl, hj.symm, hg.symm⟩
    · rw [List.getElem?_eq_none (by simp; omega)] at hj; cases hj
  refine ⟨by simp [h.len], ?_, ?_, ?_, ?_, h.os, h.tape, h.output, ?_, ?_⟩
  rotate_right
  · intro j b gb hj hg h1 h2
    rcases split j b gb hj hg with ⟨hj, hg⟩ | ⟨rfl, rfl, rfl⟩
    · exact h.ro j b gb hj hg h1 h2
    · cases h1
  rotate_right
  · refine h.objs.keep h.size (by show _ ≤ (W.heap.push _).size; simp) ?_ fun k hk => .inl (hold k hk)
    intro j b gb hj hg
    rcases split j b gb hj hg with ⟨hj, hg⟩ | ⟨rfl, rfl, rfl⟩
    · exact .inl ⟨b, hj, rfl, rfl, hg⟩
    · exact .inr ⟨rfl, .inl (Nat.le_refl _)⟩
  · intro j b gb hj hg
    rcases split j b gb hj hg with ⟨hj, hg⟩ | ⟨rfl, rfl, rfl⟩
    · obtain ⟨cs', fr', hh', hf', rest⟩ := h.blk j b gb hj hg
      exact ⟨cs', fr', by rw [hold _ (hlt j b gb hj hg), hh'], hf'.imp fun _ _ h => h.app, rest⟩
    · exact ⟨⟨cs⟩, (elem, (0, 0)), hnew, hc.imp fun _ _ h => h.app, by show 0 + cells.length ≤ cs.length; omega, fun _ => ⟨rfl, .inl h.size, rfl, hx⟩, hex⟩
  · intro p q bp bq gp gq hne hp hq hrw hgp hgq
    rcases split p bp gp hp hgp with ⟨hp, hgp⟩ | ⟨rfl, rfl, rfl⟩ <;> rcases split q bq gq hq hgq with ⟨hq, hgq⟩ | ⟨rfl, rfl, rfl⟩
    · exact h.inj p q bp bq gp gq hne hp hq hrw hgp hgq
    · have := hlt p bp gp hp hgp; show gp.b ≠ W.heap.size; omega
    · have := hlt q bq gq hq hgq; show W.heap.size ≠ gq.b; omega
    · exact absurd rfl hne
  · intro k hk hF
    rw [hold k (Nat.lt_of_lt_of_le hk h.size), h.frame k hk hF]
  · show _ ≤ (W.heap.push _).size
    have := h.size
    simp; omega
theorem Rel.kill {P : Program} {c : Ctx} {g : List (Option GB)} {m : Mem} {W : World} (h : Rel P c g m W) (j : Nat) : Rel P c g (m.set j none) W := by
  have get : ∀ (k : Nat) (bk : ABlk), (m.set j none)[k]? = some (some bk) → m[k]? = some (some bk) := by
    intro k bk hk
    rw [List.getElem?_set] at hk
    split at hk
    · split at hk <;> simp at hk
    · exact hk
  exact ⟨by simp [h.len], fun j' b gb hj hg => h.blk j' b gb (get _ _ hj) hg, fun p q bp bq gp gq hne hp hq => h.inj p q bp bq gp gq hne (get _ _ hp) (get _ _ hq), h.frame, h.size, h.os, h.tape, h.output,
    h.objs.keep h.size (Nat.le_refl _) (fun j' b gb hj hg => .inl ⟨b, get _ _ hj, rfl, rfl, hg⟩) fun _ _ => .inl rfl, fun j' b gb hj hg => h.ro j' b gb (get _ _ hj) hg⟩
theorem Rel.ghost {P : Program} {c : Ctx} {g : List (Option GB)} {m : Mem} {W : World} (h : Rel P c g m W) (b : Option ABlk) : Rel P c (g ++ [none]) (m ++ [b]) W := by
  have hlt : ∀ (j : Nat) (b' : ABlk) (gb : GB), (m ++ [b])[j]? = some (some b') → (g ++ [none])[j]? = some (some gb) → m[j]? = some (some b') ∧ g[j]? = some (some gb) := by
    intro j b' gb hj hg
    rcases Nat.lt_or_ge j m.length with hl | hl
    · rw [List.getElem?_append_left hl] at hj
      rw [List.getElem?_append_left (by rw [h.len]; exact hl)] at hg
      exact ⟨hj, hg⟩
    · exfalso
      rw [List.getElem?_append_right (by rw [h.len]; exact hl)] at hg
      cases hx : j - g.length with
      | zero => rw [hx] at hg; simp at hg
      | succ n => rw [hx] at hg; simp at hg
  refine ⟨by simp [h.len], ?_, ?_, h.frame, h.size, h.os, h.tape, h.output, h.objs.keep h.size (Nat.le_refl _) (fun j' b' gb hj hg => .inl ⟨b', (hlt j' b' gb hj hg).1, rfl, rfl, (hlt j' b' gb hj hg).2⟩) fun _ _ => .inl rfl, fun j' b' gb hj hg => h.ro j' b' gb (hlt j' b' gb hj hg).1 (hlt j' b' gb hj hg).2⟩
  · intro j b' gb hj hg
    obtain ⟨hj, hg⟩ := hlt j b' gb hj hg
    obtain ⟨cs, fr, hh, hf, rest⟩ := h.blk j b' gb hj hg
    exact ⟨cs, fr, hh, hf.imp fun _ _ h => h.app, rest⟩
  · intro p q bp bq gp gq hne hp hq hrw hgp hgq
    obtain ⟨hp, hgp⟩ := hlt p bp gp hp hgp
    obtain ⟨hq, hgq⟩ := hlt q bq gq hq hgq
    exact h.inj p q bp bq gp gq hne hp hq hrw hgp hgq
end Go.AE
end
section
namespace Go.AE
def WR : Option Nat → Fence
  | none => Fence.wide
  | some l => Fence.wide.inRound l
theorem WR.fn (ro : Option Nat) (f : FuncId) : (WR ro).fn f := by cases ro <;> trivial
theorem WR.room (ro : Option Nat) (n : Nat) : (WR ro).room n := by cases ro <;> exact room_wide n
theorem WR.round (ro : Option Nat) : (WR ro).round = ro := by cases ro <;> rfl
theorem WR.depth (ro : Option Nat) (n : Nat) : (WR ro).depth.isSome = true → 1 ≤ n := by cases ro <;> (intro h; cases h)
theorem WR.steps {ro : Option Nat} {P : Program} {m m' : Machine} : StepsIn (Machine.fenced P (WR ro)) P m m' ↔ Steps P m m' := by
  cases ro <;> exact stepsIn_wide
theorem WR.calm (ro : Option Nat) (P : Program) (m : Machine) : m.fenced P (WR ro) := by cases ro <;> exact fenced_wide P m
theorem WR.calls {ro : Option Nat} {n : Nat} {P : Program} {f : FuncId} {args : Array Value} {w : World} {R : Ending → World → Prop} (h : Calls P f args w R) : CallsIn (WR ro) n P f args w R := by
  cases ro with
  | none => exact callsIn_wide.2 h
  | some l => exact CallsIn.inRound l (callsIn_wide.2 h)
theorem WR.rows {ro : Option Nat} {n : Nat} {P : Program} {row : String} {args : Array Value} {w : World} {R : Value → World → Prop} (h : Rows P row args w R) : RowsIn (WR ro) n P row args w R :=
  fun c cs _ => let ⟨v, w', r, s⟩ := h c cs; ⟨v, w', r, WR.steps.2 s⟩
def plainOp (o : Oper) : Bool := match o.op with
  | .defer _ => false
  | _ => true
theorem plainOp_ne {o : Oper} (h : plainOp o = true) : ∀ c, o.op ≠ .defer c := by
  intro c hc
  unfold plainOp at h
  rw [hc] at h
  cases h
def calmC : Code → Bool
  | .seq x y => calmC x && calmC y
  | .cond _ x y => calmC x && calmC y
  | .block _ x => calmC x
  | .loop x => calmC x
  | .scope x => calmC x
  | .region _ ops _ => ops.toList.all plainOp
  | .rangeFunc _ _ _ _ => false
  | _ => true
def Calm (ro : Option Nat) (x : Code) : Prop := ro = none ∨ calmC x = true
theorem Calm.find : ∀ {ro : Option Nat} {x : Code} {l : Nat} {rest : Code}, Calm ro x → findLabel x l = some rest → Calm ro rest := by
  intro ro x
  induction x with
  | seq a b iha ihb =>
    intro l rest h hf
    rcases h with h | h
    · exact .inl h
    simp only [calmC, Bool.and_eq_true] at h
    simp only [findLabel] at hf
    split at hf
    · rename_i r hr
      cases hf
      rcases iha (.inr h.1) hr with h1 | h1
      · exact .inl h1
      · exact .inr (by simp only [calmC, Bool.and_eq_true]; exact ⟨h1, h.2⟩)
    · exact ihb (.inr h.2) hf
  | label l' =>
    intro l rest h hf
    simp only [findLabel] at hf
    split at hf
    · cases hf; exact .inr rfl
    · cases hf
  | _ => intro l rest h hf; simp [findLabel] at hf
def addD (A : Act) (ds : List Deferred) : Act := { A with defers := A.defers ++ ds }
theorem addD_put (A : Act) (ds : List Deferred) (dst : Option Tmp) (v : Value) : (addD A ds).put dst v = addD (A.put dst v) ds := by cases dst <;> rfl
theorem addD_eval (A : Act) (ds : List Deferred) : (addD A ds).eval = A.eval := funext fun x => by cases x <;> rfl
theorem WR.upon {ro : Option Nat} {n : Nat} {P : Program} {o : Oper} {a : Act} {ds : List Deferred} {next next' : Act → World → Prop} {Q Q' : Exit → Act → World → Prop} {r : Result Next} (hn : ∀ a w, next a w → next' (addD a ds) w) (hq : ∀ e a w, Q e a w → Q' e (addD a ds) w) (h : o.upon P a next Q r) : o.uponIn (WR ro) n P (addD a ds) next' Q' r := by
  unfold Oper.upon at h
  split at h
  · show next' ((addD a ds).put _ _) _
    rw [addD_put]; exact hn _ _ h
  · show next' ((addD a ds).put _ _) _
    rw [addD_put]; exact hn _ _ h
  · rename_i d w'
    show next' (Act.put { (addD a ds) with defers := d :: (addD a ds).defers } _ _) _
    have := hn _ _ h
    rw [← addD_put] at this
    exact this
  · refine ⟨WR.depth _ _, WR.calls (Calls.mono h ?_)⟩
    intro e w'' he
    cases e with
    | returned v =>
      show next' ((addD a ds).put _ _) _
      rw [addD_put]; exact hn _ _ he
    | panicked ch => exact hq _ _ _ he
    | outgrown => obtain ⟨a', w', h'⟩ := he; exact ⟨_, w', hq _ _ _ h'⟩
  · refine ⟨WR.depth _ _, WR.rows (Rows.mono h ?_)⟩
    intro v w'' he
    show next' ((addD a ds).put _ _) _
    rw [addD_put]; exact hn _ _ he
  · exact hq _ _ _ h
  · exact h.elim
theorem WR.op {ro : Option Nat} {n : Nat} {P : Program} {o : Oper} {a : Act} {ds : List Deferred} {w : World} {next next' : Act → World → Prop} {Q Q' : Exit → Act → World → Prop} (hp : ro = none ∨ plainOp o = true) (hn : ∀ a w, next a w → next' (addD a ds) w) (hq : ∀ e a w, Q e a w → Q' e (addD a ds) w) (h : o.wp P a w next Q) : o.wpIn (WR ro) n P (addD a ds) w next' Q' := by
  refine ⟨fun f _ => WR.fn ro f, ?_⟩
  rw [WR.round, addD_eval]
  have : Oper.semAt ro a.eval o = execOp a.eval o := by
    rcases hp with rfl | hp
    · rfl
    · exact Oper.semAt_eq ro _ o (plainOp_ne hp)
  rw [this]
  exact WR.upon hn hq h
def NoOut (Q : Exit → Act → World → Prop) : Prop := ∀ a w, ¬ Q .outgrown a w
theorem WR.any {ro : Option Nat} {n : Nat} {P : Program} {ops : Array Oper} {ds : List Deferred} {Q Q' : Exit → Act → World → Prop} (hp : ro = none ∨ ops.toList.all plainOp = true) (hQ : NoOut Q) (hq : ∀ e a w, Q e a w → Q' e (addD a ds) w) : ∀ (fuel : Nat) (listed : Array Bool) (a : Act) (w : World), wpAny P .any ops Q fuel listed a w → wpAnyIn (WR ro) n P .any ops Q' fuel listed (addD a ds) w
  | 0, _, _, _, h => ⟨h.1, hq _ _ _ h.2⟩
  | fuel + 1, listed, a, w, h => ⟨fun h0 => hq _ _ _ (h.1 h0), fun i hi => by
    have h2 := h.2 i hi
    unfold wpOp at h2
    unfold wpOpIn
    split at h2
    · rename_i ho; rw [ho]; exact WR.any hp hQ hq fuel _ _ _ h2
    · rename_i o ho
      rw [ho]
      simp only
      split at h2
      · rename_i hw
        rw [if_pos (show Region.wanted o (yielded ops (addD a ds).tmps) = true from hw)]
        rcases h2 with h2 | h2
        · refine WR.op ?_ (fun a w h => WR.any hp hQ hq fuel _ a w h) hq h2
          rcases hp with hp | hp
          · exact .inl hp
          · refine .inr (List.all_eq_true.1 hp o ?_)
            have := Array.getElem?_eq_some_iff.1 ho
            obtain ⟨hlt, rfl⟩ := this
            simp
        · obtain ⟨_, a', w', h3⟩ := h2
          exact absurd h3 (hQ a' w')
      · rename_i hw
        rw [if_neg (show ¬ Region.wanted o (yielded ops (addD a ds).tmps) = true from hw)]
        refine ⟨fun f _ => WR.fn ro f, ?_⟩
        rw [addD_put]
        exact WR.any hp hQ hq fuel _ _ _ h2⟩
theorem WR.list {ro : Option Nat} {n : Nat} {P : Program} {ops : Array Oper} {ds : List Deferred} {Q Q' : Exit → Act → World → Prop} (hQ : NoOut Q) (hq : ∀ e a w, Q e a w → Q' e (addD a ds) w) : ∀ (l : List Oper) (a : Act) (w : World), (ro = none ∨ l.all plainOp = true) → wpList P ops Q l a w → wpListIn (WR ro) n P ops Q' l (addD a ds) w
  | [], _, _, _, h => hq _ _ _ h
  | o :: rest, a, w, hp, h => by
    have hp1 : ro = none ∨ plainOp o = true := hp.imp id fun h => by rw [List.all_cons, Bool.and_eq_true] at h; exact h.1
    have hp2 : ro = none ∨ rest.all plainOp = true := hp.imp id fun h => by rw [List.all_cons, Bool.and_eq_true] at h; exact h.2
    simp only [wpList] at h
    simp only [wpListIn]
    split at h
    · rename_i hw
      rw [if_pos (show Region.wanted o (yielded ops (addD a ds).tmps) = true from hw)]
      rcases h with h | h
      · exact WR.op hp1 (fun a w h => WR.list hQ hq rest a w hp2 h) hq h
      · obtain ⟨_, a', w', h3⟩ := h
        exact absurd h3 (hQ a' w')
    · rename_i hw
      rw [if_neg (show ¬ Region.wanted o (yielded ops (addD a ds).tmps) = true from hw)]
      refine ⟨fun f _ => WR.fn ro f, ?_⟩
      rw [addD_put]
      exact WR.list hQ hq rest _ _ hp2 h
theorem Rel.grow {P : Program} {c : Ctx} {g : List (Option GB)} {m : Mem} {W W' : World} (h : Rel P c g m W) {row : Option Nat} (hg : W.grownBy W' row) (hrow : ∀ k, row = some k → c.W.heap.size ≤ k ∧ ∃ o, W.heap[k]? = some o ∧ mine o = false) : Rel P c g m W' := by
  have hcel : ∀ (k : Nat) (cs : Array Value) (e : TypeId) (x : Nat × Nat), W.heap[k]? = some (Obj.cells cs e x) → W'.heap[k]? = W.heap[k]? := by
    intro k cs e x hk
    refine hg.block k (Array.getElem?_eq_some_iff.1 hk).1 fun e' => ?_
    obtain ⟨_, o, ho, hc⟩ := hrow k e'.symm
    rw [hk] at ho
    cases ho
    cases hc
  have hmine : ∀ (k : Nat) (o : Obj), W.heap[k]? = some o → mine o = true → W'.heap[k]? = W.heap[k]? := by
    intro k o hk hm
    refine hg.block k (Array.getElem?_eq_some_iff.1 hk).1 fun e' => ?_
    obtain ⟨_, o', ho, hc⟩ := hrow k e'.symm
    rw [hk] at ho
    cases ho
    rw [hm] at hc
    cases hc
  have hold : ∀ k : Nat, k < c.W.heap.size → W'.heap[k]? = W.heap[k]? := fun k hk => hg.block k (Nat.lt_of_lt_of_le hk h.size) fun e' => by
    have := (hrow k e'.symm).1; omega
  refine ⟨h.len, ?_, h.inj, fun k hk hF => (hold k hk).trans (h.frame k hk hF), Nat.le_trans h.size hg.size, hg.os.trans h.os, hg.tape.trans h.tape, hg.output.trans h.output, ?_, h.ro⟩
  · intro j b gb hj hgb
    obtain ⟨cs, fr, hh, rest⟩ := h.blk j b gb hj hgb
    exact ⟨cs, fr, (hcel _ _ _ _ hh).trans hh, rest⟩
  · obtain ⟨fp, rp, hA⟩ := h.objs
    refine ⟨fp, rp, fun j b gb o hj hgb ho => ?_, fun j k hk => ⟨Nat.lt_of_lt_of_le (hA.own j k hk).1 hg.size, (hA.own j k hk).2⟩, hA.ro, hA.dis, hA.oth, hA.rr, fun j k hk => ?_⟩
    · obtain ⟨q1, q2⟩ := hA.rep j b gb o hj hgb ho
      refine ⟨o.loc q1 fun k hk => ?_, q2⟩
      rcases hk with hk | hk
      · obtain ⟨o', hc, hm⟩ := hA.cel _ _ hk
        exact hmine _ _ hc hm
      · exact hold k (hA.rr _ (hA.ro _ _ hk)).1
    · obtain ⟨o', hc, hm⟩ := hA.cel _ _ hk
      exact ⟨o', (hmine _ _ hc hm).trans hc, hm⟩
def mark (D : Nat) : Deferred := { target := .collected D, args := #[] }
structure Ext (P : Program) (c c' : Ctx) (ds : List Deferred) : Prop where
  back : ∀ g m W, Rel P c' g m W → Rel P c g m W
  size : c.W.heap.size ≤ c'.W.heap.size
  fr : ∀ k, k < c.W.heap.size → ¬ c.F k → ¬ c'.F k ∧ c'.W.heap[k]? = c.W.heap[k]?
  marks : ∀ d ∈ ds, ∃ D, d = mark D ∧ c.W.heap.size ≤ D ∧ D < c'.W.heap.size ∧ ¬ c'.F D ∧ c'.W.heap[D]? = some (.deferred (some []))
  nd : ds.Pairwise fun d e => d ≠ e
theorem Ext.refl (P : Program) (c : Ctx) : Ext P c c [] := ⟨fun _ _ _ h => h, Nat.le_refl _, fun _ _ h => ⟨h, rfl⟩, fun _ h => (by cases h), .nil⟩
theorem Ext.trans {P : Program} {c c' c'' : Ctx} {ds ds' : List Deferred} (h : Ext P c c' ds) (h' : Ext P c' c'' ds') : Ext P c c'' (ds' ++ ds) := by
  refine ⟨fun g m W hr => h.back g m W (h'.back g m W hr), Nat.le_trans h.size h'.size, fun k hk hF => ?_, fun d hd => ?_, List.pairwise_append.2 ⟨h'.nd, h.nd, fun d hd e he hde => ?_⟩⟩
  · obtain ⟨q1, q2⟩ := h.fr k hk hF
    obtain ⟨q3, q4⟩ := h'.fr k (Nat.lt_of_lt_of_le hk h.size) q1
    exact ⟨q3, q4.trans q2⟩
  · rcases List.mem_append.1 hd with hd | hd
    · obtain ⟨D, e, q1, q2, q3, q4⟩ := h'.marks d hd
      exact ⟨D, e, Nat.le_trans h.size q1, q2, q3, q4⟩
    · obtain ⟨D, e, q1, q2, q3, q4⟩ := h.marks d hd
      obtain ⟨q5, q6⟩ := h'.fr D q2 q3
      exact ⟨D, e, q1, Nat.lt_of_lt_of_le q2 h'.size, q5, q6.trans q4⟩
  · obtain ⟨D, rfl, q1, _⟩ := h'.marks d hd
    obtain ⟨D', rfl, _, q2, _⟩ := h.marks e he
    have : D = D' := by simpa [mark] using hde
    omega
def Post (P : Program) (c : Ctx) (g₀ : List (Option GB)) (K : Exit → List Value → Mem → Prop) (e : Exit) (A : Act) (W : World) : Prop :=
  ∃ a m g', K e a m ∧ Rel P c (g₀ ++ g') m W ∧ ARel (g₀ ++ g') a A
theorem Post.mono {P : Program} {c : Ctx} {g : List (Option GB)} {K K' : Exit → List Value → Mem → Prop} (h : ∀ e a m, K e a m → K' e a m) {e : Exit} {A : Act} {W : World}
    (hp : Post P c g K e A W) : Post P c g K' e A W :=
  let ⟨a, m, g', hk, hr, ha⟩ := hp
  ⟨a, m, g', h _ _ _ hk, hr, ha⟩
def PostM (P : Program) (c : Ctx) (g₀ : List (Option GB)) (ds : List Deferred) (K : Exit → List Value → Mem → Prop) (e : Exit) (A : Act) (W : World) : Prop :=
  ∃ a m g' c' ds', K e a m ∧ Ext P c c' ds' ∧ Rel P c' (g₀ ++ g') m W ∧ F2 (VR (g₀ ++ g')) a A.tmps.toList ∧ A.defers = ds' ++ ds
theorem Post.toM {P : Program} {c : Ctx} {g₀ : List (Option GB)} {ds : List Deferred} {K : Exit → List Value → Mem → Prop} {e : Exit} {A : Act} {W : World} (h : Post P c g₀ K e A W) : PostM P c g₀ ds K e (addD A ds) W :=
  let ⟨a, m, g', hk, hr, ha⟩ := h
  ⟨a, m, g', c, [], hk, .refl _ _, hr, ha.tmps, by show A.defers ++ ds = _; rw [ha.defers]⟩
theorem PostM.mono {P : Program} {c : Ctx} {g : List (Option GB)} {ds : List Deferred} {K K' : Exit → List Value → Mem → Prop} {e e' : Exit} (h : ∀ a m, K e a m → K' e' a m) {A : Act} {W : World}
    (hp : PostM P c g ds K e A W) : PostM P c g ds K' e' A W :=
  let ⟨a, m, g', c', ds', hk, rest⟩ := hp
  ⟨a, m, g', c', ds', h _ _ hk, rest⟩
theorem PostM.next {P : Program} {c : Ctx} {g₀ : List (Option GB)} {ds : List Deferred} {K : Exit → List Value → Mem → Prop} {e : Exit} {A : Act} {W : World} (h : PostM P c g₀ ds K e A W) :
    ∃ a m g' c' ds' A0, K e a m ∧ Ext P c c' ds' ∧ Rel P c' (g₀ ++ g') m W ∧ ARel (g₀ ++ g') a A0 ∧ A = addD A0 (ds' ++ ds) :=
  let ⟨a, m, g', c', ds', hk, hx, hr, ha, hd⟩ := h
  ⟨a, m, g', c', ds', ⟨A.tmps, []⟩, hk, hx, hr, ⟨ha, rfl⟩, by show A = ⟨A.tmps, [] ++ (ds' ++ ds)⟩; rw [List.nil_append, ← hd]⟩
theorem PostM.lift {P : Program} {c c' : Ctx} {g₀ : List (Option GB)} {ds ds' : List Deferred} {K : Exit → List Value → Mem → Prop} {e : Exit} {A : Act} {W : World} (hx : Ext P c c' ds') (h : PostM P c' g₀ (ds' ++ ds) K e A W) : PostM P c g₀ ds K e A W :=
  let ⟨a, m, g', c2, d2, hk, hx2, hr, ha, hd⟩ := h
  ⟨a, m, g', c2, d2 ++ ds', hk, hx.trans hx2, hr, ha, by rw [hd, List.append_assoc]⟩
def AWp (P : Program) (n₀ : Nat) (x : Code) (K : Exit → List Value → Mem → Prop) (a : List Value) (m : Mem) : Prop :=
  ∀ c g₀ g A W, g₀.length = n₀ → Rel P c (g₀ ++ g) m W → ARel (g₀ ++ g) a A → ∀ (ds : List Deferred) (ro : Option Nat) (rm : Nat), Calm ro x → x.wpIn (WR ro) rm P (PostM P c g₀ ds K) (addD A ds) W
variable {P : Program} {n₀ : Nat} {K K' : Exit → List Value → Mem → Prop} {a : List Value} {m : Mem}
theorem AWp.of_any {id : Nat} {ops : Array Oper} (hm : P.follows .mixedOrders = true) (hK : ∀ a m, ¬ K .outgrown a m) (h : ∀ c g₀ g A W, g₀.length = n₀ → Rel P c (g₀ ++ g) m W → ARel (g₀ ++ g) a A → wpAny P .any ops (Post P c g₀ K) ops.size (Array.replicate ops.size false) A { W with drawn := W.drawn + 1 }) : AWp P n₀ (.region id ops true) K a m :=
  fun c g₀ g A W hn hr ha _ _ _ hc => wpIn_region_any hm (WR.any hc (fun _ _ ⟨_, _, _, h, _⟩ => hK _ _ h) (fun _ _ _ h => h.toM) _ _ _ _ (h c g₀ g A W hn hr ha))
theorem AWp.of_list {id : Nat} {ops : Array Oper} (hK : ∀ a m, ¬ K .outgrown a m) (h : ∀ c g₀ g A W, g₀.length = n₀ → Rel P c (g₀ ++ g) m W → ARel (g₀ ++ g) a A → wpList P ops (Post P c g₀ K) ops.toList A W) : AWp P n₀ (.region id ops false) K a m :=
  fun c g₀ g A W hn hr ha _ _ _ hc => wpIn_region_list (WR.list (fun _ _ ⟨_, _, _, h, _⟩ => hK _ _ h) (fun _ _ _ h => h.toM) _ _ _ hc (h c g₀ g A W hn hr ha))
theorem AWp.mono {x : Code} (h : AWp P n₀ x K a m) (hk : ∀ e a m, K e a m → K' e a m) : AWp P n₀ x K' a m :=
  fun c g₀ g A W hn hr ha ds ro rm hc => wpIn_mono (h c g₀ g A W hn hr ha ds ro rm hc) fun _ _ _ q => q.mono (hk _)
theorem ARel.here {g₀ g : List (Option GB)} {c : Ctx} {W : World} {A : Act} {e : Exit} {ds : List Deferred} (h : K e a m) (hr : Rel P c (g₀ ++ g) m W) (ha : ARel (g₀ ++ g) a A) : PostM P c g₀ ds K e (addD A ds) W :=
  ⟨a, m, g, c, [], h, .refl _ _, hr, ha.tmps, by show A.defers ++ ds = _; rw [ha.defers]⟩
theorem AWp.skip (h : K .normal a m) : AWp P n₀ .skip K a m := fun _ _ _ _ _ _ hr ha _ _ _ _ => wpIn_skip (ARel.here h hr ha)
theorem AWp.ret (h : K .ret a m) : AWp P n₀ .ret K a m := fun _ _ _ _ _ _ hr ha _ _ _ _ => wpIn_ret (ARel.here h hr ha)
theorem AWp.exit {id : Nat} (h : K (.exit id) a m) : AWp P n₀ (.exit id) K a m := fun _ _ _ _ _ _ hr ha _ _ _ _ => wpIn_exit (ARel.here h hr ha)
def andThen (N : List Value → Mem → Prop) (K : Exit → List Value → Mem → Prop) : Exit → List Value → Mem → Prop
  | .normal, a, m => N a m
  | e, a, m => K e a m
theorem AWp.seq {x y : Code} (h : AWp P n₀ x (andThen (AWp P n₀ y K) K) a m) : AWp P n₀ (.seq x y) K a m := by
  intro c g₀ g A W hn hr ha ds ro rm hc
  have hc1 : Calm ro x := hc.imp id fun h => by simp only [calmC, Bool.and_eq_true] at h; exact h.1
  have hc2 : Calm ro y := hc.imp id fun h => by simp only [calmC, Bool.and_eq_true] at h; exact h.2
  refine wpIn_seq (wpIn_mono (h c g₀ g A W hn hr ha ds ro rm hc1) ?_)
  intro e A' W' hp
  cases e with
  | normal =>
    obtain ⟨a', m', g', c', ds', A0, hk, hx, hr', ha', rfl⟩ := hp.next
    exact wpIn_mono (hk c' g₀ g' A0 W' hn hr' ha' (ds' ++ ds) ro rm hc2) fun _ _ _ => PostM.lift hx
  | exit id => exact hp
  | goto l => exact hp
  | ret => exact hp
  | panic ch => exact hp
  | outgrown => exact hp
def inBlk (id : Nat) (K : Exit → List Value → Mem → Prop) : Exit → List Value → Mem → Prop
  | .exit id', a, m => if id' = id then K .normal a m else K (.exit id') a m
  | e, a, m => K e a m
theorem AWp.block {id : Nat} {x : Code} (h : AWp P n₀ x (inBlk id K) a m) : AWp P n₀ (.block id x) K a m := by
  intro c g₀ g A W hn hr ha ds ro rm hc
  refine wpIn_block (wpIn_mono (h c g₀ g A W hn hr ha ds ro rm hc) ?_)
  intro e A' W' hp
  cases e with
  | exit id' =>
    by_cases hid : id' = id
    · simp only [Exit.inBlock, if_pos hid]
      exact hp.mono fun a m hk => by simp only [inBlk, if_pos hid] at hk; exact hk
    · simp only [Exit.inBlock, if_neg hid]
      exact hp.mono fun a m hk => by simp only [inBlk, if_neg hid] at hk; exact hk
  | normal => exact hp
  | goto l => exact hp
  | ret => exact hp
  | panic ch => exact hp
  | outgrown => exact hp
def Sees (n₀ : Nat) (a : List Value) (m : Mem) (a' : List Value) (m' : Mem) : Prop :=
  ∀ P c g₀ g A W, g₀.length = n₀ → Rel P c (g₀ ++ g) m W → ARel (g₀ ++ g) a A → ∃ g', Rel P c (g₀ ++ g') m' W ∧ ARel (g₀ ++ g') a' A
theorem Sees.refl (n₀ : Nat) (a : List Value) (m : Mem) : Sees n₀ a m a m := fun _ _ _ g _ _ _ hr ha => ⟨g, hr, ha⟩
theorem Sees.trans {n₀ : Nat} {a a' a'' : List Value} {m m' m'' : Mem} (h : Sees n₀ a m a' m') (h' : Sees n₀ a' m' a'' m'') : Sees n₀ a m a'' m'' :=
  fun P c g₀ g A W hn hr ha => let ⟨g', hr', ha'⟩ := h P c g₀ g A W hn hr ha; h' P c g₀ g' A W hn hr' ha'
theorem AWp.sees {x : Code} {a' : List Value} {m' : Mem} (hs : Sees n₀ a m a' m') (h : AWp P n₀ x K a' m') : AWp P n₀ x K a m :=
  fun c g₀ g A W hn hr ha => let ⟨g', hr', ha'⟩ := hs P c g₀ g A W hn hr ha; h c g₀ g' A W hn hr' ha'
theorem AWp.loop {x : Code} (I : Nat → List Value → Mem → Prop) (k₀ : Nat) (h₀ : ∃ a' m', Sees n₀ a m a' m' ∧ I k₀ a' m')
    (round : ∀ k a m, I k a m → AWp P n₀ x (andThen (fun a' m' => ∃ k' a'' m'', k' < k ∧ Sees n₀ a' m' a'' m'' ∧ I k' a'' m'') K) a m) : AWp P n₀ (.loop x) K a m := by
  intro c g₀ g A W hn hr ha ds ro rm hc
  obtain ⟨a₁, m₁, hs, hI⟩ := h₀
  obtain ⟨g₁, hr₁, ha₁⟩ := hs P c g₀ g A W hn hr ha
  refine wpIn_loop_ghost (fun k A W => PostM P c g₀ ds (fun _ a m => I k a m) .normal A W) k₀ (ARel.here hI hr₁ ha₁) ?_
  intro k A W hp
  obtain ⟨a, m, g', c', ds', A0, hI, hx, hr, ha, rfl⟩ := hp.next
  refine wpIn_mono (round k a m hI c' g₀ g' A0 W hn hr ha (ds' ++ ds) ro rm hc) ?_
  intro e A' W' hp
  have hp := hp.lift hx
  cases e with
  | normal =>
    obtain ⟨a', m', g'', c2, d2, A2, ⟨k', a'', m'', hlt, hs, hI'⟩, hx2, hr', ha', rfl⟩ := hp.next
    obtain ⟨g₃, hr₃, ha₃⟩ := hs P c2 g₀ g'' A2 W' hn hr' ha'
    exact ⟨k', hlt, a'', m'', g₃, c2, d2, hI', hx2, hr₃, ha₃.tmps, by show A2.defers ++ _ = _; rw [ha'.defers]; rfl⟩
  | exit id => exact hp
  | goto l => exact hp
  | ret => exact hp
  | panic ch => exact hp
  | outgrown => exact hp
theorem AWp.loop_rounds {x : Code} (N : Nat) (I : Nat → List Value → Mem → Prop) (h₀ : I N a m)
    (round : ∀ k a m, I k a m → AWp P n₀ x (andThen (fun a' m' => ∃ k', k' < k ∧ I k' a' m') K) a m) : AWp P n₀ (.loop x) K a m :=
  AWp.loop I N ⟨a, m, .refl _ _ _, h₀⟩ fun k a m hI => (round k a m hI).mono fun e a' m' h => by
    cases e with
    | normal => obtain ⟨k', hlt, hI'⟩ := h; exact ⟨k', a', m', hlt, .refl _ _ _, hI'⟩
    | exit id => exact h
    | goto l => exact h
    | ret => exact h
    | panic ch => exact h
    | outgrown => exact h
def plainS : Value → Bool
  | .bool _ | .int _ _ | .string _ | .pointer none | .nilFunc | .nilIface => true
  | .slice none 0 0 => true
  | .func _ ⟨[]⟩ ⟨[]⟩ => true
  | _ => false
def plainC : Value → Bool
  | .agg ⟨xs⟩ => xs.all plainS
  | .tuple ⟨[]⟩ => true
  | v => plainS v
theorem SR.plain (g : List (Option GB)) {v : Value} (h : plainS v = true) : SR g v v := by
  unfold plainS at h
  split at h
  · exact .bool _
  · exact .int _ _
  · exact .str _
  · exact .ptr0
  · exact .nilFunc
  · exact .nilIface
  · exact .slice0
  · exact .func _
  · cases h
theorem VR.plain (g : List (Option GB)) {v : Value} (h : plainC v = true) : VR g v v := by
  unfold plainC at h
  split at h
  · exact .agg (F2.refl _ fun x hx => SR.plain g (List.all_eq_true.1 h x hx))
  · exact .tup .nil
  · exact .s (SR.plain g h)
def aeval (a : List Value) : Operand → Value
  | .tmp t => (a[t]?).getD undef
  | .const v => if plainC v then v else topV
  | .global _ => topV
  | .func f => .func (.func f) #[] #[]
theorem VR.undef (g : List (Option GB)) : VR g Go.undef Go.undef := .tup .nil
theorem ARel.eval {g : List (Option GB)} {a : List Value} {A : Act} (h : ARel g a A) (x : Operand) : VR g (aeval a x) (A.eval x) := by
  cases x with
  | tmp t =>
    simp only [aeval, Act.eval]
    cases hx : a[t]? with
    | none =>
      have : A.tmps.size ≤ t := by
        have := h.tmps.length
        rw [List.getElem?_eq_none_iff] at hx
        simp at this; omega
      rw [Array.getD_eq_getD_getElem?, Array.getElem?_eq_none this]
      exact .undef g
    | some v =>
      obtain ⟨w, hw, hr⟩ := h.tmps.get t v hx
      rw [Array.getD_eq_getD_getElem?, ← Array.getElem?_toList, hw]
      exact hr
  | const v =>
    simp only [aeval, Act.eval]
    split
    · rename_i hp; exact .plain g hp
    · exact .top _
  | global _ => exact .top _
  | func f => exact .s (.func _)
theorem ARel.put {g : List (Option GB)} {a : List Value} {A : Act} (h : ARel g a A) (dst : Option Tmp) {v w : Value} (hv : VR g v w) :
    ARel g (match dst with | some d => a.set d v | none => a) (A.put dst w) := by
  cases dst with
  | none => exact h
  | some d => exact ⟨by simpa [Act.put] using h.tmps.set d hv, h.defers⟩
def ACall (P : Program) (f : FuncId) (args : List Value) (m : Mem) (K : Value → Mem → Prop) : Prop :=
  ∀ c g W args', Rel P c g m W → F2 (VR g) args args' →
    Calls P f ⟨args'⟩ W fun e W' => ∃ v v' m' g', e = .returned v' ∧ K v m' ∧ Rel P c (g ++ g') m' W' ∧ VR (g ++ g') v v'
theorem ACall.mono {f : FuncId} {args : List Value} {K K' : Value → Mem → Prop} (h : ACall P f args m K) (hk : ∀ v m', K v m' → K' v m') : ACall P f args m K' :=
  fun c g W args' hr ha => (h c g W args' hr ha).mono fun _ _ ⟨v, v', m', g', he, hK, rest⟩ => ⟨v, v', m', g', he, hk _ _ hK, rest⟩
def Jumps (P : Program) (n₀ : Nat) (c : Code) (K : Exit → List Value → Mem → Prop) : Nat → Code → List Value → Mem → Prop
  | 0, _, _, _ => False
  | n + 1, x, a, m => AWp P n₀ x (fun e a m => match e with
    | .goto l => match findLabel c l with
      | some rest => Jumps P n₀ c K n rest a m
      | none => K (.goto l) a m
    | e => K e a m) a m
theorem stepR_scope' {b : Frame} {A : Act} {k : List Item} {cs : List Frame} {W : World} {c : Code} : step P (lone (b.atR A (.code (.scope c) :: k)) cs W) = .next (lone (b.atR A (.code c :: .inScope c :: k)) cs W) :=
  step_lone_go (by simp [stepG, stepG.exec, Frame.atR])
theorem stepR_inScope' {b : Frame} {A : Act} {k : List Item} {cs : List Frame} {W : World} {c : Code} : step P (lone (b.atR A (.inScope c :: k)) cs W) = .next (lone (b.atR A k) cs W) :=
  step_lone_go (by simp [stepG, stepG.exec, Frame.atR])
theorem jumps_run {c : Code} {g₀ : List (Option GB)} (hn : g₀.length = n₀) {ro : Option Nat} {rm : Nat} (hcc : Calm ro c) : ∀ (n : Nat) (x : Code) (cx : Ctx) (a : List Value) (m : Mem) (g : List (Option GB)) (A : Act) (W : World) (ds : List Deferred), Calm ro x → Jumps P n₀ c K n x a m → Rel P cx (g₀ ++ g) m W → ARel (g₀ ++ g) a A →
    ∀ (b : Frame) (k : List Item) (cs : List Frame), b.roundOf = (WR ro).round → (WR ro).fn b.fn → (WR ro).room (cs.length + 1 + rm) → ∃ e A' W', PostM P cx g₀ ds K e A' W' ∧ ArrivesIn (Machine.fenced P (WR ro)) P (lone (b.atR (addD A ds) (.code x :: .inScope c :: k)) cs W) b k cs e A' W'
  | 0, _, _, _, _, _, _, _, _, _, h, _, _ => h.elim
  | n + 1, x, cx, a, m, g, A, W, ds, hx, h, hr, ha => by
    intro b k cs hro hfn hroom
    obtain ⟨e, A₁, W₁, hp, harr⟩ := h cx g₀ g A W hn hr ha ds ro rm hx b (.inScope c :: k) cs hro hfn hroom
    cases e with
    | normal => exact ⟨.normal, A₁, W₁, hp, StepsIn.trans harr (.one (WR.calm _ _ _) stepR_inScope')⟩
    | exit id => exact ⟨.exit id, A₁, W₁, hp, fun k' hk => harr.1 k' (by simp [exitTo, hk]), fun hs hk => harr.2 hs (by simp [exitTo, hk])⟩
    | ret => exact ⟨.ret, A₁, W₁, hp, harr⟩
    | panic ch => exact ⟨.panic ch, A₁, W₁, hp, harr⟩
    | outgrown => exact ⟨.outgrown, A₁, W₁, hp, harr⟩
    | goto l =>
      cases hf : findLabel c l with
      | none =>
        exact ⟨.goto l, A₁, W₁, hp.mono fun a m hk => by simp only [hf] at hk; exact hk, fun k' hk' => harr.1 k' (by simp [gotoIn, hf, hk']), fun hs hk' => harr.2 hs (by simp [gotoIn, hf, hk'])⟩
      | some rest =>
        obtain ⟨a', m', g', c', ds', A0, hk, hx', hr', ha', rfl⟩ := hp.next
        simp only [hf] at hk
        obtain ⟨e, A₂, W₂, hq, harr₂⟩ := jumps_run hn hcc n rest c' a' m' g' A0 W₁ (ds' ++ ds) (hcc.find hf) hk hr' ha' b k cs hro hfn hroom
        exact ⟨e, A₂, W₂, hq.lift hx', .of_steps (harr.1 _ (by simp [gotoIn, hf])) harr₂⟩
theorem AWp.scope {c : Code} {n : Nat} (h : Jumps P n₀ c K n c a m) : AWp P n₀ (.scope c) K a m := by
  intro cx g₀ g A W hn hr ha ds ro rm hc b k cs hro hfn hroom
  have hcc : Calm ro c := hc
  obtain ⟨e, A', W', hq, harr⟩ := jumps_run hn hcc n c cx a m g A W ds hcc h hr ha b k cs hro hfn hroom
  exact ⟨e, A', W', hq, .of_steps (.one (WR.calm _ _ _) stepR_scope') harr⟩
theorem AWp.label {l : Nat} (h : K .normal a m) : AWp P n₀ (.label l) K a m := fun _ _ _ _ _ _ hr ha _ _ _ _ => wpIn_label (ARel.here h hr ha)
theorem AWp.goto {l : Nat} (h : K (.goto l) a m) : AWp P n₀ (.goto l) K a m := fun _ _ _ _ _ _ hr ha _ _ _ _ => wpIn_goto (ARel.here h hr ha)
def IterOk (P : Program) (gf : FuncId) (vs : List (List Value)) : Prop :=
  (∀ args w, (callFunc gf args).run P w = .ok (.enter gf args) w) ∧
  ∀ (m l : Nat) (J : Nat → World → Prop) (Jx : World → Prop) (W : World), (∀ k W W', J k W → W.grownBy W' none → J k W') → (∀ W W', Jx W → W.grownBy W' none → Jx W') → (∀ k W, J k W → Good W fun _ => False) →
    (∀ k v W1, vs[k]? = some v → J k W1 → ∀ m', YieldAt Fence.wide m' P l ⟨v⟩ W1 fun e W' => (e = .returned (.bool true) ∧ J (k + 1) W') ∨ (e = .returned (.bool false) ∧ Jx W')) →
    J 0 W → CallsIn Fence.wide m P gf #[.func (.yield l) #[] #[]] W fun e W' => (∃ v, e = .returned v) ∧ (J vs.length W' ∨ Jx W')
end Go.AE
end
section
namespace Go.AE
structure TI where
  size : Nat
  bytes : Nat
  zero : Option Value
structure Tab (P : Program) where
  und : TypeId → Option TypeDesc
  inf : TypeId → Option TI
  fn : FuncId → Bool
  mixed : P.follows .mixedOrders = true
  plainEq : TypeId → Bool
  plainEq_ok : ∀ t, plainEq t = true → P.eqGuardType P.depth t = false ∧ P.stoodInHeld t = false
  und_ok : ∀ t d, und t = some d → P.underlying t = some d
  inf_ok : ∀ t x, inf t = some x → ∃ i, P.info? t = some i ∧ i.size = x.size ∧ i.bytes = x.bytes ∧ i.zero = x.zero
  fn_ok : ∀ f, fn f = true → ∃ d c, P.funcs[f]? = some d ∧ (d.name == "runtime.NumGoroutine") = false ∧ d.body = some c
  it : FuncId → Option (List (List Value)) := fun _ => none
  it_ok : ∀ f vs, it f = some vs → IterOk P f vs := by intro _ _ h; cases h
variable {P : Program}
theorem run_typeInfo {t : TypeId} {i : TypeInfo} (h : P.info? t = some i) (w : World) : (typeInfo t).run P w = .ok i w := by
  simp [typeInfo, program, Sem.run, h, bind, Sem.bind, pure]
theorem Tab.run_und (T : Tab P) {t : TypeId} {d : TypeDesc} (h : T.und t = some d) (w : World) : (underlying t).run P w = .ok d w := run_underlying (T.und_ok t d h) w
theorem Tab.run_size (T : Tab P) {t : TypeId} {x : TI} (h : T.inf t = some x) (w : World) : (sizeOf t).run P w = .ok x.size w := by
  obtain ⟨i, hi, hs, _⟩ := T.inf_ok t x h
  simp [sizeOf, run_typeInfo hi, hs]
theorem Tab.run_zero (T : Tab P) {t : TypeId} {x : TI} {v : Value} (h : T.inf t = some x) (hz : x.zero = some v) (w : World) : (zeroValue t).run P w = .ok v w := by
  obtain ⟨i, hi, _, _, hz'⟩ := T.inf_ok t x h
  simp [zeroValue, run_typeInfo hi, hz', hz]
theorem Tab.cellsOf (T : Tab P) {t : TypeId} {x : TI} (h : T.inf t = some x) : P.cellsOf t = x.size := by
  obtain ⟨i, hi, hs, _⟩ := T.inf_ok t x h
  simp [Program.cellsOf, hi, hs]
def isAggD : TypeDesc → Bool
  | .struct _ | .array _ _ => true
  | _ => false
theorem Tab.run_isAgg (T : Tab P) {t : TypeId} {d : TypeDesc} (h : T.und t = some d) (w : World) : (isAgg t).run P w = .ok (isAggD d) w := by
  simp only [isAgg, Sem.run_bind, T.run_und h, Result.andThen_ok]
  cases d <;> rfl
def intBin (op : BinOp) (k : IntKind) (x y : Int) : Option (List Bool × Value) :=
  match op with
  | .add => some ([], .int k (k.wrap (x + y)))
  | .sub => some ([], .int k (k.wrap (x - y)))
  | .mul => some ([], .int k (k.wrap (x * y)))
  | .quo => some ([y != 0], .int k (k.wrap (x.tdiv y)))
  | .rem => some ([y != 0], .int k (x.tmod y))
  | .and => some ([], .int k (bits .and k x y))
  | .or => some ([], .int k (bits .or k x y))
  | .xor => some ([], .int k (bits .xor k x y))
  | .andNot => some ([], .int k (bits .andNot k x y))
  | .eql => some ([], .bool (x == y))
  | .neq => some ([], .bool (x != y))
  | .lss => some ([], .bool (x < y))
  | .leq => some ([], .bool (x ≤ y))
  | .gtr => some ([], .bool (x > y))
  | .geq => some ([], .bool (x ≥ y))
  | .shl => some ([decide (0 ≤ y)], .int k (k.wrap (x * 2 ^ (min y.toNat k.bits))))
  | .shr => some ([decide (0 ≤ y)], .int k (x.fdiv (2 ^ (min y.toNat k.bits))))
theorem intBin_ok {op : BinOp} {k : IntKind} {x y : Int} {cs : List Bool} {v : Value} (h : intBin op k x y = some (cs, v)) (hc : ∀ c ∈ cs, c = true) (t : TypeId) (W : World) :
    (binOp op t (.int k x) (.int k y)).run P W = .ok v W := by
  cases op <;> simp only [intBin, Option.some.injEq, Prod.mk.injEq] at h <;> obtain ⟨rfl, rfl⟩ := h <;>
    simp only [List.mem_cons, List.not_mem_nil, or_false, forall_eq, bne_iff_ne, decide_eq_true_eq] at hc <;>
    first
      | rfl
      | (simp [binOp, Op.intArith]; done)
      | (simp [binOp, Op.intDiv, hc]; done)
      | (simp [binOp, intBits_and, intBits_or, intBits_xor, intBits_andNot]; done)
      | (simp [binOp, Op.intCmp]; done)
      | (simp [binOp, Op.shift, Int.not_lt.2 hc]; done)
theorem intBin_int {op : BinOp} {k : IntKind} {x y : Int} {cs : List Bool} {v : Value} (h : intBin op k x y = some (cs, v)) (g : List (Option GB)) : VR g v v := by
  cases op <;> simp only [intBin, Option.some.injEq, Prod.mk.injEq] at h <;> obtain ⟨rfl, rfl⟩ := h <;> first | exact .s (.int _ _) | exact .s (.bool _)
def strBin (op : BinOp) (x y : ByteArray) : Option (List Bool × Value) :=
  match op with
  | .add => some ([decide (x.data.size + y.data.size ≤ 9223372036854775807)], .string ⟨x.data ++ y.data⟩)
  | .eql => some ([], .bool (x.data.toList == y.data.toList))
  | .neq => some ([], .bool !(x.data.toList == y.data.toList))
  | .lss => some ([], .bool (Op.bytesLess x.data.toList y.data.toList))
  | .leq => some ([], .bool (Op.bytesLess x.data.toList y.data.toList || x.data.toList == y.data.toList))
  | .gtr => some ([], .bool !(Op.bytesLess x.data.toList y.data.toList || x.data.toList == y.data.toList))
  | .geq => some ([], .bool !(Op.bytesLess x.data.toList y.data.toList))
  | _ => none
theorem strBin_ok {op : BinOp} {x y : ByteArray} {cs : List Bool} {v : Value} (h : strBin op x y = some (cs, v)) (hc : ∀ c ∈ cs, c = true) (t : TypeId) (W : World) :
    (binOp op t (.string x) (.string y)).run P W = .ok v W := by
  have e : binOp op t (.string x) (.string y) = Op.stringOp op x y := by cases op <;> rfl
  have hx := ByteArray.toList_eq x
  have hy := ByteArray.toList_eq y
  rw [e]
  cases op <;> simp only [strBin, Option.some.injEq, Prod.mk.injEq, reduceCtorEq] at h <;> obtain ⟨rfl, rfl⟩ := h <;>
    simp only [List.mem_cons, List.not_mem_nil, or_false, forall_eq, decide_eq_true_eq] at hc <;> simp only [Op.stringOp, hx, hy]
  case add =>
    have h1 : ¬ ((x.size + y.size : Nat) : Int) > IntKind.i64.max := by
      rw [IntKind.max_i64]
      show ¬ ((x.data.size + y.data.size : Nat) : Int) > 9223372036854775807
      omega
    rw [if_neg h1]
    have : (x ++ y : ByteArray) = ⟨x.data ++ y.data⟩ := by apply ByteArray.ext; simp
    rw [this]; rfl
  all_goals rfl
theorem strBin_str {op : BinOp} {x y : ByteArray} {cs : List Bool} {v : Value} (h : strBin op x y = some (cs, v)) (g : List (Option GB)) : VR g v v := by
  cases op <;> simp only [strBin, Option.some.injEq, Prod.mk.injEq, reduceCtorEq] at h <;> obtain ⟨rfl, rfl⟩ := h <;> first | exact .s (.str _) | exact .s (.bool _)
def eqBin (d : TypeDesc) (x y : Value) : Option Bool :=
  match d, x, y with
  | .bool, .bool a, .bool b => some (a == b)
  | .pointer _, .pointer none, .pointer none => some true
  | .pointer _, .pointer none, .pointer (some _) => some false
  | .pointer _, .pointer (some _), .pointer none => some false
  | .slice _, .slice none _ _, .slice none _ _ => some true
  | .slice _, .slice none _ _, .slice (some _) (_ + 1) _ => some false
  | .slice _, .slice (some _) (_ + 1) _, .slice none _ _ => some false
  | .func _ _ _, .nilFunc, .nilFunc => some true
  | .func _ _ _, .nilFunc, .func _ _ _ => some false
  | .func _ _ _, .func _ _ _, .nilFunc => some false
  | _, _, _ => none
theorem eqBin_in {T : Tab P} {g : List (Option GB)} {t : TypeId} {d : TypeDesc} (ht : T.und t = some d) {x y x' y' : Value} {r : Bool} (h : eqBin d x y = some r) (hx : VR g x x') (hy : VR g y y') (n : Nat) (W : World) :
    (Op.equalIn (n + 1) t x' y').run P W = .ok r W := by
  have hu := T.run_und ht W
  unfold Op.equalIn
  unfold eqBin at h
  split at h <;> simp only [Option.some.injEq, reduceCtorEq] at h <;> subst h
  all_goals
    cases hx with
    | a hx => cases hx with
      | s hx => cases hy with
        | a hy => cases hy with
          | s hy => cases hx <;> cases hy <;> simp only [Sem.run_bind, hu, Result.andThen_ok] <;> rfl
theorem eqBin_ok {T : Tab P} {g : List (Option GB)} {t : TypeId} {d : TypeDesc} (ht : T.und t = some d) {x y x' y' : Value} {r : Bool} (h : eqBin d x y = some r) (hx : VR g x x') (hy : VR g y y') (W : World) :
    (Op.equal t x' y').run P W = .ok r W := eqBin_in ht h hx hy 9999 W
def aBin (op : BinOp) (d : Option TypeDesc) (x y : Value) : Option (List Bool × Value) :=
  match x, y with
  | .int k a, .int k' b =>
    match op with
    | .shl => some ([decide (0 ≤ b)], .int k (k.wrap (a * 2 ^ (min b.toNat k.bits))))
    | .shr => some ([decide (0 ≤ b)], .int k (a.fdiv (2 ^ (min b.toNat k.bits))))
    | op => if k = k' then intBin op k a b else none
  | .string a, .string b => strBin op a b
  | x, y =>
    match op, d with
    | .eql, some d => (eqBin d x y).map fun r => ([], .bool r)
    | .neq, some d => (eqBin d x y).map fun r => ([], .bool !r)
    | _, _ => none
theorem SR.inv_int {g : List (Option GB)} {k : IntKind} {n : Int} {v : Value} (h : VR g (.int k n) v) : v = .int k n := by
  cases h with
  | a h => cases h with
    | s h => cases h; rfl
theorem SR.inv_str {g : List (Option GB)} {s : ByteArray} {v : Value} (h : VR g (.string s) v) : v = .string s := by
  cases h with
  | a h => cases h with
    | s h => cases h; rfl
theorem SR.inv_bool {g : List (Option GB)} {b : Bool} {v : Value} (h : VR g (.bool b) v) : v = .bool b := by
  cases h with
  | a h => cases h with
    | s h => cases h; rfl
theorem eqGuard_of {d : TypeDesc} {x y x' y' : Value} {r : Bool} {g : List (Option GB)} (h : eqBin d x y = some r) (hx : VR g x x') (op : BinOp) (t : TypeId) (u v : Operand) : eqGuard op t u v x' y' = pure () := by
  unfold eqBin at h
  split at h <;> simp only [Option.some.injEq, reduceCtorEq] at h
  all_goals
    cases hx with
    | a hx => cases hx with
      | s hx => cases hx <;> simp only [eqGuard_at_bool, eqGuard_at_pointer, eqGuard_at_slice, eqGuard_at_func, eqGuard_at_nilFunc]
theorem binOp_eql_of {d : TypeDesc} {x y x' y' : Value} {r : Bool} {g : List (Option GB)} (h : eqBin d x y = some r) (hx : VR g x x') (hy : VR g y y') (t : TypeId) :
    binOp .eql t x' y' = (do pure (.bool (← Op.equal t x' y'))) ∧ binOp .neq t x' y' = (do pure (.bool (!(← Op.equal t x' y')))) := by
  unfold eqBin at h
  split at h <;> simp only [Option.some.injEq, reduceCtorEq] at h
  all_goals
    cases hx with
    | a hx => cases hx with
      | s hx => cases hy with
        | a hy => cases hy with
          | s hy => cases hx <;> cases hy <;> exact ⟨rfl, rfl⟩
theorem aBin_ok {T : Tab P} {g : List (Option GB)} {op : BinOp} {t : TypeId} {x y x' y' : Value} {cs : List Bool} {v : Value} (h : aBin op (T.und t) x y = some (cs, v)) (hc : ∀ c ∈ cs, c = true)
    (hx : VR g x x') (hy : VR g y y') (ox oy : Operand) (W : World) :
    (do eqGuard op t ox oy x' y'; binOp op t x' y' : Sem Value).run P W = .ok v W ∧ VR g v v := by
  unfold aBin at h
  split at h
  · rename_i k a k' b
    obtain rfl := SR.inv_int hx
    obtain rfl := SR.inv_int hy
    simp only [eqGuard_at_int, pure_bind]
    split at h
    · simp only [Option.some.injEq, Prod.mk.injEq] at h
      obtain ⟨rfl, rfl⟩ := h
      simp only [List.mem_cons, List.not_mem_nil, or_false, forall_eq, decide_eq_true_eq] at hc
      exact ⟨by simp [binOp, Op.shift, Int.not_lt.2 hc], .s (.int _ _)⟩
    · simp only [Option.some.injEq, Prod.mk.injEq] at h
      obtain ⟨rfl, rfl⟩ := h
      simp only [List.mem_cons, List.not_mem_nil, or_false, forall_eq, decide_eq_true_eq] at hc
      exact ⟨by simp [binOp, Op.shift, Int.not_lt.2 hc], .s (.int _ _)⟩
    · split at h
      · rename_i e; subst e
        exact ⟨intBin_ok h hc t W, intBin_int h g⟩
      · cases h
  · obtain rfl := SR.inv_str hx
    obtain rfl := SR.inv_str hy
    simp only [eqGuard_at_string, pure_bind]
    exact ⟨strBin_ok h hc t W, strBin_str h g⟩
  · split at h
    · rename_i d hd
      cases hr : eqBin d x y with
      | none => rw [hr] at h; cases h
      | some r =>
        rw [hr] at h
        simp only [Option.map_some, Option.some.injEq, Prod.mk.injEq] at h
        obtain ⟨rfl, rfl⟩ := h
        rw [eqGuard_of hr hx, pure_bind, (binOp_eql_of hr hx hy t).1]
        exact ⟨by simp [eqBin_ok hd hr hx hy W], .s (.bool _)⟩
    · rename_i d hd
      cases hr : eqBin d x y with
      | none => rw [hr] at h; cases h
      | some r =>
        rw [hr] at h
        simp only [Option.map_some, Option.some.injEq, Prod.mk.injEq] at h
        obtain ⟨rfl, rfl⟩ := h
        rw [eqGuard_of hr hx, pure_bind, (binOp_eql_of hr hx hy t).2]
        exact ⟨by simp [eqBin_ok hd hr hx hy W], .s (.bool _)⟩
    · cases h
end Go.AE
end
section
namespace Go.AE
variable {P : Program}
abbrev bl (s : ByteArray) : List UInt8 := s.data.toList
abbrev S (l : List UInt8) : Value := .string ⟨⟨l⟩⟩
def aUn (op : UnOp) (x : Value) : Option Value :=
  match op, x with
  | .not, .bool b => some (.bool !b)
  | .neg, .int k n => some (.int k (k.wrap (0 - n)))
  | .xor, .int k n => some (.int k (bits .xor k (if k.signed then -1 else k.max) n))
  | _, _ => none
theorem aUn_ok {op : UnOp} {x x' v : Value} {g : List (Option GB)} (h : aUn op x = some v) (hx : VR g x x') (W : World) : (Op.unary op x').run P W = .ok v W ∧ VR g v v := by
  unfold aUn at h
  split at h <;> simp only [Option.some.injEq, reduceCtorEq] at h <;> subst h
  · obtain rfl := SR.inv_bool hx; exact ⟨rfl, .s (.bool _)⟩
  · obtain rfl := SR.inv_int hx; exact ⟨rfl, .s (.int _ _)⟩
  · obtain rfl := SR.inv_int hx; exact ⟨rfl, .s (.int _ _)⟩
def aConv (s d : Option TypeDesc) (x : Value) : Option Value :=
  match s, d, x with
  | some _, some (.int k), .int _ n => some (.int k (k.wrap n))
  | some _, some .string, .string s => some (.string s)
  | _, _, _ => none
theorem aConv_ok {T : Tab P} {s d : TypeId} {x x' v : Value} {g : List (Option GB)} (h : aConv (T.und s) (T.und d) x = some v) (hx : VR g x x') (W : World) : (convert s d x').run P W = .ok v W ∧ VR g v v := by
  unfold aConv at h
  split at h <;> simp only [Option.some.injEq, reduceCtorEq] at h <;> subst h
  · rename_i hs hd
    obtain rfl := SR.inv_int hx
    refine ⟨?_, .s (.int _ _)⟩
    simp only [convert, Sem.run_bind, T.run_und hs, T.run_und hd, Result.andThen_ok]; rfl
  · rename_i hs hd
    obtain rfl := SR.inv_str hx
    refine ⟨?_, .s (.str _)⟩
    simp only [convert, Sem.run_bind, T.run_und hs, T.run_und hd, Result.andThen_ok]; rfl
def fillL (place : Nat → Option (Nat × Nat)) (cells : List Value) : List (Nat × Value) → Option (List Value)
  | [] => some cells
  | (i, v) :: rest =>
    match place i with
    | none => none
    | some (off, size) =>
      let xs := v.cells.toList
      if xs.length ≠ size || off + xs.length > cells.length then none
      else fillL place (xs.zipIdx.foldl (fun cs (c, j) => cs.set (off + j) c) cells) rest
def cellsOk : Value → Bool
  | .tuple _ => false
  | .map (some 0) => false
  | _ => true
theorem SR.scalar {g : List (Option GB)} {v w : Value} (h : SR g v w) : scalarV v = true ∧ scalarV w = true := by
  cases h <;> first | exact ⟨rfl, rfl⟩ | exact ⟨rfl, ‹_›⟩
theorem cells_scalar {w : Value} (h : scalarV w = true) : w.cells.toList = [w] := by
  cases w <;> first | rfl | cases h
theorem VR.cells {g : List (Option GB)} {v w : Value} (h : VR g v w) (hc : cellsOk v = true) : F2 (SR g) v.cells.toList w.cells.toList := by
  cases h with
  | a h => cases h with
    | s h =>
      rw [cells_scalar h.scalar.1, cells_scalar h.scalar.2]
      exact .cons h .nil
    | agg h => exact h
  | tup _ => cases hc
  | top _ => cases hc
theorem fill_foldl {g : List (Option GB)} {off : Nat} : ∀ (xs ys : List Value) (k : Nat) (cs : List Value) (ds : Array Value), F2 (SR g) xs ys → F2 (SR g) cs ds.toList →
    F2 (SR g) ((xs.zipIdx k).foldl (fun cs (c, j) => cs.set (off + j) c) cs) ((ys.zipIdx k).foldl (fun (cs : Array Value) (c, j) => cs.setIfInBounds (off + j) c) ds).toList
  | [], [], _, _, _, _, h => h
  | x :: xs, y :: ys, k, cs, ds, .cons hr hf, h => by
    simp only [List.zipIdx_cons, List.foldl_cons]
    exact fill_foldl xs ys (k + 1) _ _ hf (by simpa using h.set (off + k) hr)
theorem fill_ok {g : List (Option GB)} {place : Nat → Option (Nat × Nat)} : ∀ (ps qs : List (Nat × Value)) (cs : List Value) (ds : Array Value) (r : List Value),
    F2 (fun p q => p.1 = q.1 ∧ VR g p.2 q.2) ps qs → ps.all (fun p => cellsOk p.2) = true → F2 (SR g) cs ds.toList → fillL place cs ps = some r →
    ∃ r' : Array Value, Instr.fill place ds qs = some r' ∧ F2 (SR g) r r'.toList
  | [], [], cs, ds, r, _, _, h, hr => by simp only [fillL, Option.some.injEq] at hr; subst hr; exact ⟨ds, rfl, h⟩
  | (i, v) :: ps, (i', w) :: qs, cs, ds, r, .cons ⟨hi, hv⟩ hf, ha, h, hr => by
    simp only at hi; subst hi
    simp only [List.all_cons, Bool.and_eq_true] at ha
    have hvc := hv.cells ha.1
    have hl := hvc.length
    have hl2 := h.length
    simp only [fillL] at hr
    unfold Instr.fill
    cases hp : place i with
    | none => rw [hp] at hr; cases hr
    | some os =>
      obtain ⟨off, size⟩ := os
      rw [hp] at hr
      simp only at hr ⊢
      simp only [Array.length_toList] at hl hl2
      split at hr
      · cases hr
      · rename_i hc
        rw [if_neg (by simpa [← hl, ← hl2] using hc)]
        refine fill_ok ps qs _ _ r hf ha.2 ?_ hr
        have := fill_foldl (g := g) (off := off) v.cells.toList w.cells.toList 0 cs ds hvc h
        have e : w.cells.zipIdx.foldl (fun (cs : Array Value) (c, j) => cs.setIfInBounds (off + j) c) ds = w.cells.toList.zipIdx.foldl (fun (cs : Array Value) (c, j) => cs.setIfInBounds (off + j) c) ds := by
          rw [← Array.foldl_toList, Array.toList_zipIdx]
        rw [e]
        exact this
def placesOf (T : Tab P) (fs : List Field) : Option (List (Nat × Nat)) := fs.mapM fun f => (T.inf f.type).map fun x => (f.offset, x.size)
def placeM (f : Field) : Sem (Nat × Nat) := do pure (f.offset, ← sizeOf f.type)
theorem run_placeM (T : Tab P) {f : Field} {x : TI} (h : T.inf f.type = some x) (W : World) : (placeM f).run P W = .ok (f.offset, x.size) W := by
  unfold placeM
  simp only [Sem.run_bind, T.run_size h, Result.andThen_ok, Sem.run_pure]
theorem run_places (T : Tab P) (W : World) : ∀ (fs : List Field) (ps : List (Nat × Nat)), placesOf T fs = some ps → (fs.mapM placeM).run P W = .ok ps W
  | [], ps, h => by simp [placesOf] at h; subst h; rfl
  | f :: fs, ps, h => by
    unfold placesOf at h
    rw [List.mapM_cons] at h
    cases hx : T.inf f.type with
    | none => simp [hx] at h
    | some x =>
      cases hr : placesOf T fs with
      | none => unfold placesOf at hr; simp [hx, hr] at h
      | some qs =>
        have hr' := hr
        unfold placesOf at hr'
        simp [hx, hr'] at h
        subst h
        rw [List.mapM_cons]
        simp only [Sem.run_bind, run_placeM T hx, Result.andThen_ok, run_places T W fs qs hr, Sem.run_pure]
def buildA (T : Tab P) (t : TypeId) (parts : List (Nat × Value)) : Option Value :=
  match T.und t, T.inf t with
  | some d, some ti =>
    match ti.zero with
    | some (.agg ⟨zs⟩) =>
      if zs.all plainS && parts.all (fun p => cellsOk p.2) then
        match d with
        | .struct fs =>
          match placesOf T fs.toList with
          | some ps => (fillL (fun i => ps[i]?) zs parts).map fun cs => .agg ⟨cs⟩
          | none => none
        | .array _ e =>
          match T.inf e with
          | some te => (fillL (fun i => some (i * te.size, te.size)) zs parts).map fun cs => .agg ⟨cs⟩
          | none => none
        | _ => none
      else none
    | _ => none
  | _, _ => none
theorem buildA_ok {T : Tab P} {t : TypeId} {ps qs : List (Nat × Value)} {v : Value} {g : List (Option GB)} (h : buildA T t ps = some v) (hp : F2 (fun p q => p.1 = q.1 ∧ VR g p.2 q.2) ps qs) (W : World) :
    ∃ w, (Instr.build t ⟨qs⟩).run P W = .ok w W ∧ VR g v w := by
  unfold buildA at h
  split at h
  case h_2 => cases h
  rename_i d ti hd hti
  split at h
  case h_2 => cases h
  rename_i zs hz
  split at h
  case isFalse => cases h
  rename_i hc
  simp only [Bool.and_eq_true] at hc
  have hzs : F2 (SR g) zs (⟨zs⟩ : Array Value).toList := F2.refl _ fun x hx => SR.plain g (List.all_eq_true.1 hc.1 x hx)
  split at h
  · rename_i fs
    split at h
    case h_2 => cases h
    rename_i pl hpl
    cases hf : fillL (fun i => pl[i]?) zs ps with
    | none => rw [hf] at h; cases h
    | some r =>
      rw [hf] at h
      simp only [Option.map_some, Option.some.injEq] at h
      subst h
      obtain ⟨r', hr', hrr⟩ := fill_ok ps qs zs ⟨zs⟩ r hp hc.2 hzs hf
      refine ⟨.agg r', ?_, ?_⟩
      · have hm0 : (fs.mapM placeM : Sem (Array (Nat × Nat))).run P W = .ok ⟨pl⟩ W := by
          rw [Array.mapM_eq_mapM_toList]
          simp only [Sem.run_map, run_places T W _ _ hpl, Result.andThen_ok]
        have hm : (fs.mapM fun f => do pure (f.offset, ← sizeOf f.type) : Sem (Array (Nat × Nat))).run P W = .ok ⟨pl⟩ W := hm0
        have hp' : (fun i : Nat => (⟨pl⟩ : Array (Nat × Nat))[i]?) = fun i : Nat => pl[i]? := by funext i; simp
        unfold Instr.build
        simp only [Sem.run_bind, T.run_zero hti hz, T.run_und hd, Result.andThen_ok, hm, Value.cells, hp', hr']
        rfl
      · obtain ⟨l⟩ := r'; exact .agg hrr
  · split at h
    case h_2 => cases h
    rename_i te hte
    cases hf : fillL (fun i => some (i * te.size, te.size)) zs ps with
    | none => rw [hf] at h; cases h
    | some r =>
      rw [hf] at h
      simp only [Option.map_some, Option.some.injEq] at h
      subst h
      obtain ⟨r', hr', hrr⟩ := fill_ok ps qs zs ⟨zs⟩ r hp hc.2 hzs hf
      refine ⟨.agg r', ?_, ?_⟩
      · unfold Instr.build
        simp only [Sem.run_bind, T.run_zero hti hz, T.run_und hd, Result.andThen_ok, T.run_size hte, Value.cells, hr']
        rfl
      · obtain ⟨l⟩ := r'; exact .agg hrr
  · cases h
def eqS (d : TypeDesc) (x y : Value) : Option Bool :=
  match d, x, y with
  | .int _, .int k a, .int k' b => if k = k' then some (a == b) else none
  | .string, .string a, .string b => some (a.data.toList == b.data.toList)
  | .bool, .bool a, .bool b => some (a == b)
  | _, _, _ => none
theorem eqS_ok {T : Tab P} {g : List (Option GB)} {t : TypeId} {d : TypeDesc} (ht : T.und t = some d) {x y x' y' : Value} {r : Bool} (h : eqS d x y = some r) (hx : VR g x x') (hy : VR g y y') (n : Nat) (W : World) : (Op.equalIn (n + 1) t x' y').run P W = .ok r W := by
  have hu := T.und_ok t d ht
  unfold eqS at h
  split at h
  · rename_i k0 k a k' b
    obtain rfl := SR.inv_int hx
    obtain rfl := SR.inv_int hy
    split at h
    · rename_i e; subst e
      simp only [Option.some.injEq] at h; subst h
      exact run_equalIn_int W n t k k0 a b hu
    · cases h
  · obtain rfl := SR.inv_str hx
    obtain rfl := SR.inv_str hy
    simp only [Option.some.injEq] at h; subst h
    rw [run_equalIn_string W n t _ _ hu, ByteArray.toList_eq, ByteArray.toList_eq]
  · obtain rfl := SR.inv_bool hx
    obtain rfl := SR.inv_bool hy
    simp only [Option.some.injEq] at h; subst h
    exact run_equalIn_bool W n t _ _ hu
  · cases h
def partE (T : Tab P) (e : TypeId) (xs : List Value) (off : Nat) : Option Value :=
  match T.und e, T.inf e with
  | some d, some te => if isAggD d then some (.agg ⟨(xs.drop off).take te.size⟩) else xs[off]?
  | _, _ => none
theorem partE_ok {T : Tab P} {g : List (Option GB)} {e : TypeId} {xs : List Value} {xs' : Array Value} (hx : F2 (SR g) xs xs'.toList) {off : Nat} {v : Value} (h : partE T e xs off = some v) (W : World) :
    ∃ v', (part e xs' off).run P W = .ok v' W ∧ VR g v v' := by
  unfold partE at h
  split at h
  case h_2 => cases h
  rename_i d te hd hte
  cases ha : isAggD d with
  | true =>
    rw [ha] at h
    simp only [if_true, Option.some.injEq] at h
    subst h
    obtain ⟨i, hi, hs, _⟩ := T.inf_ok e te hte
    refine ⟨.agg (xs'.extract off (off + te.size)), ?_, .a (.agg ?_)⟩
    · simp [part, T.run_isAgg hd, ha, T.run_size hte]
    · show F2 (SR g) _ (xs'.extract off (off + te.size)).toList
      rw [Array.toList_extract]
      simp only [List.extract, Nat.add_sub_cancel_left]
      exact (hx.drop off).take te.size
  | false =>
    rw [ha] at h
    simp only [Bool.false_eq_true, if_false] at h
    obtain ⟨w1, hw1, hr1⟩ := hx.get _ _ h
    have e1 : xs'[off]? = some w1 := by rw [← Array.getElem?_toList]; exact hw1
    exact ⟨w1, by simp [part, T.run_isAgg hd, ha, e1], .s hr1⟩
def eqFl (E : TypeId → Value → Value → Option Bool) (T : Tab P) (xs ys : List Value) : List Field → Option Bool
  | [] => some true
  | f :: fs =>
    if f.name = "_" then eqFl E T xs ys fs else
    match partE T f.type xs f.offset, partE T f.type ys f.offset with
    | some x, some y =>
      match E f.type x y, eqFl E T xs ys fs with
      | some a, some b => some (a && b)
      | _, _ => none
    | _, _ => none
def eqIt (E : TypeId → Value → Value → Option Bool) (T : Tab P) (e : TypeId) (c : Nat) (xs ys : List Value) : List Nat → Option Bool
  | [] => some true
  | i :: is =>
    match partE T e xs (i * c), partE T e ys (i * c) with
    | some x, some y =>
      match E e x y, eqIt E T e c xs ys is with
      | some a, some b => some (a && b)
      | _, _ => none
    | _, _ => none
def eqG (T : Tab P) : Nat → TypeId → Value → Value → Option Bool
  | 0, _, _, _ => none
  | m + 1, t, x, y =>
    match T.und t, x, y with
    | some (.struct fs), .agg ⟨xs⟩, .agg ⟨ys⟩ => if T.plainEq t then eqFl (eqG T m) T xs ys fs.toList else none
    | some (.array n e), .agg ⟨xs⟩, .agg ⟨ys⟩ => match T.inf e with
      | some te => eqIt (eqG T m) T e te.size xs ys (List.range n)
      | none => none
    | some d, x, y => eqS d x y
    | none, _, _ => none
def EqOk (P : Program) (g : List (Option GB)) (E : TypeId → Value → Value → Option Bool) (n : Nat) : Prop :=
  ∀ (t : TypeId) (x y : Value) (r : Bool), E t x y = some r → ∀ (x' y' : Value), VR g x x' → VR g y y' → ∀ W : World, (Op.equalIn n t x' y').run P W = .ok r W
theorem eqFl_ok {T : Tab P} {g : List (Option GB)} {E : TypeId → Value → Value → Option Bool} {n : Nat} (hE : EqOk P g E n) {xs ys : List Value} {xs' ys' : Array Value} (hx : F2 (SR g) xs xs'.toList) (hy : F2 (SR g) ys ys'.toList) (W : World) : ∀ (fs : List Field) (r : Bool), eqFl E T xs ys fs = some r →
    (Op.eqFields n xs' ys' fs).run P W = .ok r W
  | [], r, h => by simp only [eqFl, Option.some.injEq] at h; subst h; rfl
  | f :: fs, r, h => by
    unfold eqFl at h
    unfold Op.eqFields
    split at h
    · rename_i hn
      rw [if_neg (by simp [hn])]
      exact eqFl_ok hE hx hy W fs r h
    · rename_i hn
      rw [if_pos hn]
      split at h
      case h_2 => cases h
      rename_i x y hxo hyo
      split at h
      case h_2 => cases h
      rename_i a b ha hb
      simp only [Option.some.injEq] at h
      subst h
      obtain ⟨w1, p1, hr1⟩ := partE_ok hx hxo W
      obtain ⟨w2, p2, hr2⟩ := partE_ok hy hyo W
      have p3 := hE _ _ _ _ ha _ _ hr1 hr2 W
      simp only [Sem.run_bind, p1, Result.andThen_ok, p2, p3]
      cases a with
      | false => rfl
      | true =>
        simp only [Bool.not_true, Bool.false_eq_true, if_false, Bool.true_and]
        exact eqFl_ok hE hx hy W fs b hb
theorem eqIt_ok {T : Tab P} {g : List (Option GB)} {E : TypeId → Value → Value → Option Bool} {n : Nat} (hE : EqOk P g E n) {e : TypeId} {c : Nat} {xs ys : List Value} {xs' ys' : Array Value} (hx : F2 (SR g) xs xs'.toList) (hy : F2 (SR g) ys ys'.toList) (W : World) : ∀ (is : List Nat) (r : Bool), eqIt E T e c xs ys is = some r →
    (Op.eqItems n e c xs' ys' is).run P W = .ok r W
  | [], r, h => by simp only [eqIt, Option.some.injEq] at h; subst h; rfl
  | i :: is, r, h => by
    unfold eqIt at h
    unfold Op.eqItems
    split at h
    case h_2 => cases h
    rename_i x y hxo hyo
    split at h
    case h_2 => cases h
    rename_i a b ha hb
    simp only [Option.some.injEq] at h
    subst h
    obtain ⟨w1, p1, hr1⟩ := partE_ok hx hxo W
    obtain ⟨w2, p2, hr2⟩ := partE_ok hy hyo W
    have p3 := hE _ _ _ _ ha _ _ hr1 hr2 W
    simp only [Sem.run_bind, p1, Result.andThen_ok, p2, p3]
    cases a with
    | false => rfl
    | true =>
      simp only [Bool.not_true, Bool.false_eq_true, if_false, Bool.true_and]
      exact eqIt_ok hE hx hy W is b hb
theorem VR.inv_agg {g : List (Option GB)} {xs : List Value} {v : Value} (h : VR g (.agg ⟨xs⟩) v) : ∃ ys : Array Value, v = .agg ys ∧ F2 (SR g) xs ys.toList := by
  cases h with
  | a h => cases h with
    | s h => cases h
    | agg hf => exact ⟨_, rfl, hf⟩
theorem eqG_ok {T : Tab P} {g : List (Option GB)} : ∀ (m n : Nat), EqOk P g (eqG T m) (n + m)
  | 0, _ => fun t x y r h => by simp [eqG] at h
  | m + 1, n => fun t x y r h x' y' hx hy W => by
    unfold eqG at h
    split at h
    · rename_i fs xs ys hd
      split at h
      case isFalse => cases h
      rename_i hp
      obtain ⟨xs', rfl, hxs⟩ := hx.inv_agg
      obtain ⟨ys', rfl, hys⟩ := hy.inv_agg
      obtain ⟨h1, h2⟩ := T.plainEq_ok t hp
      have hu := T.und_ok t _ hd
      have hfo : P.fieldsOf t = fs := by simp [Program.fieldsOf, hu]
      have := run_equalIn_struct (P := P) W (n + m) t xs' ys' (by rw [hfo]; exact hu) h2
      rw [hfo] at this
      exact this.trans (eqFl_ok (eqG_ok m n) hxs hys W fs.toList r h)
    · rename_i k e xs ys hd
      split at h
      case h_2 => cases h
      rename_i te hte
      obtain ⟨xs', rfl, hxs⟩ := hx.inv_agg
      obtain ⟨ys', rfl, hys⟩ := hy.inv_agg
      obtain ⟨i, hi, hs, _⟩ := T.inf_ok e te hte
      rw [← Nat.add_assoc, run_equalIn_array (P := P) W (n + m) xs' ys' (T.und_ok t _ hd) hi, T.cellsOf hte]
      exact eqIt_ok (eqG_ok m n) hxs hys W _ r h
    · rename_i d _ _ hd _ _
      exact eqS_ok hd h hx hy (n + m) W
    · cases h
def eqAggA (T : Tab P) (t : TypeId) (xs ys : List Value) : Option Bool :=
  if T.plainEq t then eqG T 8 t (.agg ⟨xs⟩) (.agg ⟨ys⟩) else none
def aBinT (T : Tab P) (op : BinOp) (t : TypeId) (x y : Value) : Option (List Bool × Value) :=
  match x, y with
  | .agg ⟨xs⟩, .agg ⟨ys⟩ =>
    match op with
    | .eql => (eqAggA T t xs ys).map fun r => ([], .bool r)
    | .neq => (eqAggA T t xs ys).map fun r => ([], .bool !r)
    | _ => none
  | x, y => aBin op (T.und t) x y
theorem eqAggA_ok {T : Tab P} {g : List (Option GB)} {t : TypeId} {xs ys : List Value} {r : Bool} (h : eqAggA T t xs ys = some r) {xs' ys' : Array Value} (hx : F2 (SR g) xs xs'.toList) (hy : F2 (SR g) ys ys'.toList) (W : World) :
    P.eqGuardType P.depth t = false ∧ (Op.equalIn 10000 t (.agg xs') (.agg ys')).run P W = .ok r W := by
  unfold eqAggA at h
  split at h
  case isFalse => cases h
  rename_i hp
  exact ⟨(T.plainEq_ok t hp).1, eqG_ok 8 9992 t _ _ r h _ _ (.a (.agg hx)) (.a (.agg hy)) W⟩
theorem aBinT_ok {T : Tab P} {g : List (Option GB)} {op : BinOp} {t : TypeId} {x y x' y' : Value} {cs : List Bool} {v : Value} (h : aBinT T op t x y = some (cs, v)) (hc : ∀ c ∈ cs, c = true)
    (hx : VR g x x') (hy : VR g y y') (ox oy : Operand) (W : World) :
    (do eqGuard op t ox oy x' y'; binOp op t x' y' : Sem Value).run P W = .ok v W ∧ VR g v v := by
  unfold aBinT at h
  split at h
  · rename_i xs ys
    obtain ⟨xs', rfl, hxs⟩ := hx.inv_agg
    obtain ⟨ys', rfl, hys⟩ := hy.inv_agg
    split at h
    · cases hr : eqAggA T t xs ys with
      | none => rw [hr] at h; cases h
      | some r =>
        rw [hr] at h
        simp only [Option.map_some, Option.some.injEq, Prod.mk.injEq] at h
        obtain ⟨rfl, rfl⟩ := h
        obtain ⟨h1, h2⟩ := eqAggA_ok hr hxs hys W
        refine ⟨?_, .s (.bool _)⟩
        simp only [Sem.run_bind, run_eqGuard_agg W .eql t ox oy xs' ys' h1, Result.andThen_ok, run_eql_struct, h2]
    · cases hr : eqAggA T t xs ys with
      | none => rw [hr] at h; cases h
      | some r =>
        rw [hr] at h
        simp only [Option.map_some, Option.some.injEq, Prod.mk.injEq] at h
        obtain ⟨rfl, rfl⟩ := h
        obtain ⟨h1, h2⟩ := eqAggA_ok hr hxs hys W
        refine ⟨?_, .s (.bool _)⟩
        simp only [Sem.run_bind, run_eqGuard_agg W .neq t ox oy xs' ys' h1, Result.andThen_ok, run_neq_struct, h2]
    · cases h
  · exact aBin_ok h hc hx hy ox oy W
end Go.AE
end
section
namespace Go.AE
variable {P : Program}
theorem size_bl (s : ByteArray) : (bl s).length = s.size := by
  show s.data.toList.length = s.data.size
  simp only [Array.length_toList]
def indexAddrA (T : Tab P) (t : TypeId) (x i : Value) : Option (List Bool × Value) :=
  match T.und t, x, i with
  | some (.array len e), .pointer (some ⟨j, off, none⟩), .int _ n =>
    match T.inf e with
    | some te => some ([decide (0 ≤ n ∧ n < len)], .pointer (some ⟨j, off + n.toNat * te.size, none⟩))
    | none => none
  | some (.slice e), .slice (some ⟨j, off, none⟩) len _, .int _ n =>
    match T.inf e with
    | some te => some ([decide (0 ≤ n ∧ n < len)], .pointer (some ⟨j, off + n.toNat * te.size, none⟩))
    | none => none
  | _, _, _ => none
theorem indexAddrA_ok {T : Tab P} {t : TypeId} {x i x' i' v : Value} {cs : List Bool} {g : List (Option GB)} (h : indexAddrA T t x i = some (cs, v)) (hc : ∀ c ∈ cs, c = true) (hx : VR g x x') (hi : VR g i i') (W : World) :
    ∃ w, (Instr.indexAt t x' i').run P W = .ok w W ∧ VR g v w := by
  unfold indexAddrA at h
  split at h
  · rename_i len e j off k n hd
    obtain rfl := SR.inv_int hi
    split at h
    case h_2 => cases h
    rename_i te hte
    simp only [Option.some.injEq, Prod.mk.injEq] at h
    obtain ⟨rfl, rfl⟩ := h
    simp only [List.mem_cons, List.not_mem_nil, or_false, forall_eq, decide_eq_true_eq] at hc
    cases hx with
    | a hx => cases hx with
      | s hx => cases hx with
        | ptr _ _ gb hg =>
          refine ⟨.pointer (some ⟨gb.b, gb.base + (off + n.toNat * te.size), none⟩), ?_, .s (.ptr _ _ gb hg)⟩
          simp [Instr.indexAt, asIntOf, T.run_und hd, Instr.sureAddr, hc, T.run_size hte, Addr.add_lit, Nat.add_assoc]
  · rename_i e j off len cap k n hd
    obtain rfl := SR.inv_int hi
    split at h
    case h_2 => cases h
    rename_i te hte
    simp only [Option.some.injEq, Prod.mk.injEq] at h
    obtain ⟨rfl, rfl⟩ := h
    simp only [List.mem_cons, List.not_mem_nil, or_false, forall_eq, decide_eq_true_eq] at hc
    cases hx with
    | a hx => cases hx with
      | s hx => cases hx with
        | slice _ _ _ _ gb hg =>
          refine ⟨.pointer (some ⟨gb.b, gb.base + (off + n.toNat * te.size), none⟩), ?_, .s (.ptr _ _ gb hg)⟩
          simp [Instr.indexAt, asIntOf, T.run_und hd, hc, T.run_size hte, Addr.add_lit, Nat.add_assoc]
        | nilS => exfalso; omega
  · cases h
def fieldAddrA (T : Tab P) (t : TypeId) (x : Value) (f : Nat) : Option Value :=
  match T.und t, x with
  | some (.struct fs), .pointer (some ⟨j, off, none⟩) =>
    match fs[f]? with
    | some fd =>
      match T.inf fd.type with
      | some ti => if ti.size = 0 then none else some (.pointer (some ⟨j, off + fd.offset, none⟩))
      | none => none
    | none => none
  | _, _ => none
theorem fieldAddrA_ok {T : Tab P} {t : TypeId} {x x' v : Value} {f : Nat} {g : List (Option GB)} (h : fieldAddrA T t x f = some v) (hx : VR g x x') (W : World) :
    ∃ w, (Instr.fieldAt t x' f).run P W = .ok w W ∧ VR g v w := by
  unfold fieldAddrA at h
  split at h
  case h_2 => cases h
  rename_i fs j off hd
  split at h
  case h_2 => cases h
  rename_i fd hfd
  split at h
  case h_2 => cases h
  rename_i ti hti
  split at h
  case isTrue => cases h
  rename_i hz
  simp only [Option.some.injEq] at h
  subst h
  cases hx with
  | a hx => cases hx with
    | s hx => cases hx with
      | ptr _ _ gb hg =>
        refine ⟨.pointer (some ⟨gb.b, gb.base + (off + fd.offset), none⟩), ?_, .s (.ptr _ _ gb hg)⟩
        simp [Instr.fieldAt, T.run_und hd, hfd, Instr.sureAddr, fieldPlace, T.run_size hti, hz, Addr.add_lit, Nat.add_assoc]
def partA (T : Tab P) (t : TypeId) (cs : List Value) (off : Nat) : Option Value :=
  match T.und t, T.inf t with
  | some d, some ti => if isAggD d then some (.agg ⟨(cs.drop off).take ti.size⟩) else cs[off]?
  | _, _ => none
theorem F2.extract {g : List (Option GB)} {cs : List Value} {ds : Array Value} (h : F2 (SR g) cs ds.toList) (a n : Nat) : F2 (SR g) ((cs.drop a).take n) (ds.extract a (a + n)).toList := by
  have e : (ds.extract a (a + n)).toList = (ds.toList.drop a).take n := by
    rw [Array.toList_extract]; simp [List.extract]
  rw [e]
  exact (h.drop a).take n
theorem partA_ok {T : Tab P} {t : TypeId} {cs : List Value} {ds : Array Value} {off : Nat} {v : Value} {g : List (Option GB)} (h : partA T t cs off = some v) (hc : F2 (SR g) cs ds.toList) (W : World) :
    ∃ w, (part t ds off).run P W = .ok w W ∧ VR g v w := by
  unfold partA at h
  split at h
  case h_2 => cases h
  rename_i d ti hd hti
  split at h
  · rename_i hagg
    simp only [Option.some.injEq] at h
    subst h
    refine ⟨.agg (ds.extract off (off + ti.size)), ?_, ?_⟩
    · simp [part, T.run_isAgg hd, hagg, T.run_size hti]
    · exact .agg (hc.extract off ti.size)
  · rename_i hagg
    obtain ⟨w, hw, hr⟩ := hc.get off v h
    refine ⟨w, ?_, .s hr⟩
    have : ds[off]? = some w := by rw [← Array.getElem?_toList]; exact hw
    simp [part, T.run_isAgg hd, hagg, this]
def fieldA (T : Tab P) (t : TypeId) (x : Value) (f : Nat) : Option Value :=
  match T.und t, x with
  | some (.struct fs), .agg ⟨cs⟩ =>
    match fs[f]? with
    | some fd => partA T fd.type cs fd.offset
    | none => none
  | _, _ => none
theorem fieldA_ok {T : Tab P} {t : TypeId} {x x' v : Value} {f : Nat} {g : List (Option GB)} (h : fieldA T t x f = some v) (hx : VR g x x') (W : World) :
    ∃ w, (Instr.field t x' f).run P W = .ok w W ∧ VR g v w := by
  unfold fieldA at h
  split at h
  case h_2 => cases h
  rename_i fs cs hd
  split at h
  case h_2 => cases h
  rename_i fd hfd
  cases hx with
  | a hx => cases hx with
    | s hx => cases hx
    | agg hx =>
      rename_i ys
      obtain ⟨w, hw, hr⟩ := partA_ok (ds := ⟨ys⟩) h hx W
      refine ⟨w, ?_, hr⟩
      simp [Instr.field, T.run_und hd, hfd, asAgg, hw]
def indexA (T : Tab P) (t : TypeId) (x i : Value) : Option (List Bool × Value) :=
  match T.und t, x, i with
  | some .string, .string s, .int _ n => some ([decide (0 ≤ n ∧ n < (bl s).length)], .int .u8 (((bl s).getD n.toNat 0).toNat : Nat))
  | some (.array len e), .agg ⟨cs⟩, .int _ n =>
    match T.inf e with
    | some te => (partA T e cs (n.toNat * te.size)).map fun v => ([decide (0 ≤ n ∧ n < len)], v)
    | none => none
  | _, _, _ => none
theorem indexA_ok {T : Tab P} {t : TypeId} {x i x' i' v : Value} {cs : List Bool} {g : List (Option GB)} (h : indexA T t x i = some (cs, v)) (hc : ∀ c ∈ cs, c = true) (hx : VR g x x') (hi : VR g i i') (W : World) :
    ∃ w, (Instr.index t x' i').run P W = .ok w W ∧ VR g v w := by
  unfold indexA at h
  split at h
  · rename_i s k n hd
    obtain rfl := SR.inv_int hi
    obtain rfl := SR.inv_str hx
    simp only [Option.some.injEq, Prod.mk.injEq] at h
    obtain ⟨rfl, rfl⟩ := h
    simp only [List.mem_cons, List.not_mem_nil, or_false, forall_eq, decide_eq_true_eq] at hc
    refine ⟨.int .u8 (((bl s).getD n.toNat 0).toNat : Nat), ?_, .s (.int _ _)⟩
    have hl : n.toNat < s.size := by have := hc.2; rw [size_bl] at this; omega
    have hb : s[n.toNat]? = some ((bl s).getD n.toNat 0) := by
      rw [getElem?_pos s n.toNat hl]
      have hl' : n.toNat < (bl s).length := by rw [size_bl]; exact hl
      rw [List.getD_eq_getElem?_getD, List.getElem?_eq_getElem hl']
      rfl
    simp [Instr.index, asIntOf, T.run_und hd, hc.1, hb]
  · rename_i len e cs' k n hd
    obtain rfl := SR.inv_int hi
    split at h
    case h_2 => cases h
    rename_i te hte
    cases hp : partA T e cs' (n.toNat * te.size) with
    | none => rw [hp] at h; cases h
    | some u =>
      rw [hp] at h
      simp only [Option.map_some, Option.some.injEq, Prod.mk.injEq] at h
      obtain ⟨rfl, rfl⟩ := h
      simp only [List.mem_cons, List.not_mem_nil, or_false, forall_eq, decide_eq_true_eq] at hc
      cases hx with
      | a hx => cases hx with
        | s hx => cases hx
        | agg hx =>
          rename_i ys
          obtain ⟨w, hw, hr⟩ := partA_ok (ds := ⟨ys⟩) hp hx W
          refine ⟨w, ?_, hr⟩
          simp [Instr.index, asIntOf, T.run_und hd, hc, T.run_size hte, hw]
  · cases h
def boundA : Option Value → Int → Option Int
  | none, d => some d
  | some (.int _ n), _ => some n
  | _, _ => none
def sliceStr (s : ByteArray) (l h : Int) : Value := S (((bl s).drop l.toNat).take (h.toNat - l.toNat))
def sliceStrA (T : Tab P) (t : TypeId) (x : Value) (lo hi : Option Value) : Option (List Bool × Value) :=
  match T.und t, x with
  | some .string, .string s =>
    match boundA lo 0, boundA hi (bl s).length with
    | some l, some h => some ([decide (0 ≤ h ∧ h ≤ (bl s).length), decide (0 ≤ l ∧ l ≤ h)], sliceStr s l h)
    | _, _ => none
  | _, _ => none
theorem extract_eq (s : ByteArray) (l h : Nat) : s.extract l h = ⟨⟨((bl s).drop l).take (h - l)⟩⟩ := by
  apply ByteArray.ext
  apply Array.toList_inj.1
  rw [ByteArray.data_extract, Array.toList_extract]
theorem bound_ok {g : List (Option GB)} {o o' : Option Value} {d n : Int} (h : boundA o d = some n) (ho : ∀ v, o = some v → ∃ w, o' = some w ∧ VR g v w) (hn : o = none → o' = none) :
    (o = none ∧ o' = none ∧ n = d) ∨ ∃ k, o' = some (.int k n) := by
  unfold boundA at h
  split at h
  · simp only [Option.some.injEq] at h; exact .inl ⟨rfl, hn rfl, h.symm⟩
  · simp only [Option.some.injEq] at h; subst h
    obtain ⟨w, hw, hv⟩ := ho _ rfl
    obtain rfl := SR.inv_int hv
    exact .inr ⟨_, hw⟩
  · cases h
theorem sliceStrA_ok {T : Tab P} {t : TypeId} {x x' v : Value} {lo hi lo' hi' : Option Value} {cs : List Bool} {g : List (Option GB)} (h : sliceStrA T t x lo hi = some (cs, v)) (hc : ∀ c ∈ cs, c = true) (hx : VR g x x')
    (hl : ∀ v, lo = some v → ∃ w, lo' = some w ∧ VR g v w) (hln : lo = none → lo' = none) (hh : ∀ v, hi = some v → ∃ w, hi' = some w ∧ VR g v w) (hhn : hi = none → hi' = none) (W : World) :
    (Instr.sliceAt t x' lo' hi' none).run P W = .ok v W ∧ VR g v v := by
  unfold sliceStrA at h
  split at h
  case h_2 => cases h
  rename_i s hd
  obtain rfl := SR.inv_str hx
  split at h
  case h_2 => cases h
  rename_i l hb h1 h2
  simp only [Option.some.injEq, Prod.mk.injEq] at h
  obtain ⟨rfl, rfl⟩ := h
  simp only [List.mem_cons, List.not_mem_nil, or_false, forall_eq_or_imp, forall_eq, decide_eq_true_eq] at hc
  refine ⟨?_, .s (.str _)⟩
  obtain ⟨⟨c1, c2⟩, c3, c4⟩ := hc
  have hsz := size_bl s
  rw [hsz] at c2 h2
  have e := extract_eq s l.toNat hb.toNat
  unfold sliceStr
  show _ = Result.ok (Value.string ⟨⟨((bl s).drop l.toNat).take (hb.toNat - l.toNat)⟩⟩) W
  rw [← e]
  rcases bound_ok h1 hl hln with ⟨_, rfl, rfl⟩ | ⟨k1, rfl⟩ <;> rcases bound_ok h2 hh hhn with ⟨_, rfl, rfl⟩ | ⟨k2, rfl⟩
  · simp [Instr.sliceAt, T.run_und hd, Instr.slice, Instr.sliceBounds]
  · simp [Instr.sliceAt, T.run_und hd, Instr.slice, Instr.sliceBounds, Instr.sliceBound, asIntOf, c1, c2]
  · simp [Instr.sliceAt, T.run_und hd, Instr.slice, Instr.sliceBounds, Instr.sliceBound, asIntOf, c3, c4]
  · simp [Instr.sliceAt, T.run_und hd, Instr.slice, Instr.sliceBounds, Instr.sliceBound, asIntOf, c1, c2, c3]
    intro hm; exfalso; omega
def lenA (d : Option TypeDesc) (x : Value) : Option Value :=
  match d, x with
  | some .string, .string s => some (.int .i64 (bl s).length)
  | some (.slice _), .slice _ n _ => some (.int .i64 n)
  | some (.array n _), _ => some (.int .i64 n)
  | _, _ => none
theorem lenA_ok {T : Tab P} {ts : Array TypeId} {t ty : TypeId} {x x' v : Value} {xs : List Value} {g : List (Option GB)} (ht : ts[0]? = some t) (h : lenA (T.und t) x = some v) (hx : VR g x x') (W : World) :
    (Builtin.len_ ts ty ⟨x' :: xs⟩).run P W = .ok v W ∧ VR g v v := by
  unfold lenA at h
  split at h
  · rename_i s hd
    obtain rfl := SR.inv_str hx
    simp only [Option.some.injEq] at h; subst h
    rw [size_bl]
    exact ⟨by simp [Builtin.len_, ht, T.run_und hd, goInt], .s (.int _ _)⟩
  · rename_i n _ hd
    simp only [Option.some.injEq] at h; subst h
    refine ⟨?_, .s (.int _ _)⟩
    cases hx with
    | a hx => cases hx with
      | s hx => cases hx <;> simp [Builtin.len_, ht, T.run_und hd, goInt]
  · rename_i n _ hd
    simp only [Option.some.injEq] at h; subst h
    exact ⟨by simp [Builtin.len_, ht, T.run_und hd, goInt], .s (.int _ _)⟩
  · cases h
end Go.AE
end
section
namespace Go.AE
variable {P : Program}
structure Ops (R : Type) where
  br : Bool → R → R → R
  nd : Bool → R → R
  fl : R
  ld : Option Value → (Value → R) → R
  call : FuncId → List Value → Mem → (Value → Mem → R) → R
  code : Code → List Value → Mem → (Exit → List Value → Mem → R) → R
  pcall : FuncId → List Value → Mem → (Value → Option ABlk → R) → R
structure Ans (P : Program) (n₀ : Nat) (R : Type) extends Ops R where
  holds : R → Prop
  br_ok : ∀ c t e, holds (br c t e) → (c = true → holds t) ∧ (c = false → holds e)
  nd_ok : ∀ c r, holds (nd c r) → c = true ∧ holds r
  fl_ok : ¬ holds fl
  ld_ok : ∀ o k, holds (ld o k) → ∃ v, o = some v ∧ holds (k v)
  call_ok : ∀ f as m k, holds (call f as m k) → ACall P f as m fun v m' => holds (k v m')
  code_ok : ∀ x a m k, holds (code x a m k) → AWp P n₀ x (fun e a' m' => holds (k e a' m')) a m
  pcall_ok : ∀ f as m k, holds (pcall f as m k) → ∃ v nb, ACall P f as m (fun v' m' => v' = v ∧ m.length ≤ m'.length ∧ m'.drop m.length = nb.toList.map some) ∧ holds (k v nb)
instance {P : Program} {n₀ : Nat} {R : Type} : CoeOut (Ans P n₀ R) (Ops R) := ⟨Ans.toOps⟩
def OpDone (P : Program) (c : Ctx) (g₀ : List (Option GB)) (g : List (Option GB)) (N : Value → Mem → Prop) : Result Next → Prop
  | .ok (.value w) W' => ∃ v m' g', N v m' ∧ Rel P c (g₀ ++ (g ++ g')) m' W' ∧ VR (g₀ ++ (g ++ g')) v w
  | .ok .skip W' => ∃ m' g', N undef m' ∧ Rel P c (g₀ ++ (g ++ g')) m' W'
  | .ok (.enter f args) W' => Calls P f args W' fun e W'' => ∃ v w m' g', e = .returned w ∧ N v m' ∧ Rel P c (g₀ ++ (g ++ g')) m' W'' ∧ VR (g₀ ++ (g ++ g')) v w
  | _ => False
def writeL (cells : List Value) (off : Nat) : List Value → List Value
  | [] => cells
  | x :: xs => writeL (cells.set off x) (off + 1) xs
theorem run_storeSR {g : List (Option GB)} {v w u : Value} (hv : SR g v w) {W : World} {a : Addr} (hc : W.cell? a = some u) (hf : W.frozen? a = false) : (store a w).run P W = .ok () (W.setCell a w) := by
  have h := hv.scalar.2
  cases w <;> first | (simp [store, Sem.run, hc, hf]; done) | (cases h; done)
theorem Rel.storeCells {c : Ctx} {g : List (Option GB)} : ∀ (xs ys : List Value) (i : Nat) (m : Mem) (W : World) (j : Nat) (b : ABlk) (gb : GB) (off : Nat), Rel P c g m W → m[j]? = some (some b) → g[j]? = some (some gb) → b.rw = true →
    off + i + xs.length ≤ b.cells.length → F2 (SR g) xs ys →
    ∃ W', (storeCells ⟨gb.b, off, none⟩ ys i).run P W = .ok () W' ∧ Rel P c g (m.set j (some { b with cells := writeL b.cells (off + i) xs })) W'
  | [], [], i, m, W, j, b, gb, off, hr, hj, hg, hrw, hl, _ => by
    refine ⟨W, rfl, ?_⟩
    have : m.set j (some { b with cells := writeL b.cells (off + i) [] }) = m := by
      have hlt := lt_of_getElem? hj
      apply List.ext_getElem?
      intro k
      rw [List.getElem?_set]
      split
      · rename_i e; subst e; rw [hj]; rfl
      · rfl
    rw [this]; exact hr
  | x :: xs, y :: ys, i, m, W, j, b, gb, off, hr, hj, hg, hrw, hl, .cons hxy hf => by
    simp only [List.length_cons] at hl
    have hi : off + i < b.cells.length := by omega
    obtain ⟨u, hu, _⟩ := hr.cell hj hg (List.getElem?_eq_getElem hi)
    rw [hr.base0 hj hg hrw, Nat.zero_add] at hu
    have hr' := hr.setCell hj hg hrw (off + i) hxy
    have hlt := lt_of_getElem? hj
    have hj' : (m.set j (some { b with cells := b.cells.set (off + i) x }))[j]? = some (some { b with cells := b.cells.set (off + i) x }) := by
      rw [List.getElem?_set, if_pos rfl, if_pos hlt]
    obtain ⟨W', h1, h2⟩ := Rel.storeCells xs ys (i + 1) _ _ j _ gb off hr' hj' hg hrw (by simp; omega) hf
    refine ⟨W', ?_, ?_⟩
    · simp only [Go.storeCells, Sem.run_bind, Addr.add_lit, run_storeSR hxy hu (hr.frozen hj hg hrw _), Result.andThen_ok]
      exact h1
    · rw [List.set_set] at h2
      exact h2
theorem Rel.cellsAt {c : Ctx} {g : List (Option GB)} {m : Mem} {W : World} (hr : Rel P c g m W) {j : Nat} {b : ABlk} {gb : GB} (hj : m[j]? = some (some b)) (hg : g[j]? = some (some gb)) {off n : Nat} (_hl : off + n ≤ b.cells.length) :
    ∃ ys, F2 (SR g) ((b.cells.drop off).take n) ys ∧ ∀ k v, ys[k]? = some v → W.cell? ((⟨gb.b, gb.base + off, none⟩ : Addr).add k) = some v := by
  obtain ⟨cs, fr, hh, hf, _⟩ := hr.blk j b gb hj hg
  refine ⟨(((cs.toList.drop gb.base).take b.cells.length).drop off).take n, (hf.drop off).take n, ?_⟩
  intro k v hk
  rw [List.getElem?_take] at hk
  split at hk
  case isFalse => cases hk
  rw [List.getElem?_drop, List.getElem?_take] at hk
  split at hk
  case isFalse => cases hk
  rw [List.getElem?_drop, ← Nat.add_assoc] at hk
  rw [Addr.add_lit]
  simp [World.cell?, hh]
  simpa using hk
theorem cell?_heap {W W' : World} (h : W'.heap = W.heap) (a : Addr) : W'.cell? a = W.cell? a := by simp [World.cell?, h]
theorem Rel.loadCells {c : Ctx} {g : List (Option GB)} {m : Mem} {W : World} (hr : Rel P c g m W) {j : Nat} {b : ABlk} {gb : GB} (hj : m[j]? = some (some b)) (hg : g[j]? = some (some gb)) {off n : Nat} (hl : off + n ≤ b.cells.length) :
    ∃ ys, (loadCells ⟨gb.b, gb.base + off, none⟩ n).run P W = .ok ⟨ys⟩ W ∧ F2 (SR g) ((b.cells.drop off).take n) ys := by
  obtain ⟨ys, hf, hc⟩ := hr.cellsAt hj hg hl
  refine ⟨ys, ?_, hf⟩
  have hn : ys.length = n := by have := hf.length; simp at this; omega
  have := run_loadCells_list (P := P) W ⟨gb.b, gb.base + off, none⟩ ys hc
  rw [hn] at this
  exact this
def evLoad {R : Type} (X : Ops R) (T : Tab P) (t : TypeId) (addr : Value) (m : Mem) (k : Value → R) : R :=
  match T.und t, T.inf t, addr with
  | some d, some ti, .pointer (some ⟨j, off, none⟩) =>
    match m[j]? with
    | some (some b) => if isAggD d then X.nd (decide (off + ti.size ≤ b.cells.length)) (k (.agg ⟨(b.cells.drop off).take ti.size⟩)) else X.ld (b.cells[off]?) k
    | _ => X.fl
  | _, _, _ => X.fl
theorem evLoad_ok {n₀ : Nat} {R : Type} {X : Ans P n₀ R} {T : Tab P} {t : TypeId} {addr addr' : Value} {m : Mem} {k : Value → R} (h : X.holds (evLoad X T t addr m k)) {c : Ctx} {g : List (Option GB)} {W : World} (hr : Rel P c g m W) (ha : VR g addr addr') :
    ∃ v w, (Instr.loadAt t addr').run P W = .ok w W ∧ VR g v w ∧ X.holds (k v) := by
  unfold evLoad at h
  split at h
  case h_2 => exact absurd h X.fl_ok
  rename_i d ti j off hd hti
  split at h
  case h_2 => exact absurd h X.fl_ok
  rename_i b hj
  cases ha with
  | a ha => cases ha with
    | s ha => cases ha with
      | ptr _ _ gb hg =>
        split at h
        · rename_i hagg
          obtain ⟨hc, h⟩ := X.nd_ok _ _ h
          obtain ⟨ys, hys, hf⟩ := hr.loadCells hj hg (of_decide_eq_true hc)
          refine ⟨_, .agg ⟨ys⟩, ?_, .agg hf, h⟩
          simp [Instr.loadAt, Instr.sureAddr, loadVar, T.run_isAgg hd, hagg, T.run_size hti, hys]
        · rename_i hagg
          obtain ⟨v, hv, h⟩ := X.ld_ok _ _ h
          obtain ⟨w, hw, hs⟩ := hr.cell hj hg hv
          refine ⟨v, w, ?_, .s hs, h⟩
          simp [Instr.loadAt, Instr.sureAddr, loadVar, T.run_isAgg hd, hagg, hw]
def evStore {R : Type} (X : Ops R) (T : Tab P) (t : TypeId) (addr x : Value) (m : Mem) (k : Mem → R) : R :=
  match T.inf t, addr with
  | some ti, .pointer (some ⟨j, off, none⟩) =>
    match m[j]? with
    | some (some b) =>
      if b.rw && cellsOk x then X.nd (decide (x.cells.toList.length = ti.size ∧ off + x.cells.toList.length ≤ b.cells.length)) (k (m.set j (some { b with cells := writeL b.cells off x.cells.toList }))) else X.fl
    | _ => X.fl
  | _, _ => X.fl
theorem evStore_ok {n₀ : Nat} {R : Type} {X : Ans P n₀ R} {T : Tab P} {t : TypeId} {addr addr' x x' : Value} {m : Mem} {k : Mem → R} (h : X.holds (evStore X T t addr x m k)) {c : Ctx} {g : List (Option GB)} {W : World} (hr : Rel P c g m W) (ha : VR g addr addr')
    (hx : VR g x x') : ∃ W' m', (Instr.storeAt t addr' x').run P W = .ok () W' ∧ Rel P c g m' W' ∧ X.holds (k m') := by
  unfold evStore at h
  split at h
  case h_2 => exact absurd h X.fl_ok
  rename_i ti j off hti
  split at h
  case h_2 => exact absurd h X.fl_ok
  rename_i b hj
  split at h
  case isFalse => exact absurd h X.fl_ok
  rename_i hb
  simp only [Bool.and_eq_true] at hb
  obtain ⟨hc, h⟩ := X.nd_ok _ _ h
  obtain ⟨hc1, hc2⟩ := of_decide_eq_true hc
  cases ha with
  | a ha => cases ha with
    | s ha => cases ha with
      | ptr _ _ gb hg =>
        have hcs := hx.cells hb.2
        obtain ⟨W', h1, h2⟩ := hr.storeCells x.cells.toList x'.cells.toList 0 m W j b gb off hj hg hb.1 (by omega) hcs
        refine ⟨W', _, ?_, h2, h⟩
        have hl := hcs.length
        simp only [Array.length_toList] at hl
        rw [Array.length_toList] at hc1
        simp [Instr.storeAt, Instr.sureAddr, storeVar, T.run_size hti, ← hl, hc1, h1, hr.base0 hj hg hb.1]
def newBlk (e : TypeId) (cells : List Value) : Option ABlk := some ⟨cells, e, true, true, none⟩
def grownBlk (e : TypeId) (cells : List Value) : Option ABlk := some ⟨cells, e, true, false, none⟩
theorem Rel.newRow {c : Ctx} {g : List (Option GB)} {m : Mem} {W : World} (hr : Rel P c g m W) {xs ys : List Value} (hf : F2 (SR g) xs ys) (e : TypeId) :
    Rel P c (g ++ [some ⟨W.heap.size, 0, 0⟩]) (m ++ [newBlk e xs]) (W.alloc (.cells ⟨ys⟩ e)) := by
  refine hr.alloc e 0 true (fun _ => rfl) ?_ ?_
  · rw [List.take_of_length_le (by rw [hf.length]; exact Nat.le_refl _)]; exact hf
  · rw [hf.length]; omega
theorem last_app {g : List (Option GB)} {x : Option GB} {m : Mem} (h : g.length = m.length) : (g ++ [x])[m.length]? = some x := by
  rw [← h, List.getElem?_append_right (Nat.le_refl _)]; simp
end Go.AE
end
section
namespace Go.AE
variable {P : Program}
theorem SR.oneCell {g : List (Option GB)} {v w : Value} (h : SR g v w) : w.oneCell' = true := by
  have := h.scalar.2
  cases w <;> first | rfl | cases this
theorem F2.oneCell {g : List (Option GB)} {xs ys : List Value} (h : F2 (SR g) xs ys) : ∀ u ∈ ys, u.oneCell' = true := by
  induction h with
  | nil => intro u hu; cases hu
  | cons hr _ ih =>
    intro u hu
    cases hu with
    | head => exact hr.oneCell
    | tail _ hu => exact ih u hu
def srcA (m : Mem) (size : Nat) (x : Value) : Option (Nat × Bool × List Value) :=
  match x with
  | .slice none 0 0 => some (0, true, [])
  | .slice (some ⟨j, off, none⟩) n _ =>
    match m[j]? with
    | some (some b) => some (n, decide (off + n * size ≤ b.cells.length), (b.cells.drop off).take (n * size))
    | _ => none
  | .string s => some ((bl s).length, size == 1, (bl s).map fun b => .int .u8 b.toNat)
  | _ => none
theorem srcA_ok {m : Mem} {size n : Nat} {cnd : Bool} {x x' : Value} {xs : List Value} (h : srcA m size x = some (n, cnd, xs)) (hc : cnd = true) {c : Ctx} {g : List (Option GB)} {W : World} (hr : Rel P c g m W) (hx : VR g x x') :
    ∃ ys, (Builtin.lenOf x').run P W = .ok n W ∧ (∀ W', W'.heap = W.heap → (Builtin.firstCells size n x').run P W' = .ok ⟨ys⟩ W') ∧ F2 (SR g) xs ys ∧ xs.length = n * size := by
  unfold srcA at h
  split at h
  · simp only [Option.some.injEq, Prod.mk.injEq] at h
    obtain ⟨rfl, rfl, rfl⟩ := h
    cases hx with
    | a hx => cases hx with
      | s hx => cases hx with
        | slice0 => exact ⟨[], rfl, fun W' _ => rfl, .nil, by simp⟩
  · rename_i j off n' cap
    split at h
    case h_2 => cases h
    rename_i b hj
    simp only [Option.some.injEq, Prod.mk.injEq] at h
    obtain ⟨rfl, rfl, rfl⟩ := h
    have hc' := of_decide_eq_true hc
    cases hx with
    | a hx => cases hx with
      | s hx => cases hx with
        | slice _ _ _ _ gb hg =>
          obtain ⟨ys, hf, hcell⟩ := hr.cellsAt hj hg hc'
          have hlen : ((b.cells.drop off).take (n' * size)).length = n' * size := by simp; omega
          refine ⟨ys, rfl, fun W' hW => ?_, hf, hlen⟩
          exact run_firstCells_some (P := P) W' size n' ⟨gb.b, gb.base + off, none⟩ n' (cap + gb.extra) ys (by rw [← hf.length, hlen]) fun k v hk => by rw [cell?_heap hW]; exact hcell k v hk
        | nilS _ _ a _ =>
          refine ⟨[], rfl, fun W' _ => ?_, by simp; exact .nil, by simp⟩
          cases a with
          | none => rfl
          | some a => exact run_firstCells_some (P := P) W' size 0 a 0 0 [] (by simp) fun k v hk => by simp at hk
  · simp only [Option.some.injEq, Prod.mk.injEq] at h
    obtain ⟨rfl, rfl, rfl⟩ := h
    obtain rfl := SR.inv_str hx
    rename_i s
    have hs1 : size = 1 := by simpa using hc
    subst hs1
    refine ⟨(bl s).map fun b => .int .u8 b.toNat, by rw [size_bl]; rfl, fun W' _ => ?_, F2.refl _ fun x hx => ?_, by simp⟩
    · show Result.ok ((s.extract 0 (bl s).length).data.map fun b => Value.int .u8 b.toNat) W' = _
      rw [extract_eq]
      congr 1
      apply Array.ext'
      simp
      rw [List.take_of_length_le]
      rw [List.length_map, size_bl]; exact Nat.le_refl _
    · obtain ⟨b, _, rfl⟩ := List.mem_map.1 hx
      exact .int _ _
  · cases h
theorem Rel.growIn {c : Ctx} {g : List (Option GB)} {m : Mem} {W : World} (hr : Rel P c g m W) {j : Nat} {b : ABlk} {gb : GB} (hj : m[j]? = some (some b)) (hg : g[j]? = some (some gb)) (hrw : b.rw = true)
    {len n cap size : Nat} (hsz : P.cellsOf b.elem = size) (hcap : b.cells.length = cap * size) (hlc : len ≤ cap) (hroom : len + n ≤ cap + gb.extra) {xs ys : List Value} (hf : F2 (SR g) xs ys) (hn : xs.length = n * size) :
    ∃ W', (Go.storeCells ⟨gb.b, len * size, none⟩ ys).run P W = .ok () W' ∧ Rel P c (g ++ [some ⟨gb.b, 0, cap + gb.extra - (len + n)⟩]) (m.set j none ++ [grownBlk b.elem (b.cells.take (len * size) ++ xs)]) W' := by
  obtain ⟨cs, fr, hh, hcs, hx0, hown0, _⟩ := hr.blk j b gb hj hg
  obtain ⟨rfl, hown, hbase, hx⟩ := hown0 hrw
  rw [hbase, List.drop_zero] at hcs
  have hys : ys.length = n * size := by rw [← hf.length, hn]
  have e1 : (len + n) * size ≤ (cap + gb.extra) * size := Nat.mul_le_mul_right _ hroom
  rw [Nat.add_mul, Nat.add_mul] at e1
  rw [hsz, hcap] at hx
  have hst := run_storeCells_at P gb.b (len * size) b.elem ys 0 cs W hh (by rw [hys]; simp only [Nat.add_zero]; omega) hf.oneCell
  simp only [Nat.add_zero] at hst
  refine ⟨_, hst, ?_⟩
  generalize hrow : (cs.toList.take (len * size) ++ ys ++ cs.toList.drop (len * size + ys.length)).toArray = row
  have hjl := lt_of_getElem? hj
  have hat : ∀ k, (W.setRow gb.b row).heap[k]? = if gb.b = k then some (.cells row b.elem (0, 0)) else W.heap[k]? := by
    intro k
    split
    · rename_i e; subst e; exact setRow_heap W gb.b cs row b.elem (0, 0) hh
    · rename_i e; exact setRow_other W gb.b k row (fun h => e h.symm)
  have hlcs : len * size ≤ cs.size := by have := Nat.mul_le_mul_right size hlc; omega
  have get : ∀ (k : Nat) (bk : ABlk), (m.set j none)[k]? = some (some bk) → m[k]? = some (some bk) ∧ k ≠ j := by
    intro k bk hk
    rw [List.getElem?_set] at hk
    split at hk
    · first | (cases hk; done) | (split at hk <;> cases hk)
    · rename_i e; exact ⟨hk, fun h => e h.symm⟩
  have split' : ∀ (k : Nat) (bk : ABlk) (gk : GB), (m.set j none ++ [grownBlk b.elem (b.cells.take (len * size) ++ xs)])[k]? = some (some bk) → (g ++ [some ⟨gb.b, 0, cap + gb.extra - (len + n)⟩])[k]? = some (some gk) →
      (m[k]? = some (some bk) ∧ k ≠ j ∧ g[k]? = some (some gk)) ∨ (k = m.length ∧ bk = ⟨b.cells.take (len * size) ++ xs, b.elem, true, false, none⟩ ∧ gk = ⟨gb.b, 0, cap + gb.extra - (len + n)⟩) := by
    intro k bk gk hk hgk
    rcases Nat.lt_trichotomy k m.length with hl | hl | hl
    · rw [List.getElem?_append_left (by simpa using hl)] at hk
      rw [List.getElem?_append_left (by rw [hr.len]; exact hl)] at hgk
      exact .inl ⟨(get k bk hk).1, (get k bk hk).2, hgk⟩
    · subst hl
      rw [List.getElem?_append_right (by simp)] at hk
      rw [← hr.len, List.getElem?_append_right (Nat.le_refl _)] at hgk
      simp [grownBlk] at hk hgk
      exact .inr ⟨rfl, hk.symm, hgk.symm⟩
    · rw [List.getElem?_eq_none (by simp; omega)] at hk; cases hk
  refine ⟨by simp [hr.len], ?_, ?_, ?_, ?_, hr.os, hr.tape, hr.output, ?_, ?_⟩
  rotate_right
  · intro k bk gk hk hgk h1 h2
    rcases split' k bk gk hk hgk with ⟨hk, hne, hgk⟩ | ⟨rfl, rfl, rfl⟩
    · exact hr.ro k bk gk hk hgk h1 h2
    · cases h1
  rotate_right
  · refine hr.objs.keep hr.size (by simp) ?_ ?_
    · intro k bk gk hk hgk
      rcases split' k bk gk hk hgk with ⟨hk, hne, hgk⟩ | ⟨rfl, rfl, rfl⟩
      · exact .inl ⟨bk, hk, rfl, rfl, hgk⟩
      · exact .inr ⟨rfl, .inr (.inr ⟨j, b, gb, hj, hr.noOb hj hg hrw, hg, rfl⟩)⟩
    · intro k _
      rw [hat]
      split
      · rename_i e
        exact .inr ⟨e ▸ hown, j, b, gb, hj, hr.noOb hj hg hrw, hg, e⟩
      · exact .inl rfl
  · intro k bk gk hk hgk
    rcases split' k bk gk hk hgk with ⟨hk, hne, hgk⟩ | ⟨rfl, rfl, rfl⟩
    · obtain ⟨cs', fr', hh', hf', rest⟩ := hr.blk k bk gk hk hgk
      refine ⟨cs', fr', ?_, hf'.imp fun _ _ h => h.app, rest⟩
      rw [hat, if_neg (hr.inj j k b bk gb gk (fun h => hne h.symm) hj hk hrw hg hgk), hh']
    · have hfin : (b.cells.take (len * size) ++ xs).length + (cap + gb.extra - (len + n)) * P.cellsOf b.elem ≤ row.size := by
        have hrs : row.size = cs.size := by
          rw [← hrow]; simp; omega
        rw [hrs, hsz]
        simp only [List.length_append, List.length_take, hcap, hn]
        have e2 : min (len * size) (cap * size) = len * size := Nat.min_eq_left (Nat.mul_le_mul_right size hlc)
        rw [e2, Nat.sub_mul, Nat.add_mul, Nat.add_mul]
        omega
      refine ⟨row, (b.elem, (0, 0)), by rw [hat, if_pos rfl], ?_, by show 0 + (b.cells.take (len * size) ++ xs).length ≤ row.size; omega, fun _ => ⟨rfl, hown, rfl, hfin⟩, by simp⟩
      · have h1 : F2 (SR g) (b.cells.take (len * size) ++ xs) (cs.toList.take (len * size) ++ ys) := by
          refine F2.append ?_ hf
          have := hcs.take (len * size)
          rw [List.take_take] at this
          rw [show min (len * size) b.cells.length = len * size from by rw [hcap]; exact Nat.min_eq_left (Nat.mul_le_mul_right size hlc)] at this
          exact this
        have h2 : row.toList.take (b.cells.take (len * size) ++ xs).length = cs.toList.take (len * size) ++ ys := by
          rw [h1.length, ← hrow]
          rw [List.take_left]
        show F2 _ _ ((row.toList.drop 0).take _)
        rw [List.drop_zero, h2]
        exact h1.imp fun _ _ h => h.app
  · intro p q bp bq gp gq hne hp hq hrwp hgp hgq
    rcases split' p bp gp hp hgp with ⟨hp, np, hgp⟩ | ⟨rfl, rfl, rfl⟩ <;> rcases split' q bq gq hq hgq with ⟨hq, nq, hgq⟩ | ⟨rfl, rfl, rfl⟩
    · exact hr.inj p q bp bq gp gq hne hp hq hrwp hgp hgq
    · exact hr.inj p j bp b gp gb np hp hj hrwp hgp hg
    · exact hr.inj j q b bq gb gq (fun h => nq h.symm) hj hq hrw hg hgq
    · exact absurd rfl hne
  · intro k hk hF
    rw [hat, if_neg, hr.frame k hk hF]
    intro e
    subst e
    rcases hown with h1 | h1
    · omega
    · exact hF h1
  · simpa using hr.size
end Go.AE
end
section
namespace Go.AE
variable {P : Program}
def isSrcD : TypeDesc → Bool
  | .slice _ => true
  | .string => true
  | _ => false
def evAppend {R : Type} (X : Ops R) (T : Tab P) (ts tx : TypeId) (s x : Value) (m : Mem) (k : Value → Mem → R) : R :=
  match T.und ts, T.und tx with
  | some (.slice e), some dx =>
    if !isSrcD dx then X.fl else
    match T.inf e with
    | some te =>
      match te.zero with
      | some z =>
        if z.cells.toList.length ≠ te.size then X.fl else
        match srcA m te.size x with
        | some (n, cnd, xs) => X.nd cnd (
          match s with
          | .slice none 0 0 => X.nd (decide (n * te.bytes ≤ 140737488355328 ∧ n ≤ 9223372036854775807)) (k (.slice (some ⟨m.length, 0, none⟩) n n) (m ++ [grownBlk e xs]))
          | .slice (some ⟨j, off, none⟩) len cap =>
            match m[j]? with
            | some (some b) =>
              if b.rw then
                (if b.elem == e && off == 0 then X.nd (decide (b.cells.length = cap * te.size ∧ len ≤ cap ∧ (len + n) * te.bytes ≤ 140737488355328 ∧ len + n ≤ 9223372036854775807))
                  (k (.slice (some ⟨m.length, 0, none⟩) (len + n) (len + n)) (m.set j none ++ [grownBlk e (b.cells.take (len * te.size) ++ xs)])) else X.fl)
              else X.nd (b.ex && decide (cap < len + n ∧ off + len * te.size ≤ b.cells.length ∧ (len + n) * te.bytes ≤ 140737488355328 ∧ len + n ≤ 9223372036854775807))
                  (k (.slice (some ⟨m.length, 0, none⟩) (len + n) (len + n)) (m ++ [grownBlk e ((b.cells.drop off).take (len * te.size) ++ xs)]))
            | _ => X.fl
          | _ => X.fl)
        | none => X.fl
      | none => X.fl
    | none => X.fl
  | _, _ => X.fl
section run
variable (T : Tab P) {ts tx ty e : TypeId} {dx : TypeDesc} {te : TI} {z x' : Value} {n : Nat} {ys : List Value} {W : World} (hts : T.und ts = some (.slice e)) (htx : T.und tx = some dx) (hdx : isSrcD dx = true)
  (hte : T.inf e = some te) (hz : te.zero = some z) (hl : (Builtin.lenOf x').run P W = .ok n W) (hf : ∀ W', W'.heap = W.heap → (Builtin.firstCells te.size n x').run P W' = .ok ⟨ys⟩ W')
include hts htx hdx hte hl hf
theorem run_app_room0 {sLen sCap : Nat} (h : sLen + n ≤ sCap) :
    (Builtin.append_ #[ts, tx] ty #[.slice none sLen sCap, x']).run P W = .ok (.slice none (sLen + n) sCap) W := by
  obtain ⟨i, hi, hs, hb, hzi⟩ := T.inf_ok e te hte
  have hf0 := hf W rfl
  rw [← hs] at hf0
  cases dx <;> first | (cases hdx; done) | (simp [Builtin.append_, T.run_und hts, T.run_und htx, sizeOf, run_typeInfo hi, hl, h, hf0])
theorem run_app_room {a : Addr} {sLen sCap : Nat} {W' : World} (h : sLen + n ≤ sCap) (hst : (storeCells (a.add (sLen * te.size)) ys).run P W = .ok () W') :
    (Builtin.append_ #[ts, tx] ty #[.slice (some a) sLen sCap, x']).run P W = .ok (.slice (some a) (sLen + n) sCap) W' := by
  obtain ⟨i, hi, hs, hb, hzi⟩ := T.inf_ok e te hte
  have hf0 := hf W rfl
  rw [← hs] at hf0 hst
  cases dx <;> first | (cases hdx; done) | (simp [Builtin.append_, T.run_und hts, T.run_und htx, sizeOf, run_typeInfo hi, hl, h, hf0, hst])
include hz in
theorem run_app_grow {base : Option Addr} {sLen sCap : Nat} {os : List Value} (h : sCap < sLen + n) (hfit : (sLen + n) * te.bytes ≤ 140737488355328) (h63 : sLen + n ≤ 9223372036854775807)
    (ho : ∀ W', W'.heap = W.heap → (Builtin.firstCells te.size sLen (.slice base sLen sCap)).run P W' = .ok ⟨os⟩ W') :
    ∃ nc, sLen + n ≤ nc ∧ (Builtin.append_ #[ts, tx] ty #[.slice base sLen sCap, x']).run P W =
      .ok (.slice (some ⟨W.heap.size, 0, none⟩) (sLen + n) nc) (W.drew.alloc (.cells ⟨os ++ ys ++ (Builtin.zeroCells z.cells (nc - (sLen + n))).toList⟩ e)) := by
  obtain ⟨i, hi, hs, hb, hzi⟩ := T.inf_ok e te hte
  have hn : ¬ (sLen + n ≤ sCap) := by omega
  have hfit' := growslice_fits h (by rw [hb]; exact hfit : (sLen + n) * i.bytes ≤ 140737488355328)
  have h48' : ¬ (281474976710656 < Builtin.nextslicecap (sLen + n) sCap * i.bytes) := by omega
  have h63' : ¬ (9223372036854775807 < ((sLen : Int) + (n : Int))) := by omega
  have hf0 := hf W.drew rfl
  have ho0 := ho W.drew rfl
  rw [← hs] at hf0 ho0
  have hz' : i.zero = some z := by rw [hzi]; exact hz
  refine ⟨grownCap W (sLen + n) sCap e, grownCap_ge _ _ _ _, ?_⟩
  cases dx <;> first
    | (cases hdx; done)
    | (simp [Builtin.append_, T.run_und hts, T.run_und htx, sizeOf, zeroValue, run_typeInfo hi, hz', hl, hn, h48', h63', hf0, ho0, Question.forced, newRow, grownCap]
       congr 2
       apply Array.ext'
       simp)
end run
theorem evAppend_ok {n₀ : Nat} {R : Type} {X : Ans P n₀ R} {T : Tab P} {ts tx ty : TypeId} {s s' x x' : Value} {m : Mem} {k : Value → Mem → R} (h : X.holds (evAppend X T ts tx s x m k)) {c : Ctx} {g₀ g : List (Option GB)} {W : World}
    (hr : Rel P c (g₀ ++ g) m W) (hs : VR (g₀ ++ g) s s') (hx : VR (g₀ ++ g) x x') :
    ∃ v w m' W' g', (Builtin.append_ #[ts, tx] ty #[s', x']).run P W = .ok w W' ∧ Rel P c (g₀ ++ (g ++ g')) m' W' ∧ VR (g₀ ++ (g ++ g')) v w ∧ X.holds (k v m') := by
  unfold evAppend at h
  split at h
  case h_2 => exact absurd h X.fl_ok
  rename_i e dx hts htx
  split at h
  case isTrue => exact absurd h X.fl_ok
  rename_i hdx
  replace hdx : isSrcD dx = true := by simpa using hdx
  split at h
  case h_2 => exact absurd h X.fl_ok
  rename_i te hte
  split at h
  case h_2 => exact absurd h X.fl_ok
  rename_i z hz
  split at h
  case isTrue => exact absurd h X.fl_ok
  rename_i hzl
  replace hzl : z.cells.size = te.size := by simpa using hzl
  split at h
  case h_2 => exact absurd h X.fl_ok
  rename_i n cnd xs hsrc
  obtain ⟨hcnd, h⟩ := X.nd_ok _ _ h
  obtain ⟨ys, hl, hf, hxy, hxn⟩ := srcA_ok hsrc hcnd hr hx
  have hce := T.cellsOf hte
  have fresh : ∀ (m1 : Mem) (os ps : List Value) (len nc : Nat), Rel P c (g₀ ++ g) m1 W → F2 (SR (g₀ ++ g)) os ps → os.length = len * te.size → len + n ≤ nc →
      Rel P c (g₀ ++ (g ++ [some ⟨W.heap.size, 0, nc - (len + n)⟩])) (m1 ++ [grownBlk e (os ++ xs)]) (W.drew.alloc (.cells ⟨ps ++ ys ++ (Builtin.zeroCells z.cells (nc - (len + n))).toList⟩ e)) := by
    intro m1 os ps len nc hr1 hop hol hnc
    rw [← List.append_assoc g₀]
    refine hr1.drew.alloc e (nc - (len + n)) false (fun h => by cases h) ?_ ?_
    · rw [List.take_left' (by rw [(hop.append hxy).length])]
      exact hop.append hxy
    · rw [hce]
      have := (hop.append hxy).length
      have hzc : (Builtin.zeroCells z.cells (nc - (len + n))).toList.length = (nc - (len + n)) * te.size := by rw [Array.length_toList, size_zeroCells, hzl]
      rw [List.length_append (as := ps ++ ys), ← this, hzc]
      exact Nat.le_refl _
  have fromNil : ∀ (m1 : Mem), Rel P c (g₀ ++ g) m1 W → n * te.bytes ≤ 140737488355328 → n ≤ 9223372036854775807 → ∀ (N : Value → Mem → Prop), (∀ {v m}, N v m → N v m) → N (.slice (some ⟨m1.length, 0, none⟩) n n) (m1 ++ [grownBlk e xs]) →
      ∀ a : Option Addr, ∃ v w m' W' g', (Builtin.append_ #[ts, tx] ty #[.slice a 0 0, x']).run P W = .ok w W' ∧ Rel P c (g₀ ++ (g ++ g')) m' W' ∧ VR (g₀ ++ (g ++ g')) v w ∧ N v m' := by
    intro m1 hr1 hc1 hc2 N _ h a
    by_cases hn : n = 0
    · subst hn
      have hrel := hr1.ghost (grownBlk e xs)
      have hys : ys = [] := by
        have := hxy.length
        have : xs.length = 0 := by rw [hxn]; simp
        exact List.length_eq_zero_iff.1 (by omega)
      have hrun : (Builtin.append_ #[ts, tx] ty #[.slice a 0 0, x']).run P W = .ok (.slice a 0 0) W := by
        cases a with
        | none => exact run_app_room0 T hts htx hdx hte hl hf (by omega)
        | some a => exact run_app_room T hts htx hdx hte hl hf (by omega) (by rw [hys]; rfl)
      refine ⟨_, _, _, W, [none], hrun, by rw [← List.append_assoc]; exact hrel, .s (.nilS _ _ _ ?_), h⟩
      rw [← List.append_assoc, List.length_append, hr1.len]; simp
    · obtain ⟨nc, hnc, hrun⟩ := run_app_grow (ty := ty) T hts htx hdx hte hz hl hf (base := a) (sLen := 0) (sCap := 0) (os := []) (by omega) (by simpa using hc1) (by omega) (fun W' _ => by
        cases a with
        | none => simp [Builtin.firstCells]
        | some a => exact run_firstCells_some (P := P) W' te.size 0 a 0 0 [] (by simp) fun k v hk => by simp at hk)
      have hrel := fresh m1 [] [] 0 nc hr1 .nil (by simp) hnc
      refine ⟨_, _, _, _, _, hrun, hrel, .s ?_, h⟩
      have e2 : nc = n + (nc - n) := by omega
      have := SR.slice (g := g₀ ++ (g ++ [some ⟨W.heap.size, 0, nc - (0 + n)⟩])) m1.length 0 n n ⟨W.heap.size, 0, nc - (0 + n)⟩ (by rw [← List.append_assoc]; exact last_app hr1.len)
      simp only [Nat.zero_add] at this ⊢
      rw [← e2] at this
      exact this
  split at h
  · obtain ⟨hc, h⟩ := X.nd_ok _ _ h
    obtain ⟨hc1, hc2⟩ := of_decide_eq_true hc
    cases hs with
    | a hs => cases hs with
      | s hs => cases hs with
        | slice0 =>
          exact fromNil m hr hc1 hc2 (fun v m' => X.holds (k v m')) (fun h => h) h none
  · rename_i j off len cap hov
    have hq := h
    clear h hov
    split at hq
    case h_2 => exact absurd hq X.fl_ok
    rename_i b hj
    cases hs with
    | a hs => cases hs with
      | s hs => cases hs with
        | slice _ _ _ _ gb hg =>
          split at hq
          · rename_i hrw
            split at hq
            case isFalse => exact absurd hq X.fl_ok
            rename_i hbe
            simp only [Bool.and_eq_true, beq_iff_eq] at hbe
            obtain ⟨hbe, rfl⟩ := hbe
            obtain ⟨hc, hB⟩ := X.nd_ok _ _ hq
            obtain ⟨hc1, hc2, hc3, hc4⟩ := of_decide_eq_true hc
            have hb0 := hr.base0 hj hg hrw
            rw [hb0, Nat.zero_add]
            by_cases hin : len + n ≤ cap + gb.extra
            · obtain ⟨W', hst, hrel⟩ := hr.growIn (len := len) (n := n) (cap := cap) hj hg hrw (by rw [hbe]; exact hce) hc1 hc2 hin hxy hxn
              rw [hbe] at hrel
              refine ⟨_, _, _, W', [_], run_app_room T hts htx hdx hte hl hf hin (by rw [Addr.add_lit, Nat.zero_add]; exact hst), by rw [← List.append_assoc]; exact hrel, .s ?_, hB⟩
              have := SR.slice (g := g₀ ++ (g ++ [some ⟨gb.b, 0, cap + gb.extra - (len + n)⟩])) m.length 0 (len + n) (len + n) ⟨gb.b, 0, cap + gb.extra - (len + n)⟩ (by rw [← List.append_assoc]; exact last_app hr.len)
              rw [show len + n + (cap + gb.extra - (len + n)) = cap + gb.extra from by omega] at this
              exact this
            · have hll : len * te.size ≤ cap * te.size := Nat.mul_le_mul_right _ hc2
              obtain ⟨os, hos, hcell⟩ := hr.cellsAt hj hg (off := 0) (n := len * te.size) (by omega)
              simp only [List.drop_zero] at hos
              rw [hb0, Nat.zero_add] at hcell
              have hol : (b.cells.take (len * te.size)).length = len * te.size := by simp; omega
              obtain ⟨nc, hnc, hrun⟩ := run_app_grow (ty := ty) T hts htx hdx hte hz hl hf (base := some ⟨gb.b, 0, none⟩) (sLen := len) (sCap := cap + gb.extra) (os := os) (by omega) hc3 hc4
                (fun W' hW => run_firstCells_some (P := P) W' te.size len ⟨gb.b, 0, none⟩ len (cap + gb.extra) os (by rw [← hos.length, hol]) fun k v hk => by rw [cell?_heap hW]; exact hcell k v hk)
              have hrel := fresh (m.set j none) (b.cells.take (len * te.size)) os len nc (hr.kill j) hos hol hnc
              refine ⟨_, _, _, _, _, hrun, hrel, .s ?_, hB⟩
              have := SR.slice (g := g₀ ++ (g ++ [some ⟨W.heap.size, 0, nc - (len + n)⟩])) m.length 0 (len + n) (len + n) ⟨W.heap.size, 0, nc - (len + n)⟩ (by rw [← List.append_assoc]; exact last_app hr.len)
              rw [show len + n + (nc - (len + n)) = nc from by omega] at this
              exact this
          · rename_i hrw
            obtain ⟨hc, hB⟩ := X.nd_ok _ _ hq
            rw [Bool.and_eq_true] at hc
            obtain ⟨hcap, hc1, hc3, hc4⟩ := of_decide_eq_true hc.2
            obtain ⟨cs, fr, _, _, _, _, hex⟩ := hr.blk j b gb hj hg
            have hex := hex hc.1
            obtain ⟨os, hos, hcell⟩ := hr.cellsAt hj hg (off := off) (n := len * te.size) hc1
            have hol : ((b.cells.drop off).take (len * te.size)).length = len * te.size := by simp; omega
            obtain ⟨nc, hnc, hrun⟩ := run_app_grow (ty := ty) T hts htx hdx hte hz hl hf (base := some ⟨gb.b, gb.base + off, none⟩) (sLen := len) (sCap := cap + gb.extra) (os := os) (by omega) hc3 hc4
              (fun W' hW => run_firstCells_some (P := P) W' te.size len ⟨gb.b, gb.base + off, none⟩ len (cap + gb.extra) os (by rw [← hos.length, hol]) fun k v hk => by rw [cell?_heap hW]; exact hcell k v hk)
            have hrel := fresh m ((b.cells.drop off).take (len * te.size)) os len nc hr hos hol hnc
            refine ⟨_, _, _, _, _, hrun, hrel, .s ?_, hB⟩
            have := SR.slice (g := g₀ ++ (g ++ [some ⟨W.heap.size, 0, nc - (len + n)⟩])) m.length 0 (len + n) (len + n) ⟨W.heap.size, 0, nc - (len + n)⟩ (by rw [← List.append_assoc]; exact last_app hr.len)
            rw [show len + n + (nc - (len + n)) = nc from by omega] at this
            exact this
        | nilS _ _ a hjl =>
          split at hq
          · split at hq
            case isFalse => exact absurd hq X.fl_ok
            obtain ⟨hc, hB⟩ := X.nd_ok _ _ hq
            obtain ⟨hc1, hc2, hc3, hc4⟩ := of_decide_eq_true hc
            have := fromNil (m.set j none) (hr.kill j) (by simpa using hc3) (by omega) (fun v m' => X.holds (k v m')) (fun h => h) (by simpa using hB) a
            simpa using this
          · obtain ⟨hc, hB⟩ := X.nd_ok _ _ hq
            rw [Bool.and_eq_true] at hc
            obtain ⟨hcap, hc1, hc3, hc4⟩ := of_decide_eq_true hc.2
            exact fromNil m hr (by simpa using hc3) (by omega) (fun v m' => X.holds (k v m')) (fun h => h) (by simpa using hB) a
  · exact absurd h X.fl_ok
end Go.AE
end
section
namespace Go.AE
variable {P : Program}
def evSlice {R : Type} (X : Ops R) (T : Tab P) (t : TypeId) (x : Value) (lo hi : Option Value) (m : Mem) (k : Value → R) : R :=
  match T.und t, x with
  | some .string, .string _ =>
    match sliceStrA T t x lo hi with
    | some (cs, v) => cs.foldr X.nd (k v)
    | none => X.fl
  | some (.slice e), .slice (some ⟨j, off, none⟩) len cap =>
    match T.inf e, boundA lo 0, boundA hi len, m[j]? with
    | some te, some l, some h, some (some b) =>
      X.nd (decide (0 ≤ h ∧ h ≤ cap ∧ 0 ≤ l ∧ l ≤ h))
        (k (.slice (some ⟨j, off + l.toNat * te.size, none⟩) (h.toNat - l.toNat) (cap - l.toNat)))
    | _, _, _, _ => X.fl
  | some (.slice e), .slice none 0 0 =>
    match T.inf e, boundA lo 0, boundA hi 0 with
    | some _, some l, some h => X.nd (decide (l = 0 ∧ h = 0)) (k (.slice none 0 0))
    | _, _, _ => X.fl
  | some (.array n e), .pointer (some ⟨j, off, none⟩) =>
    match T.inf e, boundA lo 0, boundA hi n, m[j]? with
    | some te, some l, some h, some (some b) =>
      X.nd (b.ex && decide (0 ≤ h ∧ h ≤ n ∧ 0 ≤ l ∧ l ≤ h ∧ l < n)) (k (.slice (some ⟨j, off + l.toNat * te.size, none⟩) (h.toNat - l.toNat) (n - l.toNat)))
    | _, _, _, _ => X.fl
  | _, _ => X.fl
theorem foldr_nd {n₀ : Nat} {R : Type} {X : Ans P n₀ R} : ∀ (cs : List Bool) (r : R), X.holds (cs.foldr X.nd r) → (∀ c ∈ cs, c = true) ∧ X.holds r
  | [], r, h => ⟨fun c hc => (by cases hc), h⟩
  | c :: cs, r, h => by
    obtain ⟨h1, h2⟩ := X.nd_ok c _ h
    obtain ⟨h3, h4⟩ := foldr_nd cs r h2
    refine ⟨fun c' hc' => ?_, h4⟩
    cases hc' with
    | head => exact h1
    | tail _ hc' => exact h3 c' hc'
theorem evSlice_ok {n₀ : Nat} {R : Type} {X : Ans P n₀ R} {T : Tab P} {t : TypeId} {x x' : Value} {lo hi lo' hi' : Option Value} {m : Mem} {k : Value → R} (h : X.holds (evSlice X T t x lo hi m k)) {c : Ctx} {g : List (Option GB)} {W : World}
    (hr : Rel P c g m W) (hx : VR g x x') (hl : ∀ v, lo = some v → ∃ w, lo' = some w ∧ VR g v w) (hln : lo = none → lo' = none) (hh : ∀ v, hi = some v → ∃ w, hi' = some w ∧ VR g v w) (hhn : hi = none → hi' = none) :
    ∃ v w, (Instr.sliceAt t x' lo' hi' none).run P W = .ok w W ∧ VR g v w ∧ X.holds (k v) := by
  unfold evSlice at h
  split at h
  · split at h
    case h_2 => exact absurd h X.fl_ok
    rename_i cs v hs
    obtain ⟨hc, h⟩ := foldr_nd _ _ h
    have := sliceStrA_ok hs hc hx hl hln hh hhn W
    exact ⟨v, v, this.1, this.2, h⟩
  · rename_i e j off len cap hd
    split at h
    case h_2 => exact absurd h X.fl_ok
    rename_i te l hb b hte h1 h2 hj
    obtain ⟨hc, h⟩ := X.nd_ok _ _ h
    obtain ⟨c1, c2, c3, c4⟩ := of_decide_eq_true hc
    cases hx with
    | a hx => cases hx with
      | s hx => cases hx with
        | slice _ _ _ _ gb hg =>
          have run : (Instr.sliceAt t (.slice (some ⟨gb.b, gb.base + off, none⟩) len (cap + gb.extra)) lo' hi' none).run P W =
              .ok (.slice (if cap + gb.extra = l.toNat then some ⟨gb.b, gb.base + off, none⟩ else some ⟨gb.b, gb.base + (off + l.toNat * te.size), none⟩) (hb.toNat - l.toNat) (cap + gb.extra - l.toNat)) W := by
            have c2' : hb ≤ ((cap + gb.extra : Nat) : Int) := by omega
            have c2'' : hb ≤ (cap : Int) + (gb.extra : Int) := by omega
            rcases bound_ok h1 hl hln with ⟨_, rfl, rfl⟩ | ⟨k1, rfl⟩ <;> rcases bound_ok h2 hh hhn with ⟨_, rfl, rfl⟩ | ⟨k2, rfl⟩
            · simp [Instr.sliceAt, T.run_und hd, Instr.slice, Instr.sliceBounds, T.run_size hte, Addr.add_lit, Nat.add_assoc]
            · simp [Instr.sliceAt, T.run_und hd, Instr.slice, Instr.sliceBounds, Instr.sliceBound, asIntOf, c1, c2'', T.run_size hte, Addr.add_lit, Nat.add_assoc]
            · simp [Instr.sliceAt, T.run_und hd, Instr.slice, Instr.sliceBounds, Instr.sliceBound, asIntOf, c3, c4, T.run_size hte, Addr.add_lit, Nat.add_assoc]
            · have c4' : ¬ (hb < l) := by omega
              simp [Instr.sliceAt, T.run_und hd, Instr.slice, Instr.sliceBounds, Instr.sliceBound, asIntOf, c1, c2'', c3, T.run_size hte, Addr.add_lit, Nat.add_assoc]
              intro hm; exfalso; omega
          refine ⟨_, _, run, ?_, h⟩
          by_cases h0 : cap + gb.extra = l.toNat
          · rw [if_pos h0]
            have e1 : hb.toNat - l.toNat = 0 := by omega
            have e2 : cap + gb.extra - l.toNat = 0 := by omega
            have e3 : cap - l.toNat = 0 := by omega
            rw [e1, e2, e3]
            exact .s (.nilS _ _ _ (lt_of_getElem? hg))
          · rw [if_neg h0]
            have := SR.slice (g := g) j (off + l.toNat * te.size) (hb.toNat - l.toNat) (cap - l.toNat) gb hg
            rw [show cap - l.toNat + gb.extra = cap + gb.extra - l.toNat from by omega] at this
            exact .s this
        | nilS _ _ a hjl =>
          have c0 : hb = 0 ∧ l = 0 := by omega
          obtain ⟨rfl, rfl⟩ := c0
          have run : (Instr.sliceAt t (.slice a 0 0) lo' hi' none).run P W = .ok (.slice a 0 0) W := by
            cases a <;> rcases bound_ok h1 hl hln with ⟨_, rfl, _⟩ | ⟨k1, rfl⟩ <;> rcases bound_ok h2 hh hhn with ⟨_, rfl, _⟩ | ⟨k2, rfl⟩ <;>
              simp [Instr.sliceAt, T.run_und hd, Instr.slice, Instr.sliceBounds, Instr.sliceBound, asIntOf, T.run_size hte]
          exact ⟨_, _, run, .s (.nilS _ _ _ hjl), by simpa using h⟩
  · rename_i e hd
    split at h
    case h_2 => exact absurd h X.fl_ok
    rename_i te l hb hte h1 h2
    obtain ⟨hc, h'⟩ := X.nd_ok _ _ h
    obtain ⟨rfl, rfl⟩ := of_decide_eq_true hc
    cases hx with
    | a hx => cases hx with
      | s hx => cases hx with
        | slice0 =>
          refine ⟨_, .slice none 0 0, ?_, .s .slice0, h'⟩
          rcases bound_ok h1 hl hln with ⟨_, rfl, _⟩ | ⟨k1, rfl⟩ <;> rcases bound_ok h2 hh hhn with ⟨_, rfl, _⟩ | ⟨k2, rfl⟩ <;>
            simp [Instr.sliceAt, T.run_und hd, Instr.slice, Instr.sliceBounds, Instr.sliceBound, asIntOf, T.run_size hte]
  · rename_i n e j off hd
    split at h
    case h_2 => exact absurd h X.fl_ok
    rename_i te l hb b hte h1 h2 hj
    obtain ⟨hc, h'⟩ := X.nd_ok _ _ h
    rw [Bool.and_eq_true] at hc
    obtain ⟨c1, c2, c3, c4, c5⟩ := of_decide_eq_true hc.2
    cases hx with
    | a hx => cases hx with
      | s hx => cases hx with
        | ptr _ _ gb hg =>
          obtain ⟨cs, fr, _, _, _, _, hex⟩ := hr.blk j b gb hj hg
          have hex := hex hc.1
          have run : (Instr.sliceAt t (.pointer (some ⟨gb.b, gb.base + off, none⟩)) lo' hi' none).run P W =
              .ok (.slice (if n = l.toNat then some ⟨gb.b, gb.base + off, none⟩ else some ⟨gb.b, gb.base + (off + l.toNat * te.size), none⟩) (hb.toNat - l.toNat) (n - l.toNat)) W := by
            rcases bound_ok h1 hl hln with ⟨_, rfl, rfl⟩ | ⟨k1, rfl⟩ <;> rcases bound_ok h2 hh hhn with ⟨_, rfl, rfl⟩ | ⟨k2, rfl⟩
            · simp [Instr.sliceAt, T.run_und hd, Instr.sureAddr, Instr.sliceBounds, T.run_size hte, Addr.add_lit, Nat.add_assoc, apply_ite]
            · simp [Instr.sliceAt, T.run_und hd, Instr.sureAddr, Instr.sliceBounds, Instr.sliceBound, asIntOf, c1, c2, T.run_size hte, Addr.add_lit, Nat.add_assoc, apply_ite]
            · simp [Instr.sliceAt, T.run_und hd, Instr.sureAddr, Instr.sliceBounds, Instr.sliceBound, asIntOf, c3, c4, T.run_size hte, Addr.add_lit, Nat.add_assoc, apply_ite]
            · have c4' : l ≤ max hb 0 := by omega
              simp [Instr.sliceAt, T.run_und hd, Instr.sureAddr, Instr.sliceBounds, Instr.sliceBound, asIntOf, c1, c2, c3, c4', T.run_size hte, Addr.add_lit, Nat.add_assoc, apply_ite]
          refine ⟨_, _, run, ?_, h'⟩
          rw [if_neg (by omega)]
          have := SR.slice (g := g) j (off + l.toNat * te.size) (hb.toNat - l.toNat) (n - l.toNat) gb hg
          rw [hex] at this
          exact .s this
  · exact absurd h X.fl_ok
end Go.AE
end
