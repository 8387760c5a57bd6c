/-
  An abstract logic for the model (part 2): how frames and memories look, evaluated by functions. Conditions: none.
-/
import Derived.Test.YtfohjnfdgegfcaaDoorAe1
namespace Go.AE

/-- What is asked of an end, seen from the abstract side; 'g₀': what the caller's blocks stand for. -/
def Post (P : Program) (c : Ctx) (g₀ : List (Option GB)) (K : Exit → List Value → Mem → Prop) (e : Exit) (A : Act) (W : World) : Prop :=
  ∃ a m g', K e a m ∧ Rel P c (g₀ ++ g') m W ∧ ARel (g₀ ++ g') a A

theorem Post.mono {P : Program} {c : Ctx} {g : List (Option GB)} {K K' : Exit → List Value → Mem → Prop} (h : ∀ e a m, K e a m → K' e a m) {e : Exit} {A : Act} {W : World}
    (hp : Post P c g K e A W) : Post P c g K' e A W :=
  let ⟨a, m, g', hk, hr, ha⟩ := hp
  ⟨a, m, g', h _ _ _ hk, hr, ha⟩

/-- From every frame and world that look like (a, m) the code comes to an end that looks as K says; the first 'n₀' blocks are the caller's. -/
def AWp (P : Program) (n₀ : Nat) (x : Code) (K : Exit → List Value → Mem → Prop) (a : List Value) (m : Mem) : Prop :=
  ∀ c g₀ g A W, g₀.length = n₀ → Rel P c (g₀ ++ g) m W → ARel (g₀ ++ g) a A → x.wp P (Post P c g₀ K) A W

variable {P : Program} {n₀ : Nat} {K K' : Exit → List Value → Mem → Prop} {a : List Value} {m : Mem}

theorem AWp.mono {x : Code} (h : AWp P n₀ x K a m) (hk : ∀ e a m, K e a m → K' e a m) : AWp P n₀ x K' a m :=
  fun c g₀ g A W hn hr ha => wp_mono (h c g₀ g A W hn hr ha) fun _ _ _ q => q.mono hk

theorem AWp.skip (h : K .normal a m) : AWp P n₀ .skip K a m := fun _ _ g _ _ _ hr ha => wp_skip ⟨a, m, g, h, hr, ha⟩
theorem AWp.ret (h : K .ret a m) : AWp P n₀ .ret K a m := fun _ _ g _ _ _ hr ha => wp_ret ⟨a, m, g, h, hr, ha⟩
theorem AWp.exit {id : Nat} (h : K (.exit id) a m) : AWp P n₀ (.exit id) K a m := fun _ _ g _ _ _ hr ha => wp_exit ⟨a, m, g, h, hr, ha⟩

/-- Behind a normal end 'N', at any other 'K'. -/
def andThen (N : List Value → Mem → Prop) (K : Exit → List Value → Mem → Prop) : Exit → List Value → Mem → Prop
  | .normal, a, m => N a m
  | e, a, m => K e a m

theorem AWp.seq {x y : Code} (h : AWp P n₀ x (andThen (AWp P n₀ y K) K) a m) : AWp P n₀ (.seq x y) K a m := by
  intro c g₀ g A W hn hr ha
  refine wp_seq (wp_mono (h c g₀ g A W hn hr ha) ?_)
  intro e A' W' ⟨a', m', g', hk, hr', ha'⟩
  cases e with
  | normal => exact hk c g₀ g' A' W' hn hr' ha'
  | exit id => exact ⟨a', m', g', hk, hr', ha'⟩
  | goto l => exact ⟨a', m', g', hk, hr', ha'⟩
  | ret => exact ⟨a', m', g', hk, hr', ha'⟩
  | panic ch => exact ⟨a', m', g', hk, hr', ha'⟩
  | outgrown => exact ⟨a', m', g', hk, hr', ha'⟩

/-- A block's end: its own exit is normal. -/
def inBlk (id : Nat) (K : Exit → List Value → Mem → Prop) : Exit → List Value → Mem → Prop
  | .exit id', a, m => if id' = id then K .normal a m else K (.exit id') a m
  | e, a, m => K e a m

theorem AWp.block {id : Nat} {x : Code} (h : AWp P n₀ x (inBlk id K) a m) : AWp P n₀ (.block id x) K a m := by
  intro c g₀ g A W hn hr ha
  refine wp_block (wp_mono (h c g₀ g A W hn hr ha) ?_)
  intro e A' W' ⟨a', m', g', hk, hr', ha'⟩
  cases e with
  | exit id' =>
    by_cases hid : id' = id
    · simp only [Exit.inBlock, if_pos hid]; simp only [inBlk, if_pos hid] at hk; exact ⟨a', m', g', hk, hr', ha'⟩
    · simp only [Exit.inBlock, if_neg hid]; simp only [inBlk, if_neg hid] at hk; exact ⟨a', m', g', hk, hr', ha'⟩
  | normal => exact ⟨a', m', g', hk, hr', ha'⟩
  | goto l => exact ⟨a', m', g', hk, hr', ha'⟩
  | ret => exact ⟨a', m', g', hk, hr', ha'⟩
  | panic ch => exact ⟨a', m', g', hk, hr', ha'⟩
  | outgrown => exact ⟨a', m', g', hk, hr', ha'⟩

/-- The state (a, m) may be seen as (a', m'): less is known, the blocks that the call made may be numbered anew. -/
def Sees (n₀ : Nat) (a : List Value) (m : Mem) (a' : List Value) (m' : Mem) : Prop :=
  ∀ P c g₀ g A W, g₀.length = n₀ → Rel P c (g₀ ++ g) m W → ARel (g₀ ++ g) a A → ∃ g', Rel P c (g₀ ++ g') m' W ∧ ARel (g₀ ++ g') a' A
theorem Sees.refl (n₀ : Nat) (a : List Value) (m : Mem) : Sees n₀ a m a m := fun _ _ _ g _ _ _ hr ha => ⟨g, hr, ha⟩
theorem Sees.trans {n₀ : Nat} {a a' a'' : List Value} {m m' m'' : Mem} (h : Sees n₀ a m a' m') (h' : Sees n₀ a' m' a'' m'') : Sees n₀ a m a'' m'' :=
  fun P c g₀ g A W hn hr ha => let ⟨g', hr', ha'⟩ := h P c g₀ g A W hn hr ha; h' P c g₀ g' A W hn hr' ha'
theorem AWp.sees {x : Code} {a' : List Value} {m' : Mem} (hs : Sees n₀ a m a' m') (h : AWp P n₀ x K a' m') : AWp P n₀ x K a m :=
  fun c g₀ g A W hn hr ha => let ⟨g', hr', ha'⟩ := hs P c g₀ g A W hn hr ha; h c g₀ g' A W hn hr' ha'

theorem AWp.loop {x : Code} (I : Nat → List Value → Mem → Prop) (k₀ : Nat) (h₀ : ∃ a' m', Sees n₀ a m a' m' ∧ I k₀ a' m')
    (round : ∀ k a m, I k a m → AWp P n₀ x (andThen (fun a' m' => ∃ k' a'' m'', k' < k ∧ Sees n₀ a' m' a'' m'' ∧ I k' a'' m'') K) a m) : AWp P n₀ (.loop x) K a m := by
  intro c g₀ g A W hn hr ha
  obtain ⟨a₁, m₁, hs, hI⟩ := h₀
  obtain ⟨g₁, hr₁, ha₁⟩ := hs P c g₀ g A W hn hr ha
  refine wp_loop_ghost (fun k A W => ∃ a m g', I k a m ∧ Rel P c (g₀ ++ g') m W ∧ ARel (g₀ ++ g') a A) k₀ ⟨a₁, m₁, g₁, hI, hr₁, ha₁⟩ ?_
  intro k A W ⟨a, m, g', hI, hr, ha⟩
  refine wp_mono (round k a m hI c g₀ g' A W hn hr ha) ?_
  intro e A' W' ⟨a', m', g'', hk, hr', ha'⟩
  cases e with
  | normal =>
    obtain ⟨k', a'', m'', hlt, hs, hI'⟩ := hk
    obtain ⟨g₃, hr₃, ha₃⟩ := hs P c g₀ g'' A' W' hn hr' ha'
    exact ⟨k', hlt, a'', m'', g₃, hI', hr₃, ha₃⟩
  | exit id => exact ⟨a', m', _, hk, hr', ha'⟩
  | goto l => exact ⟨a', m', _, hk, hr', ha'⟩
  | ret => exact ⟨a', m', _, hk, hr', ha'⟩
  | panic ch => exact ⟨a', m', _, hk, hr', ha'⟩
  | outgrown => exact ⟨a', m', _, hk, hr', ha'⟩

/-- What stands behind the loop's head may be a round more: the loop, its first round laid bare. -/
theorem AWp.loop_rounds {x : Code} (N : Nat) (I : Nat → List Value → Mem → Prop) (h₀ : I N a m)
    (round : ∀ k a m, I k a m → AWp P n₀ x (andThen (fun a' m' => ∃ k', k' < k ∧ I k' a' m') K) a m) : AWp P n₀ (.loop x) K a m :=
  AWp.loop I N ⟨a, m, .refl _ _ _, h₀⟩ fun k a m hI => (round k a m hI).mono fun e a' m' h => by
    cases e with
    | normal => obtain ⟨k', hlt, hI'⟩ := h; exact ⟨k', a', m', hlt, .refl _ _ _, hI'⟩
    | exit id => exact h
    | goto l => exact h
    | ret => exact h
    | panic ch => exact h
    | outgrown => exact h

/-- A scalar constant. -/
def plainS : Value → Bool
  | .bool _ | .int _ _ | .string _ | .pointer none | .nilFunc | .nilIface => true
  | .slice none 0 0 => true
  | .func _ ⟨[]⟩ ⟨[]⟩ => true
  | _ => false
def plainC : Value → Bool
  | .agg ⟨xs⟩ => xs.all plainS
  | .tuple ⟨[]⟩ => true
  | v => plainS v

theorem SR.plain (g : List (Option GB)) {v : Value} (h : plainS v = true) : SR g v v := by
  unfold plainS at h
  split at h
  · exact .bool _
  · exact .int _ _
  · exact .str _
  · exact .ptr0
  · exact .nilFunc
  · exact .nilIface
  · exact .slice0
  · exact .func _
  · cases h
theorem VR.plain (g : List (Option GB)) {v : Value} (h : plainC v = true) : VR g v v := by
  unfold plainC at h
  split at h
  · exact .agg (F2.refl _ fun x hx => SR.plain g (List.all_eq_true.1 h x hx))
  · exact .tup .nil
  · exact .s (SR.plain g h)

/-- The abstract value of an operand. -/
def aeval (a : List Value) : Operand → Value
  | .tmp t => (a[t]?).getD undef
  | .const v => if plainC v then v else topV
  | .global _ => topV
  | .func f => .func (.func f) #[] #[]

theorem VR.undef (g : List (Option GB)) : VR g Go.undef Go.undef := .tup .nil

theorem ARel.eval {g : List (Option GB)} {a : List Value} {A : Act} (h : ARel g a A) (x : Operand) : VR g (aeval a x) (A.eval x) := by
  cases x with
  | tmp t =>
    simp only [aeval, Act.eval]
    cases hx : a[t]? with
    | none =>
      have : A.tmps.size ≤ t := by
        have := h.tmps.length
        rw [List.getElem?_eq_none_iff] at hx
        simp at this; omega
      rw [Array.getD_eq_getD_getElem?, Array.getElem?_eq_none this]
      exact .undef g
    | some v =>
      obtain ⟨w, hw, hr⟩ := h.tmps.get t v hx
      rw [Array.getD_eq_getD_getElem?, ← Array.getElem?_toList, hw]
      exact hr
  | const v =>
    simp only [aeval, Act.eval]
    split
    · rename_i hp; exact .plain g hp
    · exact .top _
  | global _ => exact .top _
  | func f => exact .s (.func _)

theorem ARel.put {g : List (Option GB)} {a : List Value} {A : Act} (h : ARel g a A) (dst : Option Tmp) {v w : Value} (hv : VR g v w) :
    ARel g (match dst with | some d => a.set d v | none => a) (A.put dst w) := by
  cases dst with
  | none => exact h
  | some d => exact ⟨by simpa [Act.put] using h.tmps.set d hv, h.defers⟩

/-- The function 'f', called with arguments that look like 'args' in a world that looks like 'm', returns; and K says how what it hands back and the world look. -/
def ACall (P : Program) (f : FuncId) (args : List Value) (m : Mem) (K : Value → Mem → Prop) : Prop :=
  ∀ c g W args', Rel P c g m W → F2 (VR g) args args' →
    Calls P f ⟨args'⟩ W fun e W' => ∃ v v' m' g', e = .returned v' ∧ K v m' ∧ Rel P c (g ++ g') m' W' ∧ VR (g ++ g') v v'

theorem ACall.mono {f : FuncId} {args : List Value} {K K' : Value → Mem → Prop} (h : ACall P f args m K) (hk : ∀ v m', K v m' → K' v m') : ACall P f args m K' :=
  fun c g W args' hr ha => (h c g W args' hr ha).mono fun _ _ ⟨v, v', m', g', he, hK, rest⟩ => ⟨v, v', m', g', he, hk _ _ hK, rest⟩

/-- What a label's scope comes to, where at most n jumps are made inside it: 'c': the scope's whole text. -/
def Jumps (P : Program) (n₀ : Nat) (c : Code) (K : Exit → List Value → Mem → Prop) : Nat → Code → List Value → Mem → Prop
  | 0, _, _, _ => False
  | n + 1, x, a, m => AWp P n₀ x (fun e a m => match e with
    | .goto l => match findLabel c l with
      | some rest => Jumps P n₀ c K n rest a m
      | none => K (.goto l) a m
    | e => K e a m) a m

theorem jumps_run {c : Code} {cx : Ctx} {g₀ : List (Option GB)} (hn : g₀.length = n₀) : ∀ (n : Nat) (x : Code) (a : List Value) (m : Mem) (g : List (Option GB)) (A : Act) (W : World), Jumps P n₀ c K n x a m → Rel P cx (g₀ ++ g) m W → ARel (g₀ ++ g) a A →
    ∀ (b : Frame) (k : List Item) (cs : List Frame), ∃ e A' W', Post P cx g₀ K e A' W' ∧ Arrives P (lone (b.at A (.code x :: .inScope c :: k)) cs W) b k cs e A' W'
  | 0, _, _, _, _, _, _, h, _, _ => h.elim
  | n + 1, x, a, m, g, A, W, h, hr, ha => by
    intro b k cs
    obtain ⟨e, A₁, W₁, ⟨a', m', g', hk, hr', ha'⟩, harr⟩ := h cx g₀ g A W hn hr ha b (.inScope c :: k) cs
    cases e with
    | normal => exact ⟨.normal, A₁, W₁, ⟨a', m', g', hk, hr', ha'⟩, Steps.trans harr (.one step_inScope)⟩
    | exit id => exact ⟨.exit id, A₁, W₁, ⟨a', m', g', hk, hr', ha'⟩, fun k' hk => harr k' (by simp [exitTo, hk])⟩
    | ret => exact ⟨.ret, A₁, W₁, ⟨a', m', g', hk, hr', ha'⟩, harr⟩
    | panic ch => exact ⟨.panic ch, A₁, W₁, ⟨a', m', g', hk, hr', ha'⟩, harr⟩
    | outgrown => exact ⟨.outgrown, A₁, W₁, ⟨a', m', g', hk, hr', ha'⟩, harr⟩
    | goto l =>
      cases hf : findLabel c l with
      | none =>
        simp only [hf] at hk
        exact ⟨.goto l, A₁, W₁, ⟨a', m', g', hk, hr', ha'⟩, fun k' hk' => harr k' (by simp [gotoIn, hf, hk'])⟩
      | some rest =>
        simp only [hf] at hk
        obtain ⟨e, A₂, W₂, hq, harr₂⟩ := jumps_run hn n rest a' m' g' A₁ W₁ hk hr' ha' b k cs
        exact ⟨e, A₂, W₂, hq, .of_steps (harr _ (by simp [gotoIn, hf])) harr₂⟩

theorem AWp.scope {c : Code} {n : Nat} (h : Jumps P n₀ c K n c a m) : AWp P n₀ (.scope c) K a m := by
  intro cx g₀ g A W hn hr ha b k cs
  obtain ⟨e, A', W', hq, harr⟩ := jumps_run hn n c a m g A W h hr ha b k cs
  exact ⟨e, A', W', hq, .of_steps (.one step_scope) harr⟩

theorem AWp.label {l : Nat} (h : K .normal a m) : AWp P n₀ (.label l) K a m := fun _ _ g _ _ _ hr ha => wp_label ⟨a, m, g, h, hr, ha⟩
theorem AWp.goto {l : Nat} (h : K (.goto l) a m) : AWp P n₀ (.goto l) K a m := fun _ _ g _ _ _ hr ha => wp_goto ⟨a, m, g, h, hr, ha⟩
end Go.AE
