/-
  An abstract logic for the model (part 22): how frames and memories look, evaluated by functions. Conditions: none.
-/
import Derived.Test.YtfohjnfdgegfcaaDoorAe21
namespace Go.AE
variable {P : Program}

def eqBs : List UInt8 → List UInt8 → Bool
  | [], [] => true
  | a :: l, b :: r => bif beqB a b then eqBs l r else false
  | _, _ => false
theorem eqBs_eq : ∀ {l r : List UInt8}, eqBs l r = true → l = r
  | [], [], _ => rfl
  | [], _ :: _, h => by cases h
  | _ :: _, [], h => by cases h
  | a :: l, b :: r, h => by
    simp only [eqBs, beqB_eq] at h
    cases hb : a == b with
    | false => rw [hb] at h; cases h
    | true =>
      rw [hb] at h
      rw [eqBs_eq h, eq_of_beq hb]
def eqInt : Int → Int → Bool
  | .ofNat a, .ofNat b => Nat.beq a b
  | .negSucc a, .negSucc b => Nat.beq a b
  | _, _ => false
theorem eqInt_eq : ∀ {a b : Int}, eqInt a b = true → a = b
  | .ofNat _, .ofNat _, h => by rw [Nat.eq_of_beq_eq_true h]
  | .negSucc _, .negSucc _, h => by rw [Nat.eq_of_beq_eq_true h]
  | .ofNat _, .negSucc _, h => by cases h
  | .negSucc _, .ofNat _, h => by cases h
def eqBool : Bool → Bool → Bool
  | true, b => b
  | false, b => !b
theorem eqBool_eq : ∀ {a b : Bool}, eqBool a b = true → a = b
  | true, true, _ => rfl
  | false, false, _ => rfl
  | true, false, h => by cases h
  | false, true, h => by cases h

def qS : Value → Value → Bool
  | .bool a, .bool b => eqBool a b
  | .int k a, .int l b => decide (k = l) && eqInt a b
  | .string ⟨⟨a⟩⟩, .string ⟨⟨b⟩⟩ => eqBs a b
  | .pointer none, .pointer none => true
  | .slice none 0 0, .slice none 0 0 => true
  | .slice (some ⟨j, o, none⟩) n c, .slice (some ⟨i, p, none⟩) l d => Nat.beq j i && Nat.beq o p && Nat.beq n l && Nat.beq c d
  | _, _ => false
theorem qS_eq {v w : Value} (h : qS v w = true) : v = w := by
  unfold qS at h
  split at h
  · rw [eqBool_eq h]
  · simp only [Bool.and_eq_true, decide_eq_true_eq] at h
    rw [h.1, eqInt_eq h.2]
  · rw [eqBs_eq h]
  · rfl
  · rfl
  · simp only [Bool.and_eq_true] at h
    obtain ⟨⟨⟨h1, h2⟩, h3⟩, h4⟩ := h
    rw [Nat.eq_of_beq_eq_true h1, Nat.eq_of_beq_eq_true h2, Nat.eq_of_beq_eq_true h3, Nat.eq_of_beq_eq_true h4]
  · cases h
def qL (q : Value → Value → Bool) : List Value → List Value → Bool
  | [], [] => true
  | a :: l, b :: r => bif q a b then qL q l r else false
  | _, _ => false
theorem qL_eq {q : Value → Value → Bool} (hq : ∀ {v w : Value}, q v w = true → v = w) : ∀ {l r : List Value}, qL q l r = true → l = r
  | [], [], _ => rfl
  | [], _ :: _, h => by cases h
  | _ :: _, [], h => by cases h
  | a :: l, b :: r, h => by
    simp only [qL] at h
    cases hb : q a b with
    | false => rw [hb] at h; cases h
    | true =>
      rw [hb] at h
      rw [qL_eq hq h, hq hb]
def qA : Value → Value → Bool
  | .agg ⟨a⟩, .agg ⟨b⟩ => qL qS a b
  | v, w => qS v w
theorem qA_eq {v w : Value} (h : qA v w = true) : v = w := by
  unfold qA at h
  split at h
  · rw [qL_eq qS_eq h]
  · exact qS_eq h
def qV : Value → Value → Bool
  | .tuple ⟨a⟩, .tuple ⟨b⟩ => qL qA a b
  | v, w => qA v w
theorem qV_eq {v w : Value} (h : qV v w = true) : v = w := by
  unfold qV at h
  split at h
  · rw [qL_eq qA_eq h]
  · exact qA_eq h

def eqBlk (a b : ABlk) : Bool := qL qS a.cells b.cells && Nat.beq a.elem b.elem && eqBool a.rw b.rw && eqBool a.ex b.ex
theorem eqBlk_eq {a b : ABlk} (h : eqBlk a b = true) : a = b := by
  simp only [eqBlk, Bool.and_eq_true] at h
  obtain ⟨⟨⟨h1, h2⟩, h3⟩, h4⟩ := h
  cases a; cases b
  simp only [ABlk.mk.injEq]
  exact ⟨qL_eq qS_eq h1, Nat.eq_of_beq_eq_true h2, eqBool_eq h3, eqBool_eq h4⟩
def eqMem : Mem → List ABlk → Bool
  | [], [] => true
  | some a :: m, b :: l => bif eqBlk a b then eqMem m l else false
  | _, _ => false
theorem eqMem_eq : ∀ {m : Mem} {l : List ABlk}, eqMem m l = true → m = l.map some
  | [], [], _ => rfl
  | [], _ :: _, h => by cases h
  | none :: _, _, h => by cases h
  | some _ :: _, [], h => by cases h
  | some a :: m, b :: l, h => by
    simp only [eqMem] at h
    cases hb : eqBlk a b with
    | false => rw [hb] at h; cases h
    | true =>
      rw [hb] at h
      rw [eqMem_eq h, eqBlk_eq hb]; rfl

theorem map_some_inj : ∀ {a b : List ABlk}, a.map some = b.map some → a = b
  | [], [], _ => rfl
  | [], _ :: _, h => by cases h
  | _ :: _, [], h => by cases h
  | x :: a, y :: b, h => by
    simp only [List.map_cons, List.cons.injEq, Option.some.injEq] at h
    rw [h.1, map_some_inj h.2]

/-- An answer of a function: to these arguments, this value and these new blocks. -/
structure Ent where
  args : List Value
  v : Value
  nb : List ABlk

theorem renS_plain (ρ : Nat → Nat) {v : Value} (h : plainS v = true) : renS ρ v = v := by
  unfold plainS at h
  split at h <;> first | rfl | cases h
theorem ren_plain (ρ : Nat → Nat) {v : Value} (h : plainC v = true) : ren ρ v = v := by
  unfold plainC at h
  split at h
  · rename_i xs
    show Value.agg ⟨xs.map (renS ρ)⟩ = Value.agg ⟨xs⟩
    have : xs.map (renS ρ) = xs := by
      conv => rhs; rw [← List.map_id xs]
      exact List.map_congr_left fun x hx => renS_plain ρ (List.all_eq_true.1 h x hx)
    rw [this]
  · rfl
  · rename_i v _ h2
    unfold plainS at h
    split at h <;> first | rfl | cases h
theorem low_plain {v : Value} (h : plainC v = true) (n : Nat) : low n v = true := by
  unfold plainC at h
  split at h
  · rename_i xs
    show xs.all (lowS n) = true
    refine List.all_eq_true.2 fun x hx => ?_
    have := List.all_eq_true.1 h x hx
    unfold plainS at this
    split at this <;> first | rfl | cases this
  · rfl
  · unfold plainS at h
    split at h <;> first | rfl | cases h

def entO (e : Ent) (m : Mem) : Value × Mem := (ren (place [] m.length) e.v, m ++ e.nb.map fun b => some (renBlk (place [] m.length) b))

/-- The answer is the function's. -/
def EntIs (P : Program) (f : FuncId) (e : Ent) : Prop := ∀ m, ACall P f e.args m fun v m' => v = (entO e m).1 ∧ m' = (entO e m).2

noncomputable def entOk (T : Tab P) (O : Orc P) (lf cf n : Nat) (fn : Func) (c : Code) (e : Ent) : Bool :=
  forceL e.args fun args => match evF (runO T O lf cf n) T cf c fn.ntmps fn.results.toList args [] (fun v m' => some (gcR 0 v m')) with
  | some (v, m') => qV v e.v && eqMem m' e.nb && e.nb.all (·.rw) && e.args.all plainC
  | none => false

theorem entOk_ok {T : Tab P} {O : Orc P} {lf cf n : Nat} {f : FuncId} {fn : Func} {c : Code} {e : Ent} (hf : P.funcs[f]? = some fn) (hb : fn.body = some c) (h : entOk T O lf cf n fn c e = true) : EntIs P f e := by
  intro m
  unfold entOk at h
  rw [forceL_eq] at h
  split at h
  · rename_i v m' hev
    simp only [Bool.and_eq_true] at h
    obtain ⟨⟨⟨h1, h2⟩, h3⟩, h4⟩ := h
    have hv := qV_eq h1
    have hm := eqMem_eq h2
    have := ACall.of_run (O := O) (m := []) hf hb hev
    have hl : e.args.map (ren (place [] m.length)) = e.args := by
      conv => rhs; rw [← List.map_id e.args]
      exact List.map_congr_left fun x hx => ren_plain _ (List.all_eq_true.1 h4 x hx)
    have := ACall.frame (K := fun v' m'' => v' = v ∧ m'' = m') (this.mono fun v' m'' ⟨h1, h2⟩ => ⟨e.nb, by rw [h2, hm]; rfl, h3, h1, by rw [hm]⟩) m [] ⟨rfl, fun i b hb => by simp at hb⟩ (fun j hj => by cases hj)
      (List.all_eq_true.2 fun x hx => low_plain (List.all_eq_true.1 h4 x hx) _)
    rw [hl] at this
    refine this.mono ?_
    rintro v' m'' ⟨v0, nb, ⟨rfl, hnb⟩, rfl, rfl⟩
    have hnb' : nb = e.nb := by
      rw [hm] at hnb
      exact map_some_inj hnb
    rw [hv, hnb']
    exact ⟨rfl, rfl⟩
  · cases h

noncomputable def entsOk (T : Tab P) (O : Orc P) (lf cf n : Nat) (fn : Func) (c : Code) (l : List Ent) : Bool := l.all (entOk T O lf cf n fn c)
theorem entsOk_ok {T : Tab P} {O : Orc P} {lf cf n : Nat} {f : FuncId} {fn : Func} {c : Code} {l : List Ent} (hf : P.funcs[f]? = some fn) (hb : fn.body = some c) (h : entsOk T O lf cf n fn c l = true) : ∀ e ∈ l, EntIs P f e :=
  fun e he => entOk_ok hf hb (List.all_eq_true.1 h e he)

def findE : List Ent → List Value → Option Ent
  | [], _ => none
  | e :: l, aa => bif qL qA e.args aa then some e else findE l aa
theorem findE_some : ∀ {l : List Ent} {aa : List Value} {e : Ent}, findE l aa = some e → e ∈ l ∧ e.args = aa
  | [], _, _, h => by cases h
  | e' :: l, aa, e, h => by
    simp only [findE] at h
    cases hb : qL qA e'.args aa with
    | false =>
      rw [hb] at h
      obtain ⟨h1, h2⟩ := findE_some h
      exact ⟨List.mem_cons_of_mem _ h1, h2⟩
    | true =>
      rw [hb] at h
      simp only [cond_true, Option.some.injEq] at h
      subst h
      exact ⟨List.mem_cons_self, qL_eq qA_eq hb⟩

def tabO (tab : List Ent) (aa : List Value) (m : Mem) : Option (Value × Mem) := match findE tab aa with
  | some e => some (entO e m)
  | none => none

/-- An oracle more: the function's answers out of a list. -/
def Orc.more (O : Orc P) (f : FuncId) (tab : List Ent) (h : ∀ e ∈ tab, EntIs P f e) : Orc P where
  f n := bif Nat.beq n f then some (tabO tab) else O.f n
  ok n s hs := by
    cases hn : Nat.beq n f with
    | false => rw [hn] at hs; exact O.ok n s hs
    | true =>
      rw [hn] at hs
      simp only [cond_true, Option.some.injEq] at hs
      subst hs
      obtain rfl := Nat.eq_of_beq_eq_true hn
      intro aa m v m' hv
      unfold tabO at hv
      split at hv
      · rename_i e he
        obtain ⟨h1, rfl⟩ := findE_some he
        simp only [Option.some.injEq] at hv
        have := h e h1 m
        rw [hv] at this
        exact this
      · cases hv
end Go.AE
