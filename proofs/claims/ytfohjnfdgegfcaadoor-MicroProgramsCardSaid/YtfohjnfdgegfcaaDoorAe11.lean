/-
  An abstract logic for the model (part 11): how frames and memories look, evaluated by functions. Conditions: none.
-/
import Derived.Test.YtfohjnfdgegfcaaDoorAe10
namespace Go.AE
variable {P : Program}

/-- A result stored. -/
def putA (a : List Value) (dst : Option Tmp) (v : Value) : List Value :=
  match dst with
  | some d => a.set d v
  | none => a

/-- A list, a value, a memory, laid out before they are handed on. -/
def forceL {α R : Type} : List α → (List α → R) → R
  | [], k => k []
  | x :: xs, k => forceL xs fun ys => k (x :: ys)
theorem forceL_eq {α R : Type} : ∀ (l : List α) (k : List α → R), forceL l k = k l
  | [], _ => rfl
  | x :: xs, k => forceL_eq xs fun ys => k (x :: ys)
def forceV {R : Type} (v : Value) (k : Value → R) : R :=
  match v with
  | .bool b => k (.bool b)
  | .int i n => k (.int i n)
  | .string s => k (.string s)
  | .pointer none => k (.pointer none)
  | .pointer (some ⟨b, o, s⟩) => k (.pointer (some ⟨b, o, s⟩))
  | .slice none n c => k (.slice none n c)
  | .slice (some ⟨b, o, s⟩) n c => k (.slice (some ⟨b, o, s⟩) n c)
  | .agg ⟨l⟩ => forceL l fun l => k (.agg ⟨l⟩)
  | .tuple ⟨l⟩ => forceL l fun l => k (.tuple ⟨l⟩)
  | v => k v
theorem forceV_eq {R : Type} (v : Value) (k : Value → R) : forceV v k = k v := by
  unfold forceV
  split <;> first | rfl | exact forceL_eq _ _
def forceM {R : Type} : Mem → (Mem → R) → R
  | [], k => k []
  | none :: m, k => forceM m fun m' => k (none :: m')
  | some ⟨c, e, r, x⟩ :: m, k => forceM m fun m' => k (some ⟨c, e, r, x⟩ :: m')
theorem forceM_eq {R : Type} : ∀ (m : Mem) (k : Mem → R), forceM m k = k m
  | [], _ => rfl
  | none :: m, k => forceM_eq m fun m' => k (none :: m')
  | some ⟨_, _, _, _⟩ :: m, k => forceM_eq m fun m' => k (some _ :: m')
/-- What follows an operation. -/
def laid {R : Type} (a : List Value) (dst : Option Tmp) (v : Value) (m : Mem) (k : List Value → Mem → R) : R :=
  forceV v fun v => k (putA a dst v) m
theorem laid_eq {R : Type} (a : List Value) (dst : Option Tmp) (v : Value) (m : Mem) (k : List Value → Mem → R) : laid a dst v m k = k (putA a dst v) m := by
  unfold laid
  rw [forceV_eq]

/-- The operations of a region, in the order of the text. -/
def evOps {R : Type} (X : Ops R) (T : Tab P) (all : List Oper) : List Oper → List Value → Mem → (List Value → Mem → R) → R
  | [], a, m, k => forceL a fun a => forceM m fun m => k a m
  | o :: rest, a, m, k =>
    match o.guard with
    | none => evOp X T o.op (aeval a) m fun v m' => laid a o.dst v m' fun a m => evOps X T all rest a m k
    | some (j, want) =>
      match ((all[j]?).bind (·.dst)).bind (a[·]?) with
      | some (.bool b) => X.br (b == want) (evOp X T o.op (aeval a) m fun v m' => laid a o.dst v m' fun a m => evOps X T all rest a m k) (laid a o.dst undef m fun a m => evOps X T all rest a m k)
      | some (.tuple _) => laid a o.dst undef m fun a m => evOps X T all rest a m k
      | _ => X.fl

theorem ARel.putA {g : List (Option GB)} {a : List Value} {A : Act} (h : ARel g a A) (dst : Option Tmp) {v w : Value} (hv : VR g v w) : ARel g (putA a dst v) (A.put dst w) := by
  cases dst with
  | none => exact h
  | some d => exact ⟨by simpa [Act.put, AE.putA] using h.tmps.set d hv, h.defers⟩

theorem OpDone.upon {c : Ctx} {g₀ g : List (Option GB)} {o : Oper} {a : List Value} {A : Act} {N : List Value → Mem → Prop} {next : Act → World → Prop} {Q : Exit → Act → World → Prop} {r : Result Next}
    (h : OpDone P c g₀ g (fun v m' => N (putA a o.dst v) m') r) (ha : ARel (g₀ ++ g) a A)
    (hn : ∀ a' m' g' A' W', N a' m' → Rel P c (g₀ ++ g') m' W' → ARel (g₀ ++ g') a' A' → next A' W') : o.upon P A next Q r := by
  unfold OpDone at h
  have app : ∀ g', ARel (g₀ ++ (g ++ g')) a A := fun g' => by rw [← List.append_assoc]; exact ha.app
  split at h
  · obtain ⟨v, m', g', hN, hr, hv⟩ := h
    exact hn _ _ _ _ _ hN hr ((app g').putA o.dst hv)
  · obtain ⟨m', g', hN, hr⟩ := h
    exact hn _ _ _ _ _ hN hr ((app g').putA o.dst (.undef _))
  · simp only [Oper.upon]
    refine h.mono ?_
    rintro e W'' ⟨v, w, m', g', rfl, hN, hr, hv⟩
    exact hn _ _ _ _ _ hN hr ((app g').putA o.dst hv)
  · exact h.elim

/-- The first of a row of operations. -/
theorem evOps_head {n₀ : Nat} {R : Type} {X : Ans P n₀ R} {T : Tab P} {all : List Oper} {c : Ctx} {g₀ : List (Option GB)} {Q : Exit → Act → World → Prop} {o : Oper} {rest : List Oper} {a : List Value} {m : Mem} {k : List Value → Mem → R}
    (h : X.holds (evOps X T all (o :: rest) a m k)) {g : List (Option GB)} {A : Act} {W : World} (hr : Rel P c (g₀ ++ g) m W) (ha : ARel (g₀ ++ g) a A) {K : Act → World → Prop}
    (hK : ∀ a' m' g' A' W', X.holds (evOps X T all rest a' m' k) → Rel P c (g₀ ++ g') m' W' → ARel (g₀ ++ g') a' A' → K A' W') :
    if Region.wanted o (yielded all.toArray A.tmps) then o.wp P A W K Q else K (A.put o.dst undef) W := by
  have main : X.holds (evOp X T o.op (aeval a) m fun v m' => laid a o.dst v m' fun a m => evOps X T all rest a m k) → o.wp P A W K Q := by
    intro h
    simp only [laid_eq] at h
    have := evOp_ok (o := o) h hr (fun x => ha.eval x)
    exact OpDone.upon (N := fun a' m' => X.holds (evOps X T all rest a' m' k)) this ha hK
  unfold evOps at h
  split at h
  · rename_i hg
    rw [if_pos (by simp [Region.wanted, hg])]
    exact main h
  · rename_i j want hg
    split at h
    case h_3 => exact absurd h X.fl_ok
    case h_2 =>
      rename_i xs hb
      rw [laid_eq] at h
      have hy : yielded all.toArray A.tmps j = none := by
        unfold yielded
        cases ho : all[j]? with
        | none => rw [ho] at hb; simp at hb
        | some oj =>
          rw [ho] at hb
          simp only [Option.bind_some] at hb
          cases hd : oj.dst with
          | none => rw [hd] at hb; simp at hb
          | some d =>
            rw [hd] at hb
            simp only [Option.bind_some] at hb
            obtain ⟨w, hw, hvw⟩ := ha.tmps.get d _ hb
            have hw' : A.tmps[d]? = some w := by rw [← Array.getElem?_toList]; exact hw
            have ho' : all.toArray[j]? = some oj := by simpa using ho
            rw [ho']
            cases hvw with
            | a hvw => cases hvw with
              | s hvw => cases hvw
            | tup _ => simp [hd, hw']
      rw [if_neg (by simp [Region.wanted, hg, hy])]
      exact hK _ _ _ _ _ h hr (ha.putA o.dst (.undef _))
    rename_i b hb
    obtain ⟨h1, h2⟩ := X.br_ok _ _ _ h
    rw [laid_eq] at h2
    have hy : yielded all.toArray A.tmps j = some b := by
      unfold yielded
      cases ho : all[j]? with
      | none => rw [ho] at hb; simp at hb
      | some oj =>
        rw [ho] at hb
        simp only [Option.bind_some] at hb
        cases hd : oj.dst with
        | none => rw [hd] at hb; simp at hb
        | some d =>
          rw [hd] at hb
          simp only [Option.bind_some] at hb
          obtain ⟨w, hw, hvw⟩ := ha.tmps.get d _ hb
          obtain rfl := SR.inv_bool hvw
          have hw' : A.tmps[d]? = some (.bool b) := by rw [← Array.getElem?_toList]; exact hw
          have ho' : all.toArray[j]? = some oj := by simpa using ho
          rw [ho']
          simp [hd, hw']
    by_cases hbw : b = want
    · subst hbw
      rw [if_pos (by simp [Region.wanted, hg, hy])]
      exact main (h1 (by simp))
    · rw [if_neg (by simp [Region.wanted, hg, hy, hbw])]
      exact hK _ _ _ _ _ (h2 (by simpa using hbw)) hr (ha.putA o.dst (.undef _))

theorem evOps_ok {n₀ : Nat} {R : Type} {X : Ans P n₀ R} {T : Tab P} {all : List Oper} {c : Ctx} {g₀ : List (Option GB)} {K : Exit → List Value → Mem → Prop} : ∀ (l : List Oper) (a : List Value) (m : Mem) (k : List Value → Mem → R),
    X.holds (evOps X T all l a m k) → (∀ a m, X.holds (k a m) → K .normal a m) → ∀ (g : List (Option GB)) (A : Act) (W : World), Rel P c (g₀ ++ g) m W → ARel (g₀ ++ g) a A → wpList P all.toArray (Post P c g₀ K) l A W
  | [], a, m, _, h, hk, g, _, _, hr, ha => by
    simp only [evOps, forceL_eq, forceM_eq] at h
    exact ⟨a, m, g, hk _ _ h, hr, ha⟩
  | _ :: rest, _, _, k, h, hk, _, _, _, hr, ha =>
    wpList_step fun _ hK' => evOps_head h hr ha fun a' m' g' A' W' hN hr' ha' => hK' _ _ (evOps_ok rest a' m' k hN hk g' A' W' hr' ha')

/-- The propositions themselves. -/
def propA (P : Program) (n₀ : Nat) : Ans P n₀ Prop where
  holds p := p
  br c t e := (c = true → t) ∧ (c = false → e)
  nd c r := c = true ∧ r
  fl := False
  ld o k := ∃ v, o = some v ∧ k v
  call f as m k := ACall P f as m k
  code x a m k := AWp P n₀ x k a m
  pcall f as m k := ∃ v nb, ACall P f as m (fun v' m' => v' = v ∧ m' = m ++ nb.toList.map some) ∧ k v nb
  br_ok _ _ _ h := h
  nd_ok _ _ h := h
  fl_ok h := h
  ld_ok _ _ h := h
  call_ok _ _ _ _ h := h
  code_ok _ _ _ _ h := h
  pcall_ok f as m k h := by
    obtain ⟨v, nb, hc, hk⟩ := h
    exact ⟨v, nb, hc.mono fun v' m' ⟨h1, h2⟩ => ⟨h1, by rw [h2]; simp, by rw [h2]; simp⟩, hk⟩
end Go.AE
