/-
  An abstract logic for the model (part 20): how frames and memories look, evaluated by functions. Conditions: none.
-/
import Derived.Test.YtfohjnfdgegfcaaDoorAe19
namespace Go.AE
variable {P : Program}

/-- Functions whose answer is known without a look into them. -/
structure Orc (P : Program) where
  f : FuncId → Option (List Value → Mem → Option (Value × Mem))
  ok : ∀ n s, f n = some s → ∀ as m v m', s as m = some (v, m') → ACall P n as m fun v' m'' => v' = v ∧ m'' = m'

/-- A memory whose blocks name low blocks alone. -/
def lowM (n : Nat) (m : Mem) : Bool := m.all fun b => match b with
  | some b => b.cells.all (lowS n)
  | none => true

/-- What a call has made and nobody names is let go. -/
def gcR (n : Nat) (v : Value) (m : Mem) : Value × Mem :=
  if !lowM n (m.take n) then (v, m) else
  if low n v then (v, m.take n) else
  match v with
  | .slice (some ⟨j, o, s⟩) l c =>
    match m[j]? with
    | some (some b) => if n ≤ j && b.cells.all (lowS n) then (.slice (some ⟨n, o, s⟩) l c, m.take n ++ [some b]) else (v, m)
    | _ => (v, m)
  | _ => (v, m)

theorem Rel.trunc {c : Ctx} {g g' : List (Option GB)} {m : Mem} {W : World} (hr : Rel P c (g ++ g') m W) (hl : lowM g.length (m.take g.length) = true) (hm : g.length ≤ m.length) : Rel P c g (m.take g.length) W := by
  have look : ∀ (j : Nat) (b : ABlk), (m.take g.length)[j]? = some (some b) → j < g.length ∧ m[j]? = some (some b) ∧ b.cells.all (lowS g.length) = true := by
    intro j b hj
    have hb := List.all_eq_true.1 hl (some b) (List.mem_of_getElem? hj)
    rw [List.getElem?_take] at hj
    split at hj
    · rename_i h; exact ⟨h, hj, hb⟩
    · cases hj
  have up : ∀ (j : Nat) (gb : GB), g[j]? = some (some gb) → (g ++ g')[j]? = some (some gb) := fun j gb h => getElem?_app h
  have htake : (g ++ g').take g.length = g := by simp
  refine ⟨by simp [hm], ?_, ?_, hr.frame, hr.size, hr.os, hr.tape, hr.output⟩
  · intro j b gb hj hg
    obtain ⟨_, hj', hb⟩ := look j b hj
    obtain ⟨cs, fr, hh, hf, rest⟩ := hr.blk j b gb hj' (up j gb hg)
    refine ⟨cs, fr, hh, ?_, rest⟩
    have := F2.low (p := lowS g.length) (S := SR g) (fun v w h hp => by have := SR.low h hp; rwa [htake] at this) hf hb
    exact this
  · intro p q bp bq gp gq hne hp hq hrw hgp hgq
    exact hr.inj p q bp bq gp gq hne (look p bp hp).2.1 (look q bq hq).2.1 hrw (up p gp hgp) (up q gq hgq)

theorem gcR_ok {c : Ctx} {g g' : List (Option GB)} {m : Mem} {W : World} {v w v2 : Value} {m2 : Mem} (he : gcR g.length v m = (v2, m2)) (hr : Rel P c (g ++ g') m W) (hv : VR (g ++ g') v w) : ∃ g2, Rel P c (g ++ g2) m2 W ∧ VR (g ++ g2) v2 w := by
  have same : (v, m) = (v2, m2) → ∃ g2, Rel P c (g ++ g2) m2 W ∧ VR (g ++ g2) v2 w := by
    intro h
    simp only [Prod.mk.injEq] at h
    obtain ⟨rfl, rfl⟩ := h
    exact ⟨g', hr, hv⟩
  have hm : g.length ≤ m.length := by rw [← hr.len]; simp
  have htake : (g ++ g').take g.length = g := by simp
  unfold gcR at he
  split at he
  · exact same he
  · rename_i hl
    replace hl : lowM g.length (m.take g.length) = true := by simpa using hl
    have ht := hr.trunc hl hm
    split at he
    · rename_i hlv
      simp only [Prod.mk.injEq] at he
      obtain ⟨rfl, rfl⟩ := he
      have := hv.low hlv
      rw [htake] at this
      exact ⟨[], by simpa using ht, by simpa using this⟩
    · split at he
      · rename_i j o s l cc he
        split at he
        · rename_i b hj
          split at he
          · rename_i hc
            simp only [Bool.and_eq_true, decide_eq_true_eq] at hc
            simp only [Prod.mk.injEq] at he
            obtain ⟨rfl, rfl⟩ := he
            cases hv with
            | a hv => cases hv with
              | s hv => cases hv with
                | slice _ _ _ _ gb hg =>
                  obtain ⟨cs, fr, hh, hf, hsz, hown, hex⟩ := hr.blk j b gb hj hg
                  have hcells : F2 (SR g) b.cells (cs.toList.take b.cells.length) := F2.low (p := lowS g.length) (S := SR g) (fun v w h hp => by have := SR.low h hp; rwa [htake] at this) hf hc.2
                  have hml : (m.take g.length).length = g.length := by simp [hm]
                  have split : ∀ (k : Nat) (bk : ABlk) (gk : GB), (m.take g.length ++ [some b])[k]? = some (some bk) → (g ++ [some gb])[k]? = some (some gk) →
                      (k < g.length ∧ (m.take g.length)[k]? = some (some bk) ∧ g[k]? = some (some gk)) ∨ (k = g.length ∧ bk = b ∧ gk = gb) := by
                    intro k bk gk hk hgk
                    rcases Nat.lt_trichotomy k g.length with h | h | h
                    · rw [List.getElem?_append_left (by rw [hml]; exact h)] at hk
                      rw [List.getElem?_append_left h] at hgk
                      exact .inl ⟨h, hk, hgk⟩
                    · subst h
                      rw [List.getElem?_append_right (by rw [hml]; exact Nat.le_refl _), hml] at hk
                      rw [List.getElem?_append_right (Nat.le_refl _)] at hgk
                      simp at hk hgk
                      exact .inr ⟨rfl, hk.symm, hgk.symm⟩
                    · rw [List.getElem?_eq_none (by simp; omega)] at hk; cases hk
                  have old : ∀ (k : Nat) (bk : ABlk) (gk : GB), (m.take g.length)[k]? = some (some bk) → g[k]? = some (some gk) → m[k]? = some (some bk) ∧ (g ++ g')[k]? = some (some gk) := by
                    intro k bk gk hk hgk
                    rw [List.getElem?_take] at hk
                    split at hk
                    · exact ⟨hk, getElem?_app hgk⟩
                    · cases hk
                  refine ⟨[some gb], ⟨by simp [hm], ?_, ?_, hr.frame, hr.size, hr.os, hr.tape, hr.output⟩, .s (.slice _ _ _ _ gb (by rw [List.getElem?_append_right (Nat.le_refl _)]; simp))⟩
                  · intro k bk gk hk hgk
                    rcases split k bk gk hk hgk with ⟨_, hk, hgk⟩ | ⟨rfl, rfl, rfl⟩
                    · obtain ⟨cs, fr, hh, hf, rest⟩ := ht.blk k bk gk hk hgk
                      exact ⟨cs, fr, hh, hf.imp fun _ _ h => h.app, rest⟩
                    · exact ⟨cs, fr, hh, hcells.imp fun _ _ h => h.app, hsz, hown, hex⟩
                  · intro p q bp bq gp gq hne hp hq hrw hgp hgq
                    rcases split p bp gp hp hgp with ⟨lp, hp2, hgp2⟩ | ⟨rfl, rfl, rfl⟩ <;> rcases split q bq gq hq hgq with ⟨lq, hq2, hgq2⟩ | ⟨eq1, eq2, eq3⟩
                    · exact ht.inj p q bp bq gp gq hne hp2 hq2 hrw hgp2 hgq2
                    · subst eq2; subst eq3
                      obtain ⟨a1, a2⟩ := old p bp gp hp2 hgp2
                      exact hr.inj p j bp bq gp gq (by omega) a1 hj hrw a2 hg
                    · obtain ⟨a1, a2⟩ := old q bq gq hq2 hgq2
                      exact hr.inj j q bp bq gp gq (by omega) hj a1 hrw hg a2
                    · exact absurd eq1.symm hne
          · exact same he
        · exact same he
      · exact same he

theorem ACall.gc {f : FuncId} {as : List Value} {m : Mem} {K : Value → Mem → Prop} (h : ACall P f as m fun v m' => K (gcR m.length v m').1 (gcR m.length v m').2) : ACall P f as m K := by
  intro c g W args' hr ha
  refine (h c g W args' hr ha).mono ?_
  rintro e W' ⟨v, v', m', g', he, hK, hr', hv⟩
  rw [← hr.len] at hK
  obtain ⟨g2, hr2, hv2⟩ := gcR_ok (he := rfl) hr' hv
  exact ⟨_, v', _, g2, he, hK, hr2, hv2⟩
end Go.AE
namespace Go.AE
variable {P : Program}

/-- A loop, round by round, as long as there is fuel. -/
def evLoop {R : Type} (X : Ops R) (T : Tab P) (fuel : Nat) (body : Code) : Nat → List Value → Mem → (Exit → List Value → Mem → R) → R
  | 0, _, _, _ => X.fl
  | n + 1, a, m, k => evC X T fuel body a m fun e a' m' =>
      match e with
      | .normal => evLoop X T fuel body n a' m' k
      | e => k e a' m'

/-- What n rounds at most come to. -/
def Rounds (P : Program) (n₀ : Nat) (body : Code) (K : Exit → List Value → Mem → Prop) : Nat → List Value → Mem → Prop
  | 0, _, _ => False
  | n + 1, a, m => AWp P n₀ body (andThen (Rounds P n₀ body K n) K) a m

theorem AWp.of_rounds {n₀ : Nat} {body : Code} {K : Exit → List Value → Mem → Prop} {n : Nat} {a : List Value} {m : Mem} (h : Rounds P n₀ body K n a m) : AWp P n₀ (.loop body) K a m := by
  refine AWp.loop_rounds n (fun k a m => Rounds P n₀ body K k a m) h ?_
  intro k a m hI
  cases k with
  | zero => exact hI.elim
  | succ k =>
    refine AWp.mono hI ?_
    intro e a' m' h
    cases e with
    | normal => exact ⟨k, by omega, h⟩
    | exit id => exact h
    | goto l => exact h
    | ret => exact h
    | panic ch => exact h
    | outgrown => exact h

theorem evLoop_ok {n₀ : Nat} {R : Type} {X : Ans P n₀ R} {T : Tab P} {fuel : Nat} {body : Code} {k : Exit → List Value → Mem → R} : ∀ (n : Nat) (a : List Value) (m : Mem), X.holds (evLoop X T fuel body n a m k) → Rounds P n₀ body (fun e a m => X.holds (k e a m)) n a m
  | 0, _, _, h => absurd h X.fl_ok
  | n + 1, a, m, h => by
    refine (evC_ok fuel body a m _ h).mono ?_
    intro e a' m' h
    cases e with
    | normal => exact evLoop_ok n a' m' h
    | exit id => exact h
    | goto l => exact h
    | ret => exact h
    | panic ch => exact h
    | outgrown => exact h

abbrev RV := Option (Value × Mem)

/-- The machine that reckons outright: 'lf': rounds of a loop; 'cf': depth of code; the last: depth of calls. -/
def runO (T : Tab P) (O : Orc P) (lf cf : Nat) : Nat → Ops RV
  | 0 => { br _ _ _ := none, nd _ _ := none, fl := none, ld _ _ := none, call _ _ _ _ := none, code _ _ _ _ := none, pcall _ _ _ _ := none }
  | n + 1 =>
    { br c t e := bif c then t else e
      nd c r := bif c then r else none
      fl := none
      ld o k := match o with
        | some v => k v
        | none => none
      call f as m k := match O.f f with
        | some s => match s as m with
          | some (v, m') => forceV v fun v => forceM m' fun m' => k v m'
          | none => none
        | none => match P.funcs[f]? with
          | some fn => match fn.body with
            | some c => evF (runO T O lf cf n) T cf c fn.ntmps fn.results.toList as m fun v m' =>
                match gcR m.length v m' with
                | (v, m') => forceV v fun v => forceM m' fun m' => k v m'
            | none => none
          | none => none
      code x a m k := match x with
        | .loop b => evLoop (runO T O lf cf n) T cf b lf a m k
        | .scope c => evJumps (runO T O lf cf n) T cf c lf c a m k
        | _ => none
      pcall f as m k := match (match O.f f with
        | some s => s as m
        | none => match P.funcs[f]? with
          | some fn => match fn.body with
            | some c => evF (runO T O lf cf n) T cf c fn.ntmps fn.results.toList as m fun v m' => some (gcR m.length v m')
            | none => none
          | none => none) with
        | some (v, m') => bif Nat.ble m.length m'.length then match m'.drop m.length with
          | [] => k v none
          | [some b] => k v (some b)
          | _ => none else none
        | none => none }

theorem runA (T : Tab P) (O : Orc P) (lf cf : Nat) : ∀ (n : Nat) (tgt : Value × Mem) (n₀ : Nat), ∃ X : Ans P n₀ RV, X.toOps = runO T O lf cf n ∧ ∀ r, X.holds r ↔ r = some tgt
  | 0, tgt, n₀ => ⟨{ toOps := runO T O lf cf 0, holds := fun r => r = some tgt, br_ok := fun _ _ _ h => (by cases h), nd_ok := fun _ _ h => (by cases h), fl_ok := fun h => (by cases h), ld_ok := fun _ _ h => (by cases h), call_ok := fun _ _ _ _ h => (by cases h), code_ok := fun _ _ _ _ h => (by cases h), pcall_ok := fun _ _ _ _ h => (by cases h) }, rfl, fun _ => Iff.rfl⟩
  | n + 1, tgt, n₀ => by
    have ih := runA T O lf cf n
    have run : ∀ (f : FuncId) (as : List Value) (m : Mem) (fn : Func) (c : Code) (k : Value → Mem → RV) (tgt : Value × Mem), P.funcs[f]? = some fn → fn.body = some c → evF (runO T O lf cf n) T cf c fn.ntmps fn.results.toList as m k = some tgt →
        ACall P f as m fun v m' => k v m' = some tgt := by
      intro f as m fn c k tgt hf hb h
      obtain ⟨X, hX, hh⟩ := ih tgt m.length
      have := ACall.of_ev X T cf (k := k) hf hb (by rw [hX, hh]; exact h)
      exact this.mono fun v m' h => (hh _).1 h
    refine ⟨{ toOps := runO T O lf cf (n + 1), holds := fun r => r = some tgt, br_ok := ?_, nd_ok := ?_, fl_ok := fun h => (by cases h), ld_ok := ?_, call_ok := ?_, code_ok := ?_, pcall_ok := ?_ }, rfl, fun _ => Iff.rfl⟩
    · intro c t e h
      cases c with
      | true => exact ⟨fun _ => h, fun h => (by cases h)⟩
      | false => exact ⟨fun h => (by cases h), fun _ => h⟩
    · intro c r h
      cases c with
      | true => exact ⟨rfl, h⟩
      | false => cases h
    · intro o k h
      cases o with
      | none => cases h
      | some v => exact ⟨v, rfl, h⟩
    · intro f as m k h
      simp only [runO] at h
      split at h
      · rename_i s hs
        split at h
        · rename_i v m' hsv
          simp only [forceV_eq, forceM_eq] at h
          exact (O.ok f s hs as m v m' hsv).mono fun v' m'' ⟨h1, h2⟩ => by rw [h1, h2]; exact h
        · cases h
      · split at h
        · rename_i fn hf
          split at h
          · rename_i c hb
            have := run f as m fn c _ tgt hf hb h
            refine ACall.gc (this.mono fun v m' h => ?_)
            simp only [forceV_eq, forceM_eq] at h
            exact h
          · cases h
        · cases h
    · intro x a m k h
      simp only [runO] at h
      split at h
      · rename_i b
        obtain ⟨X, hX, hh⟩ := ih tgt n₀
        rw [← hX] at h
        have := evLoop_ok (X := X) (T := T) (k := k) lf a m ((hh _).2 h)
        refine (AWp.of_rounds this).mono fun e a m h => (hh _).1 h
      · rename_i c
        obtain ⟨X, hX, hh⟩ := ih tgt n₀
        rw [← hX] at h
        have := evJumps_ok (X := X) (T := T) (k := k) lf c a m ((hh _).2 h)
        refine (AWp.scope this).mono fun e a m h => (hh _).1 h
      · cases h
    · intro f as m k h
      simp only [runO] at h
      split at h
      · rename_i v m' hev
        have hc : ACall P f as m fun v' m'' => v' = v ∧ m'' = m' := by
          split at hev
          · rename_i s hs
            exact O.ok f s hs as m v m' hev
          · split at hev
            · rename_i fn hf
              split at hev
              · rename_i c hb
                have := run f as m fn c _ (v, m') hf hb hev
                refine ACall.gc (this.mono fun v1 m1 h => ?_)
                simp only [Option.some.injEq] at h
                rw [h]; exact ⟨rfl, rfl⟩
              · cases hev
            · cases hev
        cases hle : Nat.ble m.length m'.length with
        | false => rw [hle] at h; cases h
        | true =>
          have hle' := Nat.le_of_ble_eq_true hle
          rw [hle] at h
          simp only [cond_true] at h
          split at h
          · rename_i hd
            exact ⟨v, none, hc.mono fun v' m'' ⟨h1, h2⟩ => ⟨h1, by rw [h2]; exact hle', by rw [h2, hd]; rfl⟩, h⟩
          · rename_i b hd
            exact ⟨v, some b, hc.mono fun v' m'' ⟨h1, h2⟩ => ⟨h1, by rw [h2]; exact hle', by rw [h2, hd]; rfl⟩, h⟩
          · cases h
      · cases h

/-- A function reckoned outright. -/
theorem ACall.of_run {T : Tab P} {O : Orc P} {lf cf n : Nat} {f : FuncId} {fn : Func} {code : Code} {args : List Value} {m : Mem} {v : Value} {m' : Mem} (hf : P.funcs[f]? = some fn) (hb : fn.body = some code)
    (h : evF (runO T O lf cf n) T cf code fn.ntmps fn.results.toList args m (fun v m' => some (gcR m.length v m')) = some (v, m')) : ACall P f args m fun v' m'' => v' = v ∧ m'' = m' := by
  obtain ⟨X, hX, hh⟩ := runA T O lf cf n (v, m') m.length
  have := ACall.of_ev X T cf (k := fun v m' => some (gcR m.length v m')) hf hb (by rw [hX, hh]; exact h)
  refine ACall.gc (this.mono fun v1 m1 h => ?_)
  have h := (hh _).1 h
  simp only [Option.some.injEq] at h
  rw [h]; exact ⟨rfl, rfl⟩
end Go.AE
