/-
  An abstract logic for the model (part I): how frames and memories look, evaluated by functions. Conditions: none.
-/
import Derived.Test.YtfohjnfdgegfcaaDoorLogH
namespace Go.AE
variable {P : Program}

/-- As 'evDraw1', the closures given. -/
def evDraw1C {R : Type} (X : Ops R) (T : Tab P) (cls : List (List Nat)) (all : List Oper) (q : Nat) (a : List Value) (m : Mem) (k : List Value → Mem → R) : R :=
  X.nd (drawOk all cls q) (evQ X T all cls m 0 (all.take q) a [] fun a' sl' => forceM (m ++ sl'.map fun p => some p.2) fun m' => evOps X T all (all.drop q) a' m' k)

theorem draw_anyC {cls : List (List Nat)} {n₀ : Nat} {R : Type} {X : Ans P n₀ R} {T : Tab P} {K : Exit → List Value → Mem → Prop} {a : List Value} {m : Mem} {ops : Array Oper} {q : Nat} {k : List Value → Mem → R} (h : X.holds (evDraw1C X T cls ops.toList q a m k))
    (hk : ∀ a m, X.holds (k a m) → K .normal a m) {c : Ctx} {g₀ g : List (Option GB)} {A : Act} {W : World} (hr : Rel P c (g₀ ++ g) m W) (ha : ARel (g₀ ++ g) a A) :
    wpAny P .any ops (Post P c g₀ K) ops.size (Array.replicate ops.size false) A { W with drawn := W.drawn + 1 } := by
  obtain ⟨hd, h⟩ := X.nd_ok _ _ h
  obtain ⟨ds, a', sl', hq, h⟩ := evQ_ok _ _ _ _ _ h
  rw [forceM_eq] at h
  obtain ⟨r, hrd, e1, e2, e3, e4, e5, e6, e7⟩ := rdok_of hd hq
  have hops : ops.toList = r.all := e1.symm
  have hsz : ops.size = r.all.length := by rw [← hops]; simp
  have hrep : ∀ j, (Array.replicate ops.size false).getD j false = false := by
    intro j
    simp only [Array.getD_eq_getD_getElem?, Array.getElem?_replicate]
    split <;> rfl
  have hfr0 : r.frE (fun _ => false) = a := by
    have := RD.fr_lex hrd 0 (by omega)
    rw [hrd.fr0, e5] at this
    rw [this]
    exact r.frE_congr fun k _ => by simp
  have hslots : ∀ i b, i < r.q → (r.d i).nb = some b → r.m.length ≤ r.id i ∧ r.id i < r.m.length + (r.sl r.q).length := by
    intro i b hi hb
    have := (RD.mE_some hrd (E := fun _ => false) hi rfl hb).1
    rw [r.mE_length] at this
    exact ⟨by simp [RD.id], this⟩
  have hm0 : r.mE (fun _ => false) = m ++ (r.sl r.q).map fun _ => none := by
    unfold RD.mE
    rw [e4]; simp
  -- the numbers of the new blocks stand for nothing yet
  have hrel : Rel P c (g₀ ++ g ++ List.replicate (r.sl r.q).length none) (r.mE (fun _ => false)) { W with drawn := W.drawn + 1 } := by
    rw [hm0]
    have hr' : Rel P c (g₀ ++ g) m { W with drawn := W.drawn + 1 } := hr.drew
    have look : ∀ (j : Nat) (b : ABlk) (gb : GB), (m ++ (r.sl r.q).map fun _ => (none : Option ABlk))[j]? = some (some b) → (g₀ ++ g ++ List.replicate (r.sl r.q).length none)[j]? = some (some gb) → m[j]? = some (some b) ∧ (g₀ ++ g)[j]? = some (some gb) := by
      intro j b gb hj hgj
      rcases Nat.lt_or_ge j m.length with hl | hl
      · rw [List.getElem?_append_left hl] at hj
        rw [List.getElem?_append_left (by rw [hr.len]; exact hl)] at hgj
        exact ⟨hj, hgj⟩
      · exfalso
        rw [List.getElem?_append_right hl, List.getElem?_map] at hj
        cases hx : (r.sl r.q)[j - m.length]? <;> rw [hx] at hj <;> simp at hj
    refine ⟨by rw [List.length_append, hr.len]; simp, ?_, ?_, hr'.frame, hr'.size, hr'.os, hr'.tape, hr'.output⟩
    · intro j b gb hj hgj
      obtain ⟨hj, hgj⟩ := look j b gb hj hgj
      obtain ⟨cs, fr, hh, hf, rest⟩ := hr'.blk j b gb hj hgj
      exact ⟨cs, fr, hh, hf.imp fun _ _ h => h.app, rest⟩
    · intro p q' bp bq gp gq hne hp hq' hrw hgp hgq
      obtain ⟨hp, hgp⟩ := look p bp gp hp hgp
      obtain ⟨hq', hgq⟩ := look q' bq gq hq' hgq
      exact hr'.inj p q' bp bq gp gq hne hp hq' hrw hgp hgq
  have s0 : RSt P r c (g₀ ++ g ++ List.replicate (r.sl r.q).length none) (fun k => (Array.replicate ops.size false).getD k false) (g₀ ++ g ++ List.replicate (r.sl r.q).length none) A { W with drawn := W.drawn + 1 } := by
    have he : (fun k => (Array.replicate ops.size false).getD k false) = fun _ => false := funext hrep
    rw [he]
    refine ⟨hrel, by rw [hfr0]; exact ha.app, fun _ _ => rfl, ?_, ?_⟩
    · intro i b hi _ hb
      obtain ⟨h1, h2⟩ := hslots i b hi hb
      rw [List.getElem?_append_right (by rw [hr.len, ← e4]; exact h1), List.getElem?_replicate, if_pos (by rw [hr.len, ← e4]; omega)]
    · intro j b gb hj hgj
      rw [hm0] at hj
      rcases Nat.lt_or_ge j m.length with hl | hl
      · rw [List.getElem?_append_left hl] at hj
        rw [List.getElem?_append_left (by rw [hr.len]; exact hl)] at hgj
        obtain ⟨cs, fr, hh, hf, _⟩ := hr.blk j b gb hj hgj
        have := hf.lowS
        rw [hr.len, ← e4] at this
        exact all_lowS_le (by omega) this
      · exfalso
        rw [List.getElem?_append_right hl, List.getElem?_map] at hj
        cases hx : (r.sl r.q)[j - m.length]? <;> rw [hx] at hj <;> simp at hj
  rw [hsz]
  refine any_ok hrd hops (Q := Post P c g₀ K) ?_ r.all.length (Array.replicate r.all.length false) A _ _ (by simp) ?_ ?_ ?_ (by rw [← hsz]; exact s0)
  · intro A' W' G listed s hls hlE
    have hfull : r.frE (fun k => decide (k < r.q)) = a' := by rw [← RD.fr_lex hrd r.q (Nat.le_refl _), e3, e6]
    have hmfull : r.mE (fun k => decide (k < r.q)) = m ++ sl'.map fun p => some p.2 := by
      unfold RD.mE
      rw [e4]
      congr 1
      rw [e3, e7]
      apply List.map_congr_left
      intro p hp
      have := RD.sl_low hrd (Nat.le_refl r.q) p (by rw [e3, e7]; exact hp)
      rw [e3] at this
      simp [this]
    have hgm : g₀.length + g.length = r.m.length := by rw [← List.length_append, hr.len, e4]
    have hGl : G.length = r.m.length + (r.sl r.q).length := by rw [s.rel.len, r.mE_length]
    -- the caller's numbers stand for what they stood for
    have hG : G = g₀ ++ G.drop g₀.length := by
      apply List.ext_getElem?
      intro j
      rcases Nat.lt_or_ge j g₀.length with hl | hl
      · rw [List.getElem?_append_left hl, s.base j (by omega), List.append_assoc, List.getElem?_append_left hl]
      · rw [List.getElem?_append_right hl, List.getElem?_drop, show g₀.length + (j - g₀.length) = j from by omega]
    have hrel' := s.rel
    have hfrm' := s.frm
    rw [hfull] at hfrm'
    rw [hmfull] at hrel'
    rw [hG] at hrel' hfrm'
    have hdl : (r.all.drop r.q).length = r.all.length - r.q := by simp
    have := tail_ok (T := T) hrd (c := c) (g₀ := g₀) (K := K) hops hk (r.all.drop r.q) r.q listed A' W' a' (m ++ sl'.map fun p => some p.2) (G.drop g₀.length) (Nat.le_refl _) rfl (by rw [hdl]; have := hrd.le; omega) hls hlE
      (by rw [e1, e3]; exact h) hrel' hfrm'
    rw [hdl] at this
    exact this
  · have : cnt (fun k => (Array.replicate r.all.length false).getD k false) r.all.length = 0 := by
      rw [cnt_congr (E' := fun _ => false) fun k _ => by rw [← hsz]; exact hrep k]
      simp [cnt]
    omega
  · intro k ok hk'
    rw [← hsz, hrep] at hk'; cases hk'
  · intro k hk'
    rw [← hsz, hrep] at hk'; cases hk'

/-- No number twice. -/
def dedup : List Nat → List Nat
  | [] => []
  | x :: l => let r := dedup l
    bif r.any (Nat.beq x) then r else x :: r
def closD (all : List Oper) : List (List Nat) := all.foldl (fun acc o => acc ++ [dedup ((waits o).flatMap fun j => j :: acc.getD j [])]) []

/-- A drawn region's quiet operations; the slots laid out. -/
def evQF (P : Program) (T : Tab P) (all : List Oper) (cls : List (List Nat)) (m : Mem) : Nat → List Oper → List Value → Slots → (List Value → Slots → Prop) → Prop
  | _, [], a, sl, k => k a sl
  | i, o :: rest, a, sl, k =>
    let go (d : QD) : Prop := (match d.nb with | some b => b.rw | none => true) = true ∧ (laidF a o.dst d.v fun a => forceL (sl ++ d.nb.toList.map fun b => (i, b)) fun sl => evQF P T all cls m (i + 1) rest a sl k)
    if (o.looksAt all.toArray).all fun t => low (m.length + sl.length) (aeval a (.tmp t)) then
      match o.guard with
      | none => evOneP P T o (rhoFor (o.looksAt all.toArray) a) (memFor (cls.getD i []) m sl) go
      | some (j, want) =>
        match ((all[j]?).bind (·.dst)).bind (a[·]?) with
        | some (.bool b) => ((b == want) = true → evOneP P T o (rhoFor (o.looksAt all.toArray) a) (memFor (cls.getD i []) m sl) go) ∧ ((b == want) = false → go ⟨undef, none⟩)
        | _ => False
    else False
theorem evQF_eq (P : Program) (T : Tab P) (all : List Oper) (cls : List (List Nat)) (m : Mem) : ∀ (l : List Oper) (i : Nat) (a : List Value) (sl : Slots) (k : List Value → Slots → Prop), evQF P T all cls m i l a sl k = evQP P T all cls m i l a sl k
  | [], _, _, _, _ => rfl
  | o :: rest, i, a, sl, k => by
    have ih := evQF_eq P T all cls m rest
    unfold evQF evQP
    simp only [forceL_eq, ih]
    rfl

def evDrawF (P : Program) (n₀ : Nat) (T : Tab P) (all : List Oper) (q : Nat) (a : List Value) (m : Mem) (k : List Value → Mem → Prop) : Prop :=
  (lateOk all q && drawOk all (closD all) q) = true ∧ evQF P T all (closD all) m 0 (all.take q) a [] fun a' sl' => evOpsF (propA P n₀).toOps T all (all.drop q) a' (m ++ sl'.map fun p => some p.2) k

theorem AWp.drawF {n₀ : Nat} {T : Tab P} {a : List Value} {m : Mem} {id : Nat} {ops : Array Oper} {q : Nat} {K : Exit → List Value → Mem → Prop} (h : evDrawF P n₀ T ops.toList q a m (K .normal)) : AWp P n₀ (.region id ops true) K a m := by
  obtain ⟨h1, h⟩ := h
  rw [Bool.and_eq_true] at h1
  rw [evQF_eq] at h
  have h' : evDraw1C (propA P n₀).toOps T (closD ops.toList) ops.toList q a m (K .normal) := by
    refine ⟨h1.2, ?_⟩
    have := evQP_ok (n₀ := n₀) _ _ _ _ _ _ _ _ _ h
    simp only [forceM_eq, evOpsF_eq]
    exact this
  refine AWp.mono (K := fun e a m => e = .normal ∧ K e a m) ?_ fun _ _ _ h => h.2
  intro c g₀ g A W hn hr ha
  refine wp_region_any T.mixed ?_
  have hlate := lateOk_eq h1.1
  have hsz : (lateFix ops.toList q).toArray.size = ops.size := by simp [lateFix_length]
  refine wpAny_fix (fun c' a' w' ⟨_, _, _, ⟨e, _⟩, _⟩ => by cases e) q (by simp) ?_
  rw [hlate]
  have := draw_anyC (K := fun e a m => e = .normal ∧ K e a m) (ops := ops) (q := q) (k := K .normal) (X := propA P n₀) (T := T) (a := a) (m := m) (cls := closD ops.toList) h' (fun a m h => ⟨rfl, h⟩) hr ha
  simpa using this
/-- Code, for terms with names in them. -/
def evR (P : Program) (n₀ : Nat) (T : Tab P) : Nat → Code → List Value → Mem → (Exit → List Value → Mem → Prop) → Prop
  | 0, _, _, _, _ => False
  | n + 1, x, a, m, k =>
    match x with
    | .skip => k .normal a m
    | .ret => k .ret a m
    | .exit id => k (.exit id) a m
    | .label _ => k .normal a m
    | .goto l => k (.goto l) a m
    | .seq x y => evR P n₀ T n x a m fun e a m =>
        match e with
        | .normal => evR P n₀ T n y a m k
        | e => k e a m
    | .block id x => evR P n₀ T n x a m fun e a m =>
        match e with
        | .exit id' => if id' = id then k .normal a m else k (.exit id') a m
        | e => k e a m
    | .cond c x y =>
      match aeval a c with
      | .bool b => (b = true → evR P n₀ T n x a m k) ∧ (b = false → evR P n₀ T n y a m k)
      | _ => False
    | .region _ ops false => evOpsF (propA P n₀).toOps T ops.toList ops.toList a m (k .normal)
    | .region _ ops true => evDrawF P n₀ T ops.toList (quietLen ops.toList) a m (k .normal)
    | x => AWp P n₀ x k a m

theorem evR_ok {n₀ : Nat} {T : Tab P} : ∀ (n : Nat) (x : Code) (a : List Value) (m : Mem) (k : Exit → List Value → Mem → Prop), evR P n₀ T n x a m k → AWp P n₀ x k a m
  | 0, _, _, _, _, h => h.elim
  | n + 1, x, a, m, k, h => by
    unfold evR at h
    split at h
    · exact .skip h
    · exact .ret h
    · exact .exit h
    · exact .label h
    · exact .goto h
    · refine .seq ((evR_ok n _ a m _ h).mono ?_)
      intro e a m h
      cases e with
      | normal => exact evR_ok n _ a m k h
      | exit id => exact h
      | goto l => exact h
      | ret => exact h
      | panic ch => exact h
      | outgrown => exact h
    · rename_i id y
      refine .block ((evR_ok n _ a m _ h).mono ?_)
      intro e a m h
      cases e with
      | exit id' =>
        simp only [inBlk]
        by_cases hid : id' = id
        · simp only [if_pos hid] at h ⊢; exact h
        · simp only [if_neg hid] at h ⊢; exact h
      | normal => exact h
      | goto l => exact h
      | ret => exact h
      | panic ch => exact h
      | outgrown => exact h
    · split at h
      case h_2 => exact h.elim
      rename_i b hb
      exact .cond hb (fun e => evR_ok n _ a m k (h.1 e)) (fun e => evR_ok n _ a m k (h.2 e))
    · rw [← evOpsF_eq] at h
      exact AWp.region (X := propA P n₀) h fun a m h => h
    · exact AWp.drawF h
    · exact h

theorem ACall.of_evR {f : FuncId} {fn : Func} {code : Code} {args : List Value} {m : Mem} {K : Value → Mem → Prop} (T : Tab P) (n : Nat) (hf : P.funcs[f]? = some fn) (hb : fn.body = some code)
    (h : evR P m.length T n code (args ++ List.replicate (fn.ntmps - args.length) undef) m fun e a' m' =>
      match e with
      | .normal => ∃ v, resA T fn.results.toList a' m' = some v ∧ K v m'
      | .ret => ∃ v, resA T fn.results.toList a' m' = some v ∧ K v m'
      | _ => False) : ACall P f args m K := by
  refine .of_code (T := T) hf hb ((evR_ok n code _ m _ h).mono ?_)
  intro e a' m' h
  cases e with
  | normal => exact ⟨.inl rfl, h⟩
  | ret => exact ⟨.inr rfl, h⟩
  | exit id => exact h.elim
  | goto l => exact h.elim
  | panic ch => exact h.elim
  | outgrown => exact h.elim

/-- A loop: one round, reckoned. -/
theorem AWp.loopR {n₀ : Nat} {x : Code} {K : Exit → List Value → Mem → Prop} {a : List Value} {m : Mem} (T : Tab P) (fuel : Nat) (I : Nat → List Value → Mem → Prop) (k₀ : Nat) (h₀ : ∃ a' m', Sees n₀ a m a' m' ∧ I k₀ a' m')
    (round : ∀ k a m, I k a m → evR P n₀ T fuel x a m fun e a' m' => match e with
      | .normal => ∃ k' a'' m'', k' < k ∧ Sees n₀ a' m' a'' m'' ∧ I k' a'' m''
      | e => K e a' m') : AWp P n₀ (.loop x) K a m := by
  refine AWp.loop I k₀ h₀ fun k a m hI => ?_
  refine (evR_ok fuel x a m _ (round k a m hI)).mono ?_
  intro e a' m' h
  cases e <;> exact h
end Go.AE
