/-
  An abstract logic for the model (part D): how frames and memories look, evaluated by functions. Conditions: none.
-/
import Derived.Test.YtfohjnfdgegfcaaDoorLogC
namespace Go.AE
variable {P : Program}

/-- Whether a region's operations may be seen so: the first q quiet, the others one behind the other. -/
def drawOk (all : List Oper) (cls : List (List Nat)) (q : Nat) : Bool :=
  decide (q ≤ all.length) &&
  ((List.range all.length).all fun i => match all[i]? with
    | some o => ((waits o).all fun j => decide (j < i)) && ((cls.getD i []).all fun x => (waits o).contains x || (waits o).any fun j => (cls.getD j []).contains x) && (decide (i < q) || (List.range i).all fun j => (cls.getD i []).contains j)
    | none => true) &&
  ((List.range q).all fun i => (List.range q).all fun k => i == k ||
    match all[i]?, all[k]? with
    | some oi, some ok =>
      match ok.dst with
      | some t => oi.dst != some t && (!(oi.looksAt all.toArray).contains t || (decide (k < i) && (waits oi).contains k) || (decide (i < k) && (waits ok).contains i))
      | none => true
    | _, _ => true)

/-- From the derivation to the data. -/
theorem Qts.data {all : List Oper} {cls : List (List Nat)} {m : Mem} : ∀ {i : Nat} {l : List Oper} {a a' : List Value} {sl sl' : Slots} {ds : List QD}, Qts P all cls m i l a sl ds a' sl' →
    ∃ (fr : Nat → List Value) (sls : Nat → Slots) (d : Nat → QD), fr i = a ∧ sls i = sl ∧ fr (i + l.length) = a' ∧ sls (i + l.length) = sl' ∧
      ∀ k o, l[k]? = some o → (∀ b, (d (i + k)).nb = some b → b.rw = true) ∧ QtOK P all (cls.getD (i + k) []) m o (fr (i + k)) (sls (i + k)) (d (i + k)) ∧ fr (i + k + 1) = putA (fr (i + k)) o.dst (d (i + k)).v ∧
        sls (i + k + 1) = sls (i + k) ++ (d (i + k)).nb.toList.map fun b => (i + k, b) := by
  intro i l a a' sl sl' ds h
  induction h with
  | nil i a sl => exact ⟨fun _ => a, fun _ => sl, fun _ => ⟨undef, none⟩, rfl, rfl, rfl, rfl, fun k o h => by simp at h⟩
  | @cons i o rest a a' sl sl' d ds hrw hq _ ih =>
    obtain ⟨fr, sls, dd, h1, h2, h3, h4, h5⟩ := ih
    refine ⟨fun k => if k = i then a else fr k, fun k => if k = i then sl else sls k, fun k => if k = i then d else dd k, by simp, by simp, ?_, ?_, ?_⟩
    · have : i + (o :: rest).length ≠ i := by simp
      show (if i + (o :: rest).length = i then a else fr (i + (o :: rest).length)) = a'
      rw [if_neg this, ← h3]; simp [Nat.add_assoc, Nat.add_comm 1]
    · have : i + (o :: rest).length ≠ i := by simp
      show (if i + (o :: rest).length = i then sl else sls (i + (o :: rest).length)) = sl'
      rw [if_neg this, ← h4]; simp [Nat.add_assoc, Nat.add_comm 1]
    · intro k o' hk
      cases k with
      | zero =>
        simp only [List.getElem?_cons_zero, Option.some.injEq] at hk
        subst hk
        simp only [Nat.add_zero, if_true]
        refine ⟨hrw, hq, ?_, ?_⟩
        · rw [if_neg (by omega), h1]
        · rw [if_neg (by omega), h2]
      | succ k =>
        simp only [List.getElem?_cons_succ] at hk
        have := h5 k o' hk
        rw [show i + (k + 1) = i + 1 + k from by omega]
        have n1 : i + 1 + k ≠ i := by omega
        have n2 : i + 1 + k + 1 ≠ i := by omega
        simp only [if_neg n1, if_neg n2]
        exact this

theorem all_range {n : Nat} {p : Nat → Bool} (h : (List.range n).all p = true) {i : Nat} (hi : i < n) : p i = true := List.all_eq_true.1 h i (List.mem_range.2 hi)

theorem rdok_of {all : List Oper} {cls : List (List Nat)} {q : Nat} {m : Mem} {a a' : List Value} {sl' : Slots} {ds : List QD} (hd : drawOk all cls q = true) (hq : Qts P all cls m 0 (all.take q) a [] ds a' sl') :
    ∃ r : RD, RDOK P r ∧ r.all = all ∧ r.cls = cls ∧ r.q = q ∧ r.m = m ∧ r.a = a ∧ r.fr q = a' ∧ r.sl q = sl' := by
  obtain ⟨fr, sls, d, h1, h2, h3, h4, h5⟩ := hq.data
  simp only [drawOk, Bool.and_eq_true, decide_eq_true_eq] at hd
  obtain ⟨⟨hle, hord⟩, hsl⟩ := hd
  have htl : (all.take q).length = q := by simp [hle]
  rw [htl, Nat.zero_add] at h3 h4
  refine ⟨⟨all, cls, q, m, a, fr, sls, d⟩, ⟨hle, h1, h2, ?_, ?_, ?_, ?_, ?_, ?_⟩, rfl, rfl, rfl, rfl, rfl, h3, h4⟩
  · intro i o hi ho
    have := h5 i o (by rw [List.getElem?_take, if_pos hi]; exact ho)
    simpa using this
  · intro i o ho j hj
    have := all_range hord (lt_of_getElem? ho)
    simp only at ho
    rw [ho] at this
    simp only [Bool.and_eq_true] at this
    simpa using List.all_eq_true.1 this.1.1 j hj
  · intro i o ho x hx
    have := all_range hord (lt_of_getElem? ho)
    simp only at ho hx
    rw [ho] at this
    simp only [Bool.and_eq_true] at this
    have := List.all_eq_true.1 this.1.2 x hx
    simp only [Bool.or_eq_true, List.any_eq_true] at this
    rcases this with h | ⟨j, hj, h⟩
    · exact .inl (contains_iff.1 h)
    · exact .inr ⟨j, hj, contains_iff.1 h⟩
  · intro i j hqi hi hji
    have := all_range hord hi
    simp only at hi hqi
    rw [List.getElem?_eq_getElem hi] at this
    simp only [Bool.and_eq_true, Bool.or_eq_true, decide_eq_true_eq] at this
    rcases this.2 with h | h
    · omega
    · exact contains_iff.1 (all_range h hji)
  · intro i k t hi hk hik hdk
    have := all_range (all_range hsl hi) hk
    simp only at hi hk
    have hil : i < all.length := by omega
    have hkl : k < all.length := by omega
    simp only [RD.dst, List.getElem?_eq_getElem hil, List.getElem?_eq_getElem hkl, Option.bind_some] at hdk ⊢
    rw [List.getElem?_eq_getElem hil, List.getElem?_eq_getElem hkl] at this
    simp only [hdk, Bool.or_eq_true, beq_iff_eq, Bool.and_eq_true, bne_iff_ne] at this
    rcases this with h | h
    · exact absurd h hik
    · exact h.1
  · intro i k oi ok t hi hk hik hoi hok hdk ht
    have := all_range (all_range hsl hi) hk
    simp only at hoi hok ht
    rw [hoi, hok] at this
    simp only [hdk, Bool.or_eq_true, beq_iff_eq, Bool.and_eq_true, bne_iff_ne, Bool.not_eq_true', decide_eq_true_eq] at this
    rcases this with h | ⟨_, h⟩
    · exact absurd h hik
    · rcases h with (h | ⟨h, h'⟩) | ⟨h, h'⟩
      · have := contains_iff.2 ht
        rw [h] at this; cases this
      · exact .inl ⟨h, contains_iff.1 h'⟩
      · exact .inr ⟨h, contains_iff.1 h'⟩

variable {r : RD} {G₀ : List (Option GB)}

/-- The operations behind the quiet ones come up one behind the other. -/
theorem tail_ok {n₀ : Nat} {R : Type} {X : Ans P n₀ R} {T : Tab P} (h : RDOK P r) {c : Ctx} {g₀ : List (Option GB)} {K : Exit → List Value → Mem → Prop} {ops : Array Oper} (hops : ops.toList = r.all) {k : List Value → Mem → R} (hk : ∀ a m, X.holds (k a m) → K .normal a m) :
    ∀ (l : List Oper) (t : Nat) (listed : Array Bool) (A : Act) (W : World) (a : List Value) (m : Mem) (g : List (Option GB)), r.q ≤ t → l = r.all.drop t → t + l.length = r.all.length → listed.size = r.all.length → (∀ j, j < r.all.length → listed.getD j false = decide (j < t)) →
      X.holds (evOps X T r.all l a m k) → Rel P c (g₀ ++ g) m W → ARel (g₀ ++ g) a A → wpAny P .any ops (Post P c g₀ K) l.length listed A W
  | [], t, listed, A, W, a, m, g, ht, hl, htl, hsz, hE, hh, hr, ha => by
    simp only [evOps, forceL_eq, forceM_eq] at hh
    refine ⟨?_, a, m, g, hk _ _ hh, hr, ha⟩
    cases hre : Region.ready .any ops listed with
    | nil => rfl
    | cons i rest =>
      exfalso
      obtain ⟨h1, h2, _⟩ := (ready_iff hops hsz).1 (by rw [hre]; exact List.mem_cons_self)
      rw [hE i h1] at h2
      simp at htl h2; omega
  | o :: rest, t, listed, A, W, a, m, g, ht, hl, htl, hsz, hE, hh, hr, ha => by
    simp only [List.length_cons] at htl
    have htlt : t < r.all.length := by omega
    have ho : r.all[t]? = some o := by
      have := congrArg (fun l => l[0]?) hl
      simp at this
      exact this.symm
    have hEt : listed.getD t false = false := by rw [hE t htlt]; simp
    refine ⟨fun hempty => absurd hempty (ready_some h hops hsz htlt hEt), fun i hi => ?_⟩
    obtain ⟨hin, hEi, oi, hoi, hw⟩ := (ready_iff hops hsz).1 hi
    have hit : i = t := by
      rw [hE i hin] at hEi
      have hge : t ≤ i := by simpa using hEi
      rcases Nat.lt_or_ge t i with hlt | hle
      · exfalso
        have hclosed : ∀ k ok, listed.getD k false = true → r.all[k]? = some ok → ∀ j ∈ waits ok, listed.getD j false = true := by
          intro k ok hk' hok j hj
          have hkl := lt_of_getElem? hok
          have := h.early k ok hok j hj
          rw [hE k hkl] at hk'
          rw [hE j (by omega)]
          simp at hk' ⊢; omega
        have := cl_sub h (E := fun k => listed.getD k false) hclosed (i + 1) i oi (by omega) hoi hw t (h.tail i t (by omega) hin hlt)
        rw [hEt] at this; cases this
      · omega
    subst hit
    have hops' : ops[i]? = some o := by rw [← ho, ← hops]; simp
    have hset : ∀ k, (listed.setIfInBounds i true).getD k false = (listed.getD k false || k == i) := fun k => getD_set (by rw [hsz]; exact hin)
    have hall : ops = r.all.toArray := by rw [← hops]
    have := evOps_head (c := c) (g₀ := g₀) (Q := Post P c g₀ K) hh hr ha (K := wpAny P .any ops (Post P c g₀ K) rest.length (listed.setIfInBounds i true)) fun a' m' g' A' W' hN hr' ha' =>
      tail_ok h hops hk rest (i + 1) (listed.setIfInBounds i true) A' W' a' m' g' (by omega) (by
        have := congrArg List.tail hl
        simp only [List.tail_cons, List.tail_drop] at this
        exact this) (by omega) (by simp [hsz]) (fun j hj => by
          rw [hset, hE j hj]
          by_cases e : j = i
          · subst e; simp
          · have : (j == i) = false := by simpa using e
            rw [this, Bool.or_false]
            by_cases h1 : j < i
            · simp [h1]; omega
            · have : ¬ j < i + 1 := by omega
              simp [h1, this]) hN hr' ha'
    unfold wpOp
    rw [hops']
    simp only
    rw [← hall] at this
    split
    · rename_i hwn; rw [if_pos hwn] at this; exact .inl this
    · rename_i hwn; rw [if_neg hwn] at this; exact this

/-- Evaluation of a region that draws its order. -/
def evDraw1 {R : Type} (X : Ops R) (T : Tab P) (all : List Oper) (q : Nat) (a : List Value) (m : Mem) (k : List Value → Mem → R) : R :=
  X.nd (drawOk all (closures all) q) (evQ X T all (closures all) m 0 (all.take q) a [] fun a' sl' => forceM (m ++ sl'.map fun p => some p.2) fun m' => evOps X T all (all.drop q) a' m' k)

theorem draw_any {n₀ : Nat} {R : Type} {X : Ans P n₀ R} {T : Tab P} {K : Exit → List Value → Mem → Prop} {a : List Value} {m : Mem} {ops : Array Oper} {q : Nat} {k : List Value → Mem → R} (h : X.holds (evDraw1 X T ops.toList q a m k))
    (hk : ∀ a m, X.holds (k a m) → K .normal a m) {c : Ctx} {g₀ g : List (Option GB)} {A : Act} {W : World} (hr : Rel P c (g₀ ++ g) m W) (ha : ARel (g₀ ++ g) a A) :
    wpAny P .any ops (Post P c g₀ K) ops.size (Array.replicate ops.size false) A { W with drawn := W.drawn + 1 } := by
  obtain ⟨hd, h⟩ := X.nd_ok _ _ h
  obtain ⟨ds, a', sl', hq, h⟩ := evQ_ok _ _ _ _ _ h
  rw [forceM_eq] at h
  obtain ⟨r, hrd, e1, e2, e3, e4, e5, e6, e7⟩ := rdok_of hd hq
  have hops : ops.toList = r.all := e1.symm
  have hsz : ops.size = r.all.length := by rw [← hops]; simp
  have hrep : ∀ j, (Array.replicate ops.size false).getD j false = false := by
    intro j
    simp only [Array.getD_eq_getD_getElem?, Array.getElem?_replicate]
    split <;> rfl
  have hfr0 : r.frE (fun _ => false) = a := by
    have := RD.fr_lex hrd 0 (by omega)
    rw [hrd.fr0, e5] at this
    rw [this]
    exact r.frE_congr fun k _ => by simp
  have hslots : ∀ i b, i < r.q → (r.d i).nb = some b → r.m.length ≤ r.id i ∧ r.id i < r.m.length + (r.sl r.q).length := by
    intro i b hi hb
    have := (RD.mE_some hrd (E := fun _ => false) hi rfl hb).1
    rw [r.mE_length] at this
    exact ⟨by simp [RD.id], this⟩
  have hm0 : r.mE (fun _ => false) = m ++ (r.sl r.q).map fun _ => none := by
    unfold RD.mE
    rw [e4]; simp
  -- the numbers of the new blocks stand for nothing yet
  have hrel : Rel P c (g₀ ++ g ++ List.replicate (r.sl r.q).length none) (r.mE (fun _ => false)) { W with drawn := W.drawn + 1 } := by
    rw [hm0]
    have hr' : Rel P c (g₀ ++ g) m { W with drawn := W.drawn + 1 } := hr.drew
    have look : ∀ (j : Nat) (b : ABlk) (gb : GB), (m ++ (r.sl r.q).map fun _ => (none : Option ABlk))[j]? = some (some b) → (g₀ ++ g ++ List.replicate (r.sl r.q).length none)[j]? = some (some gb) → m[j]? = some (some b) ∧ (g₀ ++ g)[j]? = some (some gb) := by
      intro j b gb hj hgj
      rcases Nat.lt_or_ge j m.length with hl | hl
      · rw [List.getElem?_append_left hl] at hj
        rw [List.getElem?_append_left (by rw [hr.len]; exact hl)] at hgj
        exact ⟨hj, hgj⟩
      · exfalso
        rw [List.getElem?_append_right hl, List.getElem?_map] at hj
        cases hx : (r.sl r.q)[j - m.length]? <;> rw [hx] at hj <;> simp at hj
    refine ⟨by rw [List.length_append, hr.len]; simp, ?_, ?_, hr'.frame, hr'.size, hr'.os, hr'.tape, hr'.output⟩
    · intro j b gb hj hgj
      obtain ⟨hj, hgj⟩ := look j b gb hj hgj
      obtain ⟨cs, fr, hh, hf, rest⟩ := hr'.blk j b gb hj hgj
      exact ⟨cs, fr, hh, hf.imp fun _ _ h => h.app, rest⟩
    · intro p q' bp bq gp gq hne hp hq' hrw hgp hgq
      obtain ⟨hp, hgp⟩ := look p bp gp hp hgp
      obtain ⟨hq', hgq⟩ := look q' bq gq hq' hgq
      exact hr'.inj p q' bp bq gp gq hne hp hq' hrw hgp hgq
  have s0 : RSt P r c (g₀ ++ g ++ List.replicate (r.sl r.q).length none) (fun k => (Array.replicate ops.size false).getD k false) (g₀ ++ g ++ List.replicate (r.sl r.q).length none) A { W with drawn := W.drawn + 1 } := by
    have he : (fun k => (Array.replicate ops.size false).getD k false) = fun _ => false := funext hrep
    rw [he]
    refine ⟨hrel, by rw [hfr0]; exact ha.app, fun _ _ => rfl, ?_, ?_⟩
    · intro i b hi _ hb
      obtain ⟨h1, h2⟩ := hslots i b hi hb
      rw [List.getElem?_append_right (by rw [hr.len, ← e4]; exact h1), List.getElem?_replicate, if_pos (by rw [hr.len, ← e4]; omega)]
    · intro j b gb hj hgj
      rw [hm0] at hj
      rcases Nat.lt_or_ge j m.length with hl | hl
      · rw [List.getElem?_append_left hl] at hj
        rw [List.getElem?_append_left (by rw [hr.len]; exact hl)] at hgj
        obtain ⟨cs, fr, hh, hf, _⟩ := hr.blk j b gb hj hgj
        have := hf.lowS
        rw [hr.len, ← e4] at this
        exact all_lowS_le (by omega) this
      · exfalso
        rw [List.getElem?_append_right hl, List.getElem?_map] at hj
        cases hx : (r.sl r.q)[j - m.length]? <;> rw [hx] at hj <;> simp at hj
  rw [hsz]
  refine any_ok hrd hops (Q := Post P c g₀ K) ?_ r.all.length (Array.replicate r.all.length false) A _ _ (by simp) ?_ ?_ ?_ (by rw [← hsz]; exact s0)
  · intro A' W' G listed s hls hlE
    have hfull : r.frE (fun k => decide (k < r.q)) = a' := by rw [← RD.fr_lex hrd r.q (Nat.le_refl _), e3, e6]
    have hmfull : r.mE (fun k => decide (k < r.q)) = m ++ sl'.map fun p => some p.2 := by
      unfold RD.mE
      rw [e4]
      congr 1
      rw [e3, e7]
      apply List.map_congr_left
      intro p hp
      have := RD.sl_low hrd (Nat.le_refl r.q) p (by rw [e3, e7]; exact hp)
      rw [e3] at this
      simp [this]
    have hgm : g₀.length + g.length = r.m.length := by rw [← List.length_append, hr.len, e4]
    have hGl : G.length = r.m.length + (r.sl r.q).length := by rw [s.rel.len, r.mE_length]
    -- the caller's numbers stand for what they stood for
    have hG : G = g₀ ++ G.drop g₀.length := by
      apply List.ext_getElem?
      intro j
      rcases Nat.lt_or_ge j g₀.length with hl | hl
      · rw [List.getElem?_append_left hl, s.base j (by omega), List.append_assoc, List.getElem?_append_left hl]
      · rw [List.getElem?_append_right hl, List.getElem?_drop, show g₀.length + (j - g₀.length) = j from by omega]
    have hrel' := s.rel
    have hfrm' := s.frm
    rw [hfull] at hfrm'
    rw [hmfull] at hrel'
    rw [hG] at hrel' hfrm'
    have hdl : (r.all.drop r.q).length = r.all.length - r.q := by simp
    have := tail_ok (T := T) hrd (c := c) (g₀ := g₀) (K := K) hops hk (r.all.drop r.q) r.q listed A' W' a' (m ++ sl'.map fun p => some p.2) (G.drop g₀.length) (Nat.le_refl _) rfl (by rw [hdl]; have := hrd.le; omega) hls hlE
      (by rw [e1, e3]; exact h) hrel' hfrm'
    rw [hdl] at this
    exact this
  · have : cnt (fun k => (Array.replicate r.all.length false).getD k false) r.all.length = 0 := by
      rw [cnt_congr (E' := fun _ => false) fun k _ => by rw [← hsz]; exact hrep k]
      simp [cnt]
    omega
  · intro k ok hk'
    rw [← hsz, hrep] at hk'; cases hk'
  · intro k hk'
    rw [← hsz, hrep] at hk'; cases hk'
/-- Evaluation of a region that draws its order. -/
def evDraw {R : Type} (X : Ops R) (T : Tab P) (all : List Oper) (q : Nat) (a : List Value) (m : Mem) (k : List Value → Mem → R) : R := evDraw1 X T (lateFix all q) q a m k

theorem lateFix_length (all : List Oper) (q : Nat) : (lateFix all q).length = all.length := by
  cases q with
  | zero => rfl
  | succ p =>
    simp only [lateFix]
    cases lateAt all p <;> simp

theorem AWp.draw {n₀ : Nat} {R : Type} {X : Ans P n₀ R} {T : Tab P} {K : Exit → List Value → Mem → Prop} {a : List Value} {m : Mem} {id : Nat} {ops : Array Oper} {q : Nat} {k : List Value → Mem → R} (h : X.holds (evDraw X T ops.toList q a m k))
    (hk : ∀ a m, X.holds (k a m) → K .normal a m) : AWp P n₀ (.region id ops true) K a m := by
  refine AWp.mono (K := fun e a m => e = .normal ∧ K e a m) ?_ fun _ _ _ h => h.2
  intro c g₀ g A W hn hr ha
  refine wp_region_any T.mixed ?_
  have hsz : (lateFix ops.toList q).toArray.size = ops.size := by simp [lateFix_length]
  refine wpAny_fix (fun c' a' w' ⟨_, _, _, ⟨e, _⟩, _⟩ => by cases e) q (by simp) ?_
  have := draw_any (K := fun e a m => e = .normal ∧ K e a m) (ops := (lateFix ops.toList q).toArray) (q := q) (k := k) (X := X) (T := T) (a := a) (m := m) h (fun a m h => ⟨rfl, hk a m h⟩) hr ha
  rw [hsz] at this
  exact this
end Go.AE
namespace Go.AE
variable {P : Program}

/-- How many operations of a region may be seen as quiet. -/
def quietLen : List Oper → Nat
  | [] => 0
  | o :: l => if (match o.op with
    | .call ⟨.value _, _, _⟩ => true
    | op => quietOp op) then quietLen l + 1 else 0

/-- Code. -/
def evC {R : Type} (X : Ops R) (T : Tab P) : Nat → Code → List Value → Mem → (Exit → List Value → Mem → R) → R
  | 0, _, _, _, _ => X.fl
  | n + 1, x, a, m, k =>
    match x with
    | .skip => k .normal a m
    | .ret => k .ret a m
    | .exit id => k (.exit id) a m
    | .label _ => k .normal a m
    | .goto l => k (.goto l) a m
    | .seq x y => evC X T n x a m fun e a m =>
        match e with
        | .normal => evC X T n y a m k
        | e => k e a m
    | .block id x => evC X T n x a m fun e a m =>
        match e with
        | .exit id' => if id' = id then k .normal a m else k (.exit id') a m
        | e => k e a m
    | .cond c x y =>
      match aeval a c with
      | .bool b => X.br b (evC X T n x a m k) (evC X T n y a m k)
      | _ => X.fl
    | .region _ ops false => evOps X T ops.toList ops.toList a m (k .normal)
    | .region _ ops true => evDraw X T ops.toList (quietLen ops.toList) a m (k .normal)
    | x => X.code x a m k

theorem AWp.cond {n₀ : Nat} {K : Exit → List Value → Mem → Prop} {a : List Value} {m : Mem} {c : Operand} {x y : Code} {b : Bool} (hc : aeval a c = .bool b) (h1 : b = true → AWp P n₀ x K a m) (h2 : b = false → AWp P n₀ y K a m) : AWp P n₀ (.cond c x y) K a m := by
  intro cx g₀ g A W hn hr ha
  have := ha.eval c
  rw [hc] at this
  have := SR.inv_bool this
  refine wp_cond this ?_
  cases b with
  | true => exact h1 rfl cx g₀ g A W hn hr ha
  | false => exact h2 rfl cx g₀ g A W hn hr ha

theorem AWp.region {n₀ : Nat} {R : Type} {X : Ans P n₀ R} {T : Tab P} {K : Exit → List Value → Mem → Prop} {a : List Value} {m : Mem} {id : Nat} {ops : Array Oper} {k : List Value → Mem → R} (h : X.holds (evOps X T ops.toList ops.toList a m k))
    (hk : ∀ a m, X.holds (k a m) → K .normal a m) : AWp P n₀ (.region id ops false) K a m := by
  intro c g₀ g A W _ hr ha
  have := evOps_ok (c := c) (g₀ := g₀) (K := K) ops.toList a m k h hk g A W hr ha
  exact wp_region_list (by simpa using this)

theorem evC_ok {n₀ : Nat} {R : Type} {X : Ans P n₀ R} {T : Tab P} : ∀ (n : Nat) (x : Code) (a : List Value) (m : Mem) (k : Exit → List Value → Mem → R), X.holds (evC X T n x a m k) → AWp P n₀ x (fun e a m => X.holds (k e a m)) a m
  | 0, _, _, _, _, h => absurd h X.fl_ok
  | n + 1, x, a, m, k, h => by
    unfold evC at h
    split at h
    · exact .skip h
    · exact .ret h
    · exact .exit h
    · exact .label h
    · exact .goto h
    · refine .seq ((evC_ok n _ a m _ h).mono ?_)
      intro e a m h
      cases e with
      | normal => exact evC_ok n _ a m k h
      | exit id => exact h
      | goto l => exact h
      | ret => exact h
      | panic ch => exact h
      | outgrown => exact h
    · rename_i id y
      refine .block ((evC_ok n _ a m _ h).mono ?_)
      intro e a m h
      cases e with
      | exit id' =>
        simp only [inBlk]
        by_cases hid : id' = id
        · simp only [if_pos hid] at h ⊢; exact h
        · simp only [if_neg hid] at h ⊢; exact h
      | normal => exact h
      | goto l => exact h
      | ret => exact h
      | panic ch => exact h
      | outgrown => exact h
    · split at h
      case h_2 => exact absurd h X.fl_ok
      rename_i b hb
      obtain ⟨h1, h2⟩ := X.br_ok _ _ _ h
      exact .cond hb (fun e => evC_ok n _ a m k (h1 e)) (fun e => evC_ok n _ a m k (h2 e))
    · exact AWp.region h fun a m h => h
    · exact AWp.draw h fun a m h => h
    · exact X.code_ok _ _ _ _ h

/-- A label's scope, jump by jump. -/
def evJumps {R : Type} (X : Ops R) (T : Tab P) (fuel : Nat) (c : Code) : Nat → Code → List Value → Mem → (Exit → List Value → Mem → R) → R
  | 0, _, _, _, _ => X.fl
  | n + 1, x, a, m, k => evC X T fuel x a m fun e a m =>
      match e with
      | .goto l => match findLabel c l with
        | some rest => evJumps X T fuel c n rest a m k
        | none => k (.goto l) a m
      | e => k e a m
theorem evJumps_ok {n₀ : Nat} {R : Type} {X : Ans P n₀ R} {T : Tab P} {fuel : Nat} {c : Code} {k : Exit → List Value → Mem → R} : ∀ (n : Nat) (x : Code) (a : List Value) (m : Mem), X.holds (evJumps X T fuel c n x a m k) → Jumps P n₀ c (fun e a m => X.holds (k e a m)) n x a m
  | 0, _, _, _, h => absurd h X.fl_ok
  | n + 1, x, a, m, h => by
    refine (evC_ok fuel x a m _ h).mono ?_
    intro e a' m' h
    cases e with
    | goto l =>
      simp only at h ⊢
      cases hf : findLabel c l with
      | none => simp only [hf] at h ⊢; exact h
      | some rest => simp only [hf] at h ⊢; exact evJumps_ok n rest a' m' h
    | normal => exact h
    | exit id => exact h
    | ret => exact h
    | panic ch => exact h
    | outgrown => exact h

/-- A load, for results. -/
def loadA (T : Tab P) (t : TypeId) (addr : Value) (m : Mem) : Option Value :=
  match T.und t, T.inf t, addr with
  | some d, some ti, .pointer (some ⟨j, off, none⟩) =>
    match m[j]? with
    | some (some b) => if isAggD d then (if off + ti.size ≤ b.cells.length then some (.agg ⟨(b.cells.drop off).take ti.size⟩) else none) else b.cells[off]?
    | _ => none
  | _, _, _ => none

theorem loadA_ok {T : Tab P} {t : TypeId} {addr addr' v : Value} {m : Mem} (h : loadA T t addr m = some v) {c : Ctx} {g : List (Option GB)} {W : World} (hr : Rel P c g m W) (ha : VR g addr addr') :
    ∃ w a, addr' = .pointer (some a) ∧ (loadVar t a).run P W = .ok w W ∧ VR g v w := by
  unfold loadA at h
  split at h
  case h_2 => cases h
  rename_i d ti j off hd hti
  split at h
  case h_2 => cases h
  rename_i b hj
  cases ha with
  | a ha => cases ha with
    | s ha => cases ha with
      | ptr _ _ gb hg =>
        split at h
        · rename_i hagg
          split at h
          case isFalse => cases h
          rename_i hc
          simp only [Option.some.injEq] at h
          subst h
          obtain ⟨ys, hys, hf⟩ := hr.loadCells hj hg hc
          refine ⟨.agg ⟨ys⟩, _, rfl, ?_, .agg hf⟩
          simp [loadVar, T.run_isAgg hd, hagg, T.run_size hti, hys]
        · rename_i hagg
          obtain ⟨w, hw, hs⟩ := hr.cell hj hg h
          exact ⟨w, _, rfl, by simp [loadVar, T.run_isAgg hd, hagg, hw], .s hs⟩

def resOf (T : Tab P) (a : List Value) (m : Mem) : ResultVar → Option Value
  | .tmp t => some ((a[t]?).getD undef)
  | .cell t ty => loadA T ty ((a[t]?).getD undef) m

/-- What may stand in a tuple. -/
def tupOk : Value → Bool
  | .tuple _ => false
  | .map (some 0) => false
  | _ => true
theorem VR.tupOk {g : List (Option GB)} {v w : Value} (h : VR g v w) (hc : tupOk v = true) : AR g v w := by
  cases h with
  | a h => exact h
  | tup _ => cases hc
  | top _ => cases hc

/-- What a function hands back. -/
def resA (T : Tab P) (rs : List ResultVar) (a : List Value) (m : Mem) : Option Value :=
  match rs.mapM (resOf T a m) with
  | some [v] => some v
  | some vs => if vs.all tupOk then some (.tuple ⟨vs⟩) else none
  | none => none

def resM (tmps : Array Value) : ResultVar → Sem Value
  | .tmp t => pure (tmps.getD t undef)
  | .cell a t => do loadVar t (← asAddr (tmps.getD a undef))

theorem resOf_ok {T : Tab P} {a : List Value} {m : Mem} {A : Act} {c : Ctx} {g : List (Option GB)} {W : World} (hr : Rel P c g m W) (ha : ARel g a A) {r : ResultVar} {v : Value} (h : resOf T a m r = some v) :
    ∃ w, (resM A.tmps r).run P W = .ok w W ∧ VR g v w := by
  cases r with
  | tmp t =>
    simp only [resOf, Option.some.injEq] at h
    subst h
    exact ⟨_, rfl, ha.eval (.tmp t)⟩
  | cell t ty =>
    obtain ⟨w, ad, he, hw, hv⟩ := loadA_ok h hr (ha.eval (.tmp t))
    refine ⟨w, ?_, hv⟩
    have he' : A.tmps.getD t undef = .pointer (some ad) := he
    simp only [resM, he', asAddr, pure_bind]
    exact hw

theorem resM_ok {T : Tab P} {a : List Value} {m : Mem} {A : Act} {c : Ctx} {g : List (Option GB)} {W : World} (hr : Rel P c g m W) (ha : ARel g a A) : ∀ (rs : List ResultVar) (vs : List Value), rs.mapM (resOf T a m) = some vs →
    ∃ ws, (rs.mapM (resM A.tmps)).run P W = .ok ws W ∧ F2 (VR g) vs ws
  | [], vs, h => by simp at h; subst h; exact ⟨[], rfl, .nil⟩
  | r :: rs, vs, h => by
    rw [List.mapM_cons] at h
    cases hx : resOf T a m r with
    | none => rw [hx] at h; simp at h
    | some v =>
      cases hy : rs.mapM (resOf T a m) with
      | none => rw [hx, hy] at h; simp at h
      | some us =>
        rw [hx, hy] at h
        simp at h
        subst h
        obtain ⟨w, hw, hv⟩ := resOf_ok hr ha hx
        obtain ⟨ws, hws, hf⟩ := resM_ok hr ha rs us hy
        refine ⟨w :: ws, ?_, .cons hv hf⟩
        rw [List.mapM_cons]
        simp only [Sem.run_bind, hw, Result.andThen_ok, hws, Sem.run_pure]

theorem resA_ok {T : Tab P} {a : List Value} {m : Mem} {A : Act} {c : Ctx} {g : List (Option GB)} {W : World} (hr : Rel P c g m W) (ha : ARel g a A) {fn : Func} {v : Value} (h : resA T fn.results.toList a m = some v) :
    ∃ w, (results fn A.tmps).run P W = .ok w W ∧ VR g v w := by
  unfold resA at h
  have run : ∀ ws, (fn.results.toList.mapM (resM A.tmps)).run P W = .ok ws W → (results fn A.tmps).run P W = .ok (if h : ws.toArray.size = 1 then ws.toArray[0] else .tuple ws.toArray) W := by
    intro ws hw
    have e : results fn A.tmps = (do let vs ← fn.results.mapM (resM A.tmps); pure (if h : vs.size = 1 then vs[0] else .tuple vs) : Sem Value) := rfl
    rw [e, Array.mapM_eq_mapM_toList]
    simp only [Sem.run_bind, Sem.run_map, hw, Result.andThen_ok, Sem.run_pure]
  split at h
  · rename_i u hm
    simp only [Option.some.injEq] at h
    subst h
    obtain ⟨ws, hws, hf⟩ := resM_ok hr ha _ _ hm
    cases hf with
    | cons hv hf => cases hf; exact ⟨_, by rw [run _ hws]; rfl, hv⟩
  · rename_i vs hne hm
    split at h
    case isFalse => cases h
    rename_i hall
    simp only [Option.some.injEq] at h
    subst h
    obtain ⟨ws, hws, hf⟩ := resM_ok hr ha _ _ hm
    have hl := hf.length
    have h1 : ¬ ws.toArray.size = 1 := by
      intro h1
      have : vs.length = 1 := by simpa [hl] using h1
      match vs, this with
      | [v], _ => exact hne v rfl
    refine ⟨_, run _ hws, ?_⟩
    rw [dif_neg h1]
    refine .tup ?_
    clear hws hm h1 hne hl
    induction hf with
    | nil => exact .nil
    | cons hv _ ih =>
      simp only [List.all_cons, Bool.and_eq_true] at hall
      exact .cons (hv.tupOk hall.1) (ih hall.2)
  · cases h

/-- A function. -/
def evF {R : Type} (X : Ops R) (T : Tab P) (n : Nat) (code : Code) (ntmps : Nat) (rs : List ResultVar) (args : List Value) (m : Mem) (k : Value → Mem → R) : R :=
  evC X T n code (args ++ List.replicate (ntmps - args.length) undef) m fun e a' m' =>
    match e with
    | .normal => X.ld (resA T rs a' m') fun v => k v m'
    | .ret => X.ld (resA T rs a' m') fun v => k v m'
    | _ => X.fl

theorem ACall.of_code {f : FuncId} {fn : Func} {code : Code} {args : List Value} {m : Mem} {K : Value → Mem → Prop} {T : Tab P} (hf : P.funcs[f]? = some fn) (hb : fn.body = some code)
    (h : AWp P m.length code (fun e a' m' => (e = .normal ∨ e = .ret) ∧ ∃ v, resA T fn.results.toList a' m' = some v ∧ K v m') (args ++ List.replicate (fn.ntmps - args.length) undef) m) : ACall P f args m K := by
  intro c g W args' hr hargs
  refine calls_of_wp hf hb ?_
  have ha : ARel g (args ++ List.replicate (fn.ntmps - args.length) undef) { tmps := (⟨args'⟩ : Array Value) ++ Array.replicate (fn.ntmps - (⟨args'⟩ : Array Value).size) undef, defers := [] } := by
    refine ⟨?_, rfl⟩
    have hl := hargs.length
    rw [Array.toList_append, Array.toList_replicate]
    simp only [List.size_toArray]
    rw [← hl]
    exact hargs.append (F2.replicate _ (.undef g))
  refine wp_mono (h c g [] _ W hr.len (by simpa using hr) (by simpa using ha)) ?_
  intro e A' W' ⟨a', m', g', ⟨he, v, hv, hK⟩, hr', ha'⟩
  obtain ⟨w, hw, hvw⟩ := resA_ok hr' ha' hv
  rcases he with rfl | rfl
  · exact ⟨ha'.defers, w, hw, v, w, m', g', rfl, hK, hr', hvw⟩
  · exact ⟨ha'.defers, w, hw, v, w, m', g', rfl, hK, hr', hvw⟩

theorem ACall.of_ev {f : FuncId} {fn : Func} {code : Code} {args : List Value} {m : Mem} {R : Type} (X : Ans P m.length R) (T : Tab P) (n : Nat) {k : Value → Mem → R} (hf : P.funcs[f]? = some fn) (hb : fn.body = some code)
    (h : X.holds (evF X T n code fn.ntmps fn.results.toList args m k)) : ACall P f args m fun v m' => X.holds (k v m') := by
  refine .of_code (T := T) hf hb ((evC_ok n code _ m _ h).mono ?_)
  intro e a' m' h
  cases e with
  | normal => exact ⟨.inl rfl, X.ld_ok _ _ h⟩
  | ret => exact ⟨.inr rfl, X.ld_ok _ _ h⟩
  | exit id => exact absurd h X.fl_ok
  | goto l => exact absurd h X.fl_ok
  | panic ch => exact absurd h X.fl_ok
  | outgrown => exact absurd h X.fl_ok

end Go.AE
namespace Go.AE
/-- The tables of a program, looked up where they stand. -/
def tabOf (P : Program) (h : P.funcs.toList.all (fun d => !(d.name == "runtime.NumGoroutine")) = true) (hm : P.follows .mixedOrders = true) : Tab P where
  mixed := hm
  plainEq t := !(P.eqGuardType P.depth t) && !(P.stoodInHeld t)
  plainEq_ok t h := by simpa using h
  und t := P.underlying t
  inf t := (P.info? t).map fun i => ⟨i.size, i.bytes, i.zero⟩
  fn f := ((P.funcs[f]?).bind (·.body)).isSome
  und_ok _ _ h := h
  inf_ok t x h := by
    cases hi : P.info? t with
    | none => rw [hi] at h; cases h
    | some i =>
      rw [hi] at h
      simp only [Option.map_some, Option.some.injEq] at h
      subst h
      exact ⟨i, rfl, rfl, rfl, rfl⟩
  fn_ok f hf := by
    cases hd : P.funcs[f]? with
    | none => rw [hd] at hf; cases hf
    | some d =>
      rw [hd] at hf
      simp only [Option.bind_some] at hf
      cases hb : d.body with
      | none => rw [hb] at hf; cases hf
      | some c =>
        refine ⟨d, c, rfl, ?_, hb⟩
        have hm : d ∈ P.funcs.toList := by
          have := Array.getElem?_eq_some_iff.1 hd
          obtain ⟨hlt, rfl⟩ := this
          simp
        have := List.all_eq_true.1 h d hm
        simpa using this
end Go.AE
namespace Go.AE
variable {P : Program}

/-- Functions whose answer is known without a look into them. -/
structure Orc (P : Program) where
  f : FuncId → Option (List Value → Mem → Option (Value × Mem))
  ok : ∀ n s, f n = some s → ∀ as m v m', s as m = some (v, m') → ACall P n as m fun v' m'' => v' = v ∧ m'' = m'

/-- A memory whose blocks name low blocks alone. -/
def lowM (n : Nat) (m : Mem) : Bool := m.all fun b => match b with
  | some b => b.cells.all (lowS n)
  | none => true

/-- What a call has made and nobody names is let go. -/
def gcR (n : Nat) (v : Value) (m : Mem) : Value × Mem :=
  if !lowM n (m.take n) then (v, m) else
  if low n v then (v, m.take n) else
  match v with
  | .slice (some ⟨j, o, s⟩) l c =>
    match m[j]? with
    | some (some b) => if n ≤ j && b.cells.all (lowS n) then (.slice (some ⟨n, o, s⟩) l c, m.take n ++ [some b]) else (v, m)
    | _ => (v, m)
  | _ => (v, m)

theorem Rel.trunc {c : Ctx} {g g' : List (Option GB)} {m : Mem} {W : World} (hr : Rel P c (g ++ g') m W) (hl : lowM g.length (m.take g.length) = true) (hm : g.length ≤ m.length) : Rel P c g (m.take g.length) W := by
  have look : ∀ (j : Nat) (b : ABlk), (m.take g.length)[j]? = some (some b) → j < g.length ∧ m[j]? = some (some b) ∧ b.cells.all (lowS g.length) = true := by
    intro j b hj
    have hb := List.all_eq_true.1 hl (some b) (List.mem_of_getElem? hj)
    rw [List.getElem?_take] at hj
    split at hj
    · rename_i h; exact ⟨h, hj, hb⟩
    · cases hj
  have up : ∀ (j : Nat) (gb : GB), g[j]? = some (some gb) → (g ++ g')[j]? = some (some gb) := fun j gb h => getElem?_app h
  have htake : (g ++ g').take g.length = g := by simp
  refine ⟨by simp [hm], ?_, ?_, hr.frame, hr.size, hr.os, hr.tape, hr.output⟩
  · intro j b gb hj hg
    obtain ⟨_, hj', hb⟩ := look j b hj
    obtain ⟨cs, fr, hh, hf, rest⟩ := hr.blk j b gb hj' (up j gb hg)
    refine ⟨cs, fr, hh, ?_, rest⟩
    have := F2.low (p := lowS g.length) (S := SR g) (fun v w h hp => by have := SR.low h hp; rwa [htake] at this) hf hb
    exact this
  · intro p q bp bq gp gq hne hp hq hrw hgp hgq
    exact hr.inj p q bp bq gp gq hne (look p bp hp).2.1 (look q bq hq).2.1 hrw (up p gp hgp) (up q gq hgq)

theorem gcR_ok {c : Ctx} {g g' : List (Option GB)} {m : Mem} {W : World} {v w v2 : Value} {m2 : Mem} (he : gcR g.length v m = (v2, m2)) (hr : Rel P c (g ++ g') m W) (hv : VR (g ++ g') v w) : ∃ g2, Rel P c (g ++ g2) m2 W ∧ VR (g ++ g2) v2 w := by
  have same : (v, m) = (v2, m2) → ∃ g2, Rel P c (g ++ g2) m2 W ∧ VR (g ++ g2) v2 w := by
    intro h
    simp only [Prod.mk.injEq] at h
    obtain ⟨rfl, rfl⟩ := h
    exact ⟨g', hr, hv⟩
  have hm : g.length ≤ m.length := by rw [← hr.len]; simp
  have htake : (g ++ g').take g.length = g := by simp
  unfold gcR at he
  split at he
  · exact same he
  · rename_i hl
    replace hl : lowM g.length (m.take g.length) = true := by simpa using hl
    have ht := hr.trunc hl hm
    split at he
    · rename_i hlv
      simp only [Prod.mk.injEq] at he
      obtain ⟨rfl, rfl⟩ := he
      have := hv.low hlv
      rw [htake] at this
      exact ⟨[], by simpa using ht, by simpa using this⟩
    · split at he
      · rename_i j o s l cc he
        split at he
        · rename_i b hj
          split at he
          · rename_i hc
            simp only [Bool.and_eq_true, decide_eq_true_eq] at hc
            simp only [Prod.mk.injEq] at he
            obtain ⟨rfl, rfl⟩ := he
            cases hv with
            | a hv => cases hv with
              | s hv => cases hv with
                | slice _ _ _ _ gb hg =>
                  obtain ⟨cs, fr, hh, hf, hsz, hown, hex⟩ := hr.blk j b gb hj hg
                  have hcells : F2 (SR g) b.cells (cs.toList.take b.cells.length) := F2.low (p := lowS g.length) (S := SR g) (fun v w h hp => by have := SR.low h hp; rwa [htake] at this) hf hc.2
                  have hml : (m.take g.length).length = g.length := by simp [hm]
                  have split : ∀ (k : Nat) (bk : ABlk) (gk : GB), (m.take g.length ++ [some b])[k]? = some (some bk) → (g ++ [some gb])[k]? = some (some gk) →
                      (k < g.length ∧ (m.take g.length)[k]? = some (some bk) ∧ g[k]? = some (some gk)) ∨ (k = g.length ∧ bk = b ∧ gk = gb) := by
                    intro k bk gk hk hgk
                    rcases Nat.lt_trichotomy k g.length with h | h | h
                    · rw [List.getElem?_append_left (by rw [hml]; exact h)] at hk
                      rw [List.getElem?_append_left h] at hgk
                      exact .inl ⟨h, hk, hgk⟩
                    · subst h
                      rw [List.getElem?_append_right (by rw [hml]; exact Nat.le_refl _), hml] at hk
                      rw [List.getElem?_append_right (Nat.le_refl _)] at hgk
                      simp at hk hgk
                      exact .inr ⟨rfl, hk.symm, hgk.symm⟩
                    · rw [List.getElem?_eq_none (by simp; omega)] at hk; cases hk
                  have old : ∀ (k : Nat) (bk : ABlk) (gk : GB), (m.take g.length)[k]? = some (some bk) → g[k]? = some (some gk) → m[k]? = some (some bk) ∧ (g ++ g')[k]? = some (some gk) := by
                    intro k bk gk hk hgk
                    rw [List.getElem?_take] at hk
                    split at hk
                    · exact ⟨hk, getElem?_app hgk⟩
                    · cases hk
                  refine ⟨[some gb], ⟨by simp [hm], ?_, ?_, hr.frame, hr.size, hr.os, hr.tape, hr.output⟩, .s (.slice _ _ _ _ gb (by rw [List.getElem?_append_right (Nat.le_refl _)]; simp))⟩
                  · intro k bk gk hk hgk
                    rcases split k bk gk hk hgk with ⟨_, hk, hgk⟩ | ⟨rfl, rfl, rfl⟩
                    · obtain ⟨cs, fr, hh, hf, rest⟩ := ht.blk k bk gk hk hgk
                      exact ⟨cs, fr, hh, hf.imp fun _ _ h => h.app, rest⟩
                    · exact ⟨cs, fr, hh, hcells.imp fun _ _ h => h.app, hsz, hown, hex⟩
                  · intro p q bp bq gp gq hne hp hq hrw hgp hgq
                    rcases split p bp gp hp hgp with ⟨lp, hp2, hgp2⟩ | ⟨rfl, rfl, rfl⟩ <;> rcases split q bq gq hq hgq with ⟨lq, hq2, hgq2⟩ | ⟨eq1, eq2, eq3⟩
                    · exact ht.inj p q bp bq gp gq hne hp2 hq2 hrw hgp2 hgq2
                    · subst eq2; subst eq3
                      obtain ⟨a1, a2⟩ := old p bp gp hp2 hgp2
                      exact hr.inj p j bp bq gp gq (by omega) a1 hj hrw a2 hg
                    · obtain ⟨a1, a2⟩ := old q bq gq hq2 hgq2
                      exact hr.inj j q bp bq gp gq (by omega) hj a1 hrw hg a2
                    · exact absurd eq1.symm hne
          · exact same he
        · exact same he
      · exact same he

theorem ACall.gc {f : FuncId} {as : List Value} {m : Mem} {K : Value → Mem → Prop} (h : ACall P f as m fun v m' => K (gcR m.length v m').1 (gcR m.length v m').2) : ACall P f as m K := by
  intro c g W args' hr ha
  refine (h c g W args' hr ha).mono ?_
  rintro e W' ⟨v, v', m', g', he, hK, hr', hv⟩
  rw [← hr.len] at hK
  obtain ⟨g2, hr2, hv2⟩ := gcR_ok (he := rfl) hr' hv
  exact ⟨_, v', _, g2, he, hK, hr2, hv2⟩
end Go.AE
namespace Go.AE
variable {P : Program}

/-- A loop, round by round, as long as there is fuel. -/
def evLoop {R : Type} (X : Ops R) (T : Tab P) (fuel : Nat) (body : Code) : Nat → List Value → Mem → (Exit → List Value → Mem → R) → R
  | 0, _, _, _ => X.fl
  | n + 1, a, m, k => evC X T fuel body a m fun e a' m' =>
      match e with
      | .normal => evLoop X T fuel body n a' m' k
      | e => k e a' m'

/-- What n rounds at most come to. -/
def Rounds (P : Program) (n₀ : Nat) (body : Code) (K : Exit → List Value → Mem → Prop) : Nat → List Value → Mem → Prop
  | 0, _, _ => False
  | n + 1, a, m => AWp P n₀ body (andThen (Rounds P n₀ body K n) K) a m

theorem AWp.of_rounds {n₀ : Nat} {body : Code} {K : Exit → List Value → Mem → Prop} {n : Nat} {a : List Value} {m : Mem} (h : Rounds P n₀ body K n a m) : AWp P n₀ (.loop body) K a m := by
  refine AWp.loop_rounds n (fun k a m => Rounds P n₀ body K k a m) h ?_
  intro k a m hI
  cases k with
  | zero => exact hI.elim
  | succ k =>
    refine AWp.mono hI ?_
    intro e a' m' h
    cases e with
    | normal => exact ⟨k, by omega, h⟩
    | exit id => exact h
    | goto l => exact h
    | ret => exact h
    | panic ch => exact h
    | outgrown => exact h

theorem evLoop_ok {n₀ : Nat} {R : Type} {X : Ans P n₀ R} {T : Tab P} {fuel : Nat} {body : Code} {k : Exit → List Value → Mem → R} : ∀ (n : Nat) (a : List Value) (m : Mem), X.holds (evLoop X T fuel body n a m k) → Rounds P n₀ body (fun e a m => X.holds (k e a m)) n a m
  | 0, _, _, h => absurd h X.fl_ok
  | n + 1, a, m, h => by
    refine (evC_ok fuel body a m _ h).mono ?_
    intro e a' m' h
    cases e with
    | normal => exact evLoop_ok n a' m' h
    | exit id => exact h
    | goto l => exact h
    | ret => exact h
    | panic ch => exact h
    | outgrown => exact h

abbrev RV := Option (Value × Mem)

/-- The machine that reckons outright: 'lf': rounds of a loop; 'cf': depth of code; the last: depth of calls. -/
def runO (T : Tab P) (O : Orc P) (lf cf : Nat) : Nat → Ops RV
  | 0 => { br _ _ _ := none, nd _ _ := none, fl := none, ld _ _ := none, call _ _ _ _ := none, code _ _ _ _ := none, pcall _ _ _ _ := none }
  | n + 1 =>
    { br c t e := bif c then t else e
      nd c r := bif c then r else none
      fl := none
      ld o k := match o with
        | some v => k v
        | none => none
      call f as m k := match O.f f with
        | some s => match s as m with
          | some (v, m') => forceV v fun v => forceM m' fun m' => k v m'
          | none => none
        | none => match P.funcs[f]? with
          | some fn => match fn.body with
            | some c => evF (runO T O lf cf n) T cf c fn.ntmps fn.results.toList as m fun v m' =>
                match gcR m.length v m' with
                | (v, m') => forceV v fun v => forceM m' fun m' => k v m'
            | none => none
          | none => none
      code x a m k := match x with
        | .loop b => evLoop (runO T O lf cf n) T cf b lf a m k
        | .scope c => evJumps (runO T O lf cf n) T cf c lf c a m k
        | _ => none
      pcall f as m k := match (match O.f f with
        | some s => s as m
        | none => match P.funcs[f]? with
          | some fn => match fn.body with
            | some c => evF (runO T O lf cf n) T cf c fn.ntmps fn.results.toList as m fun v m' => some (gcR m.length v m')
            | none => none
          | none => none) with
        | some (v, m') => bif Nat.ble m.length m'.length then match m'.drop m.length with
          | [] => k v none
          | [some b] => k v (some b)
          | _ => none else none
        | none => none }

theorem runA (T : Tab P) (O : Orc P) (lf cf : Nat) : ∀ (n : Nat) (tgt : Value × Mem) (n₀ : Nat), ∃ X : Ans P n₀ RV, X.toOps = runO T O lf cf n ∧ ∀ r, X.holds r ↔ r = some tgt
  | 0, tgt, n₀ => ⟨{ toOps := runO T O lf cf 0, holds := fun r => r = some tgt, br_ok := fun _ _ _ h => (by cases h), nd_ok := fun _ _ h => (by cases h), fl_ok := fun h => (by cases h), ld_ok := fun _ _ h => (by cases h), call_ok := fun _ _ _ _ h => (by cases h), code_ok := fun _ _ _ _ h => (by cases h), pcall_ok := fun _ _ _ _ h => (by cases h) }, rfl, fun _ => Iff.rfl⟩
  | n + 1, tgt, n₀ => by
    have ih := runA T O lf cf n
    have run : ∀ (f : FuncId) (as : List Value) (m : Mem) (fn : Func) (c : Code) (k : Value → Mem → RV) (tgt : Value × Mem), P.funcs[f]? = some fn → fn.body = some c → evF (runO T O lf cf n) T cf c fn.ntmps fn.results.toList as m k = some tgt →
        ACall P f as m fun v m' => k v m' = some tgt := by
      intro f as m fn c k tgt hf hb h
      obtain ⟨X, hX, hh⟩ := ih tgt m.length
      have := ACall.of_ev X T cf (k := k) hf hb (by rw [hX, hh]; exact h)
      exact this.mono fun v m' h => (hh _).1 h
    refine ⟨{ toOps := runO T O lf cf (n + 1), holds := fun r => r = some tgt, br_ok := ?_, nd_ok := ?_, fl_ok := fun h => (by cases h), ld_ok := ?_, call_ok := ?_, code_ok := ?_, pcall_ok := ?_ }, rfl, fun _ => Iff.rfl⟩
    · intro c t e h
      cases c with
      | true => exact ⟨fun _ => h, fun h => (by cases h)⟩
      | false => exact ⟨fun h => (by cases h), fun _ => h⟩
    · intro c r h
      cases c with
      | true => exact ⟨rfl, h⟩
      | false => cases h
    · intro o k h
      cases o with
      | none => cases h
      | some v => exact ⟨v, rfl, h⟩
    · intro f as m k h
      simp only [runO] at h
      split at h
      · rename_i s hs
        split at h
        · rename_i v m' hsv
          simp only [forceV_eq, forceM_eq] at h
          exact (O.ok f s hs as m v m' hsv).mono fun v' m'' ⟨h1, h2⟩ => by rw [h1, h2]; exact h
        · cases h
      · split at h
        · rename_i fn hf
          split at h
          · rename_i c hb
            have := run f as m fn c _ tgt hf hb h
            refine ACall.gc (this.mono fun v m' h => ?_)
            simp only [forceV_eq, forceM_eq] at h
            exact h
          · cases h
        · cases h
    · intro x a m k h
      simp only [runO] at h
      split at h
      · rename_i b
        obtain ⟨X, hX, hh⟩ := ih tgt n₀
        rw [← hX] at h
        have := evLoop_ok (X := X) (T := T) (k := k) lf a m ((hh _).2 h)
        refine (AWp.of_rounds this).mono fun e a m h => (hh _).1 h
      · rename_i c
        obtain ⟨X, hX, hh⟩ := ih tgt n₀
        rw [← hX] at h
        have := evJumps_ok (X := X) (T := T) (k := k) lf c a m ((hh _).2 h)
        refine (AWp.scope this).mono fun e a m h => (hh _).1 h
      · cases h
    · intro f as m k h
      simp only [runO] at h
      split at h
      · rename_i v m' hev
        have hc : ACall P f as m fun v' m'' => v' = v ∧ m'' = m' := by
          split at hev
          · rename_i s hs
            exact O.ok f s hs as m v m' hev
          · split at hev
            · rename_i fn hf
              split at hev
              · rename_i c hb
                have := run f as m fn c _ (v, m') hf hb hev
                refine ACall.gc (this.mono fun v1 m1 h => ?_)
                simp only [Option.some.injEq] at h
                rw [h]; exact ⟨rfl, rfl⟩
              · cases hev
            · cases hev
        cases hle : Nat.ble m.length m'.length with
        | false => rw [hle] at h; cases h
        | true =>
          have hle' := Nat.le_of_ble_eq_true hle
          rw [hle] at h
          simp only [cond_true] at h
          split at h
          · rename_i hd
            exact ⟨v, none, hc.mono fun v' m'' ⟨h1, h2⟩ => ⟨h1, by rw [h2]; exact hle', by rw [h2, hd]; rfl⟩, h⟩
          · rename_i b hd
            exact ⟨v, some b, hc.mono fun v' m'' ⟨h1, h2⟩ => ⟨h1, by rw [h2]; exact hle', by rw [h2, hd]; rfl⟩, h⟩
          · cases h
      · cases h

/-- A function reckoned outright. -/
theorem ACall.of_run {T : Tab P} {O : Orc P} {lf cf n : Nat} {f : FuncId} {fn : Func} {code : Code} {args : List Value} {m : Mem} {v : Value} {m' : Mem} (hf : P.funcs[f]? = some fn) (hb : fn.body = some code)
    (h : evF (runO T O lf cf n) T cf code fn.ntmps fn.results.toList args m (fun v m' => some (gcR m.length v m')) = some (v, m')) : ACall P f args m fun v' m'' => v' = v ∧ m'' = m' := by
  obtain ⟨X, hX, hh⟩ := runA T O lf cf n (v, m') m.length
  have := ACall.of_ev X T cf (k := fun v m' => some (gcR m.length v m')) hf hb (by rw [hX, hh]; exact h)
  refine ACall.gc (this.mono fun v1 m1 h => ?_)
  have h := (hh _).1 h
  simp only [Option.some.injEq] at h
  rw [h]; exact ⟨rfl, rfl⟩
end Go.AE
