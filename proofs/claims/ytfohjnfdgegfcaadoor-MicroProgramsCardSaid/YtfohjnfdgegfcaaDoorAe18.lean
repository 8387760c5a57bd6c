/-
  An abstract logic for the model (part 18): how frames and memories look, evaluated by functions. Conditions: none.
-/
import Derived.Test.YtfohjnfdgegfcaaDoorAe17b
namespace Go.AE
variable {P : Program}

/-- Whether a region's operations may be seen so: the first q quiet, the others one behind the other. -/
def drawOk (all : List Oper) (cls : List (List Nat)) (q : Nat) : Bool :=
  decide (q ≤ all.length) &&
  ((List.range all.length).all fun i => match all[i]? with
    | some o => ((waits o).all fun j => decide (j < i)) && ((cls.getD i []).all fun x => (waits o).contains x || (waits o).any fun j => (cls.getD j []).contains x) && (decide (i < q) || (List.range i).all fun j => (cls.getD i []).contains j)
    | none => true) &&
  ((List.range q).all fun i => (List.range q).all fun k => i == k ||
    match all[i]?, all[k]? with
    | some oi, some ok =>
      match ok.dst with
      | some t => oi.dst != some t && (!(oi.looksAt all.toArray).contains t || (decide (k < i) && (waits oi).contains k) || (decide (i < k) && (waits ok).contains i))
      | none => true
    | _, _ => true)

/-- From the derivation to the data. -/
theorem Qts.data {all : List Oper} {cls : List (List Nat)} {m : Mem} : ∀ {i : Nat} {l : List Oper} {a a' : List Value} {sl sl' : Slots} {ds : List QD}, Qts P all cls m i l a sl ds a' sl' →
    ∃ (fr : Nat → List Value) (sls : Nat → Slots) (d : Nat → QD), fr i = a ∧ sls i = sl ∧ fr (i + l.length) = a' ∧ sls (i + l.length) = sl' ∧
      ∀ k o, l[k]? = some o → (∀ b, (d (i + k)).nb = some b → b.rw = true) ∧ QtOK P all (cls.getD (i + k) []) m o (fr (i + k)) (sls (i + k)) (d (i + k)) ∧ fr (i + k + 1) = putA (fr (i + k)) o.dst (d (i + k)).v ∧
        sls (i + k + 1) = sls (i + k) ++ (d (i + k)).nb.toList.map fun b => (i + k, b) := by
  intro i l a a' sl sl' ds h
  induction h with
  | nil i a sl => exact ⟨fun _ => a, fun _ => sl, fun _ => ⟨undef, none⟩, rfl, rfl, rfl, rfl, fun k o h => by simp at h⟩
  | @cons i o rest a a' sl sl' d ds hrw hq _ ih =>
    obtain ⟨fr, sls, dd, h1, h2, h3, h4, h5⟩ := ih
    refine ⟨fun k => if k = i then a else fr k, fun k => if k = i then sl else sls k, fun k => if k = i then d else dd k, by simp, by simp, ?_, ?_, ?_⟩
    · have : i + (o :: rest).length ≠ i := by simp
      show (if i + (o :: rest).length = i then a else fr (i + (o :: rest).length)) = a'
      rw [if_neg this, ← h3]; simp [Nat.add_assoc, Nat.add_comm 1]
    · have : i + (o :: rest).length ≠ i := by simp
      show (if i + (o :: rest).length = i then sl else sls (i + (o :: rest).length)) = sl'
      rw [if_neg this, ← h4]; simp [Nat.add_assoc, Nat.add_comm 1]
    · intro k o' hk
      cases k with
      | zero =>
        simp only [List.getElem?_cons_zero, Option.some.injEq] at hk
        subst hk
        simp only [Nat.add_zero, if_true]
        refine ⟨hrw, hq, ?_, ?_⟩
        · rw [if_neg (by omega), h1]
        · rw [if_neg (by omega), h2]
      | succ k =>
        simp only [List.getElem?_cons_succ] at hk
        have := h5 k o' hk
        rw [show i + (k + 1) = i + 1 + k from by omega]
        have n1 : i + 1 + k ≠ i := by omega
        have n2 : i + 1 + k + 1 ≠ i := by omega
        simp only [if_neg n1, if_neg n2]
        exact this

theorem all_range {n : Nat} {p : Nat → Bool} (h : (List.range n).all p = true) {i : Nat} (hi : i < n) : p i = true := List.all_eq_true.1 h i (List.mem_range.2 hi)

theorem rdok_of {all : List Oper} {cls : List (List Nat)} {q : Nat} {m : Mem} {a a' : List Value} {sl' : Slots} {ds : List QD} (hd : drawOk all cls q = true) (hq : Qts P all cls m 0 (all.take q) a [] ds a' sl') :
    ∃ r : RD, RDOK P r ∧ r.all = all ∧ r.cls = cls ∧ r.q = q ∧ r.m = m ∧ r.a = a ∧ r.fr q = a' ∧ r.sl q = sl' := by
  obtain ⟨fr, sls, d, h1, h2, h3, h4, h5⟩ := hq.data
  simp only [drawOk, Bool.and_eq_true, decide_eq_true_eq] at hd
  obtain ⟨⟨hle, hord⟩, hsl⟩ := hd
  have htl : (all.take q).length = q := by simp [hle]
  rw [htl, Nat.zero_add] at h3 h4
  refine ⟨⟨all, cls, q, m, a, fr, sls, d⟩, ⟨hle, h1, h2, ?_, ?_, ?_, ?_, ?_, ?_⟩, rfl, rfl, rfl, rfl, rfl, h3, h4⟩
  · intro i o hi ho
    have := h5 i o (by rw [List.getElem?_take, if_pos hi]; exact ho)
    simpa using this
  · intro i o ho j hj
    have := all_range hord (lt_of_getElem? ho)
    simp only at ho
    rw [ho] at this
    simp only [Bool.and_eq_true] at this
    simpa using List.all_eq_true.1 this.1.1 j hj
  · intro i o ho x hx
    have := all_range hord (lt_of_getElem? ho)
    simp only at ho hx
    rw [ho] at this
    simp only [Bool.and_eq_true] at this
    have := List.all_eq_true.1 this.1.2 x hx
    simp only [Bool.or_eq_true, List.any_eq_true] at this
    rcases this with h | ⟨j, hj, h⟩
    · exact .inl (contains_iff.1 h)
    · exact .inr ⟨j, hj, contains_iff.1 h⟩
  · intro i j hqi hi hji
    have := all_range hord hi
    simp only at hi hqi
    rw [List.getElem?_eq_getElem hi] at this
    simp only [Bool.and_eq_true, Bool.or_eq_true, decide_eq_true_eq] at this
    rcases this.2 with h | h
    · omega
    · exact contains_iff.1 (all_range h hji)
  · intro i k t hi hk hik hdk
    have := all_range (all_range hsl hi) hk
    simp only at hi hk
    have hil : i < all.length := by omega
    have hkl : k < all.length := by omega
    simp only [RD.dst, List.getElem?_eq_getElem hil, List.getElem?_eq_getElem hkl, Option.bind_some] at hdk ⊢
    rw [List.getElem?_eq_getElem hil, List.getElem?_eq_getElem hkl] at this
    simp only [hdk, Bool.or_eq_true, beq_iff_eq, Bool.and_eq_true, bne_iff_ne] at this
    rcases this with h | h
    · exact absurd h hik
    · exact h.1
  · intro i k oi ok t hi hk hik hoi hok hdk ht
    have := all_range (all_range hsl hi) hk
    simp only at hoi hok ht
    rw [hoi, hok] at this
    simp only [hdk, Bool.or_eq_true, beq_iff_eq, Bool.and_eq_true, bne_iff_ne, Bool.not_eq_true', decide_eq_true_eq] at this
    rcases this with h | ⟨_, h⟩
    · exact absurd h hik
    · rcases h with (h | ⟨h, h'⟩) | ⟨h, h'⟩
      · have := contains_iff.2 ht
        rw [h] at this; cases this
      · exact .inl ⟨h, contains_iff.1 h'⟩
      · exact .inr ⟨h, contains_iff.1 h'⟩

variable {r : RD} {G₀ : List (Option GB)}

/-- The operations behind the quiet ones come up one behind the other. -/
theorem tail_ok {n₀ : Nat} {R : Type} {X : Ans P n₀ R} {T : Tab P} (h : RDOK P r) {c : Ctx} {g₀ : List (Option GB)} {K : Exit → List Value → Mem → Prop} {ops : Array Oper} (hops : ops.toList = r.all) {k : List Value → Mem → R} (hk : ∀ a m, X.holds (k a m) → K .normal a m) :
    ∀ (l : List Oper) (t : Nat) (listed : Array Bool) (A : Act) (W : World) (a : List Value) (m : Mem) (g : List (Option GB)), r.q ≤ t → l = r.all.drop t → t + l.length = r.all.length → listed.size = r.all.length → (∀ j, j < r.all.length → listed.getD j false = decide (j < t)) →
      X.holds (evOps X T r.all l a m k) → Rel P c (g₀ ++ g) m W → ARel (g₀ ++ g) a A → wpAny P .any ops (Post P c g₀ K) l.length listed A W
  | [], t, listed, A, W, a, m, g, ht, hl, htl, hsz, hE, hh, hr, ha => by
    simp only [evOps, forceL_eq, forceM_eq] at hh
    refine ⟨?_, a, m, g, hk _ _ hh, hr, ha⟩
    cases hre : Region.ready .any ops listed with
    | nil => rfl
    | cons i rest =>
      exfalso
      obtain ⟨h1, h2, _⟩ := (ready_iff hops hsz).1 (by rw [hre]; exact List.mem_cons_self)
      rw [hE i h1] at h2
      simp at htl h2; omega
  | o :: rest, t, listed, A, W, a, m, g, ht, hl, htl, hsz, hE, hh, hr, ha => by
    simp only [List.length_cons] at htl
    have htlt : t < r.all.length := by omega
    have ho : r.all[t]? = some o := by
      have := congrArg (fun l => l[0]?) hl
      simp at this
      exact this.symm
    have hEt : listed.getD t false = false := by rw [hE t htlt]; simp
    refine ⟨fun hempty => absurd hempty (ready_some h hops hsz htlt hEt), fun i hi => ?_⟩
    obtain ⟨hin, hEi, oi, hoi, hw⟩ := (ready_iff hops hsz).1 hi
    have hit : i = t := by
      rw [hE i hin] at hEi
      have hge : t ≤ i := by simpa using hEi
      rcases Nat.lt_or_ge t i with hlt | hle
      · exfalso
        have hclosed : ∀ k ok, listed.getD k false = true → r.all[k]? = some ok → ∀ j ∈ waits ok, listed.getD j false = true := by
          intro k ok hk' hok j hj
          have hkl := lt_of_getElem? hok
          have := h.early k ok hok j hj
          rw [hE k hkl] at hk'
          rw [hE j (by omega)]
          simp at hk' ⊢; omega
        have := cl_sub h (E := fun k => listed.getD k false) hclosed (i + 1) i oi (by omega) hoi hw t (h.tail i t (by omega) hin hlt)
        rw [hEt] at this; cases this
      · omega
    subst hit
    have hops' : ops[i]? = some o := by rw [← ho, ← hops]; simp
    have hset : ∀ k, (listed.setIfInBounds i true).getD k false = (listed.getD k false || k == i) := fun k => getD_set (by rw [hsz]; exact hin)
    have hall : ops = r.all.toArray := by rw [← hops]
    have := evOps_head (c := c) (g₀ := g₀) (Q := Post P c g₀ K) hh hr ha (K := wpAny P .any ops (Post P c g₀ K) rest.length (listed.setIfInBounds i true)) fun a' m' g' A' W' hN hr' ha' =>
      tail_ok h hops hk rest (i + 1) (listed.setIfInBounds i true) A' W' a' m' g' (by omega) (by
        have := congrArg List.tail hl
        simp only [List.tail_cons, List.tail_drop] at this
        exact this) (by omega) (by simp [hsz]) (fun j hj => by
          rw [hset, hE j hj]
          by_cases e : j = i
          · subst e; simp
          · have : (j == i) = false := by simpa using e
            rw [this, Bool.or_false]
            by_cases h1 : j < i
            · simp [h1]; omega
            · have : ¬ j < i + 1 := by omega
              simp [h1, this]) hN hr' ha'
    unfold wpOp
    rw [hops']
    simp only
    rw [← hall] at this
    split
    · rename_i hwn; rw [if_pos hwn] at this; exact .inl this
    · rename_i hwn; rw [if_neg hwn] at this; exact this

/-- Evaluation of a region that draws its order. -/
def evDraw1 {R : Type} (X : Ops R) (T : Tab P) (all : List Oper) (q : Nat) (a : List Value) (m : Mem) (k : List Value → Mem → R) : R :=
  X.nd (drawOk all (closures all) q) (evQ X T all (closures all) m 0 (all.take q) a [] fun a' sl' => forceM (m ++ sl'.map fun p => some p.2) fun m' => evOps X T all (all.drop q) a' m' k)

theorem draw_any {n₀ : Nat} {R : Type} {X : Ans P n₀ R} {T : Tab P} {K : Exit → List Value → Mem → Prop} {a : List Value} {m : Mem} {ops : Array Oper} {q : Nat} {k : List Value → Mem → R} (h : X.holds (evDraw1 X T ops.toList q a m k))
    (hk : ∀ a m, X.holds (k a m) → K .normal a m) {c : Ctx} {g₀ g : List (Option GB)} {A : Act} {W : World} (hr : Rel P c (g₀ ++ g) m W) (ha : ARel (g₀ ++ g) a A) :
    wpAny P .any ops (Post P c g₀ K) ops.size (Array.replicate ops.size false) A { W with drawn := W.drawn + 1 } := by
  obtain ⟨hd, h⟩ := X.nd_ok _ _ h
  obtain ⟨ds, a', sl', hq, h⟩ := evQ_ok _ _ _ _ _ h
  rw [forceM_eq] at h
  obtain ⟨r, hrd, e1, e2, e3, e4, e5, e6, e7⟩ := rdok_of hd hq
  have hops : ops.toList = r.all := e1.symm
  have hsz : ops.size = r.all.length := by rw [← hops]; simp
  have hrep : ∀ j, (Array.replicate ops.size false).getD j false = false := by
    intro j
    simp only [Array.getD_eq_getD_getElem?, Array.getElem?_replicate]
    split <;> rfl
  have hfr0 : r.frE (fun _ => false) = a := by
    have := RD.fr_lex hrd 0 (by omega)
    rw [hrd.fr0, e5] at this
    rw [this]
    exact r.frE_congr fun k _ => by simp
  have hslots : ∀ i b, i < r.q → (r.d i).nb = some b → r.m.length ≤ r.id i ∧ r.id i < r.m.length + (r.sl r.q).length := by
    intro i b hi hb
    have := (RD.mE_some hrd (E := fun _ => false) hi rfl hb).1
    rw [r.mE_length] at this
    exact ⟨by simp [RD.id], this⟩
  have hm0 : r.mE (fun _ => false) = m ++ (r.sl r.q).map fun _ => none := by
    unfold RD.mE
    rw [e4]; simp
  -- the numbers of the new blocks stand for nothing yet
  have hrel : Rel P c (g₀ ++ g ++ List.replicate (r.sl r.q).length none) (r.mE (fun _ => false)) { W with drawn := W.drawn + 1 } := by
    rw [hm0]
    have hr' : Rel P c (g₀ ++ g) m { W with drawn := W.drawn + 1 } := hr.drew
    have look : ∀ (j : Nat) (b : ABlk) (gb : GB), (m ++ (r.sl r.q).map fun _ => (none : Option ABlk))[j]? = some (some b) → (g₀ ++ g ++ List.replicate (r.sl r.q).length none)[j]? = some (some gb) → m[j]? = some (some b) ∧ (g₀ ++ g)[j]? = some (some gb) := by
      intro j b gb hj hgj
      rcases Nat.lt_or_ge j m.length with hl | hl
      · rw [List.getElem?_append_left hl] at hj
        rw [List.getElem?_append_left (by rw [hr.len]; exact hl)] at hgj
        exact ⟨hj, hgj⟩
      · exfalso
        rw [List.getElem?_append_right hl, List.getElem?_map] at hj
        cases hx : (r.sl r.q)[j - m.length]? <;> rw [hx] at hj <;> simp at hj
    refine ⟨by rw [List.length_append, hr.len]; simp, ?_, ?_, hr'.frame, hr'.size, hr'.os, hr'.tape, hr'.output⟩
    · intro j b gb hj hgj
      obtain ⟨hj, hgj⟩ := look j b gb hj hgj
      obtain ⟨cs, fr, hh, hf, rest⟩ := hr'.blk j b gb hj hgj
      exact ⟨cs, fr, hh, hf.imp fun _ _ h => h.app, rest⟩
    · intro p q' bp bq gp gq hne hp hq' hrw hgp hgq
      obtain ⟨hp, hgp⟩ := look p bp gp hp hgp
      obtain ⟨hq', hgq⟩ := look q' bq gq hq' hgq
      exact hr'.inj p q' bp bq gp gq hne hp hq' hrw hgp hgq
  have s0 : RSt P r c (g₀ ++ g ++ List.replicate (r.sl r.q).length none) (fun k => (Array.replicate ops.size false).getD k false) (g₀ ++ g ++ List.replicate (r.sl r.q).length none) A { W with drawn := W.drawn + 1 } := by
    have he : (fun k => (Array.replicate ops.size false).getD k false) = fun _ => false := funext hrep
    rw [he]
    refine ⟨hrel, by rw [hfr0]; exact ha.app, fun _ _ => rfl, ?_, ?_⟩
    · intro i b hi _ hb
      obtain ⟨h1, h2⟩ := hslots i b hi hb
      rw [List.getElem?_append_right (by rw [hr.len, ← e4]; exact h1), List.getElem?_replicate, if_pos (by rw [hr.len, ← e4]; omega)]
    · intro j b gb hj hgj
      rw [hm0] at hj
      rcases Nat.lt_or_ge j m.length with hl | hl
      · rw [List.getElem?_append_left hl] at hj
        rw [List.getElem?_append_left (by rw [hr.len]; exact hl)] at hgj
        obtain ⟨cs, fr, hh, hf, _⟩ := hr.blk j b gb hj hgj
        have := hf.lowS
        rw [hr.len, ← e4] at this
        exact all_lowS_le (by omega) this
      · exfalso
        rw [List.getElem?_append_right hl, List.getElem?_map] at hj
        cases hx : (r.sl r.q)[j - m.length]? <;> rw [hx] at hj <;> simp at hj
  rw [hsz]
  refine any_ok hrd hops (Q := Post P c g₀ K) ?_ r.all.length (Array.replicate r.all.length false) A _ _ (by simp) ?_ ?_ ?_ (by rw [← hsz]; exact s0)
  · intro A' W' G listed s hls hlE
    have hfull : r.frE (fun k => decide (k < r.q)) = a' := by rw [← RD.fr_lex hrd r.q (Nat.le_refl _), e3, e6]
    have hmfull : r.mE (fun k => decide (k < r.q)) = m ++ sl'.map fun p => some p.2 := by
      unfold RD.mE
      rw [e4]
      congr 1
      rw [e3, e7]
      apply List.map_congr_left
      intro p hp
      have := RD.sl_low hrd (Nat.le_refl r.q) p (by rw [e3, e7]; exact hp)
      rw [e3] at this
      simp [this]
    have hgm : g₀.length + g.length = r.m.length := by rw [← List.length_append, hr.len, e4]
    have hGl : G.length = r.m.length + (r.sl r.q).length := by rw [s.rel.len, r.mE_length]
    -- the caller's numbers stand for what they stood for
    have hG : G = g₀ ++ G.drop g₀.length := by
      apply List.ext_getElem?
      intro j
      rcases Nat.lt_or_ge j g₀.length with hl | hl
      · rw [List.getElem?_append_left hl, s.base j (by omega), List.append_assoc, List.getElem?_append_left hl]
      · rw [List.getElem?_append_right hl, List.getElem?_drop, show g₀.length + (j - g₀.length) = j from by omega]
    have hrel' := s.rel
    have hfrm' := s.frm
    rw [hfull] at hfrm'
    rw [hmfull] at hrel'
    rw [hG] at hrel' hfrm'
    have hdl : (r.all.drop r.q).length = r.all.length - r.q := by simp
    have := tail_ok (T := T) hrd (c := c) (g₀ := g₀) (K := K) hops hk (r.all.drop r.q) r.q listed A' W' a' (m ++ sl'.map fun p => some p.2) (G.drop g₀.length) (Nat.le_refl _) rfl (by rw [hdl]; have := hrd.le; omega) hls hlE
      (by rw [e1, e3]; exact h) hrel' hfrm'
    rw [hdl] at this
    exact this
  · have : cnt (fun k => (Array.replicate r.all.length false).getD k false) r.all.length = 0 := by
      rw [cnt_congr (E' := fun _ => false) fun k _ => by rw [← hsz]; exact hrep k]
      simp [cnt]
    omega
  · intro k ok hk'
    rw [← hsz, hrep] at hk'; cases hk'
  · intro k hk'
    rw [← hsz, hrep] at hk'; cases hk'
/-- Evaluation of a region that draws its order. -/
def evDraw {R : Type} (X : Ops R) (T : Tab P) (all : List Oper) (q : Nat) (a : List Value) (m : Mem) (k : List Value → Mem → R) : R := evDraw1 X T (lateFix all q) q a m k

theorem lateFix_length (all : List Oper) (q : Nat) : (lateFix all q).length = all.length := by
  cases q with
  | zero => rfl
  | succ p =>
    simp only [lateFix]
    cases lateAt all p <;> simp

theorem AWp.draw {n₀ : Nat} {R : Type} {X : Ans P n₀ R} {T : Tab P} {K : Exit → List Value → Mem → Prop} {a : List Value} {m : Mem} {id : Nat} {ops : Array Oper} {q : Nat} {k : List Value → Mem → R} (h : X.holds (evDraw X T ops.toList q a m k))
    (hk : ∀ a m, X.holds (k a m) → K .normal a m) : AWp P n₀ (.region id ops true) K a m := by
  refine AWp.mono (K := fun e a m => e = .normal ∧ K e a m) ?_ fun _ _ _ h => h.2
  intro c g₀ g A W hn hr ha
  refine wp_region_any T.mixed ?_
  have hsz : (lateFix ops.toList q).toArray.size = ops.size := by simp [lateFix_length]
  refine wpAny_fix (fun c' a' w' ⟨_, _, _, ⟨e, _⟩, _⟩ => by cases e) q (by simp) ?_
  have := draw_any (K := fun e a m => e = .normal ∧ K e a m) (ops := (lateFix ops.toList q).toArray) (q := q) (k := k) (X := X) (T := T) (a := a) (m := m) h (fun a m h => ⟨rfl, hk a m h⟩) hr ha
  rw [hsz] at this
  exact this
end Go.AE
