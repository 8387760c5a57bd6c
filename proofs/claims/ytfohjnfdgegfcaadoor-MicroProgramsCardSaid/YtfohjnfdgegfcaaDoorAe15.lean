/-
  An abstract logic for the model (part 15): how frames and memories look, evaluated by functions. Conditions: none.
-/
import Derived.Test.YtfohjnfdgegfcaaDoorAe14
namespace Go.AE
variable {P : Program}

/-- A region's data: its operations, what they wait for, what the quiet ones (the first q) come to. -/
structure RD where
  all : List Oper
  cls : List (List Nat)
  q : Nat
  m : Mem
  a : List Value
  fr : Nat → List Value
  sl : Nat → Slots
  d : Nat → QD

def RD.dst (r : RD) (k : Nat) : Option Tmp := (r.all[k]?).bind (·.dst)

/-- What is known of the data. -/
structure RDOK (P : Program) (r : RD) : Prop where
  le : r.q ≤ r.all.length
  fr0 : r.fr 0 = r.a
  sl0 : r.sl 0 = []
  step : ∀ i o, i < r.q → r.all[i]? = some o → (∀ b, (r.d i).nb = some b → b.rw = true) ∧ QtOK P r.all (r.cls.getD i []) r.m o (r.fr i) (r.sl i) (r.d i) ∧
    r.fr (i + 1) = putA (r.fr i) o.dst (r.d i).v ∧ r.sl (i + 1) = r.sl i ++ (r.d i).nb.toList.map fun b => (i, b)
  early : ∀ i o, r.all[i]? = some o → ∀ j ∈ waits o, j < i
  cl : ∀ i o, r.all[i]? = some o → ∀ x ∈ r.cls.getD i [], x ∈ waits o ∨ ∃ j ∈ waits o, x ∈ r.cls.getD j []
  tail : ∀ i j, r.q ≤ i → i < r.all.length → j < i → j ∈ r.cls.getD i []
  dsts : ∀ i k t, i < r.q → k < r.q → i ≠ k → r.dst k = some t → r.dst i ≠ some t
  looks : ∀ i k oi ok t, i < r.q → k < r.q → i ≠ k → r.all[i]? = some oi → r.all[k]? = some ok → ok.dst = some t → t ∈ oi.looksAt r.all.toArray → (k < i ∧ k ∈ waits oi) ∨ (i < k ∧ i ∈ waits ok)

/-- The frame when just the operations of E have come up. -/
def RD.frE (r : RD) (E : Nat → Bool) : List Value :=
  (List.range r.a.length).map fun t => match (List.range r.q).find? (fun k => E k && r.dst k == some t) with
    | some k => (r.d k).v
    | none => (r.a[t]?).getD undef
/-- The memory then. -/
def RD.mE (r : RD) (E : Nat → Bool) : Mem := r.m ++ (r.sl r.q).map fun p => if E p.1 then some p.2 else none

theorem find_congr {p p' : Nat → Bool} {n : Nat} (h : ∀ k, k < n → p k = p' k) : (List.range n).find? p = (List.range n).find? p' := by
  have : ∀ l : List Nat, (∀ k ∈ l, p k = p' k) → l.find? p = l.find? p' := by
    intro l
    induction l with
    | nil => intro _; rfl
    | cons x l ih =>
      intro hl
      rw [List.find?_cons, List.find?_cons, hl x (by simp), ih fun k hk => hl k (by simp [hk])]
  exact this _ fun k hk => h k (List.mem_range.1 hk)
theorem find_unique {p : Nat → Bool} {n i : Nat} (hi : i < n) (hp : p i = true) (h : ∀ k, k < n → p k = true → k = i) : (List.range n).find? p = some i := by
  cases hf : (List.range n).find? p with
  | none =>
    have := List.find?_eq_none.1 hf i (List.mem_range.2 hi)
    exact absurd hp this
  | some k =>
    have h1 := List.find?_some hf
    have h2 := List.mem_of_find?_eq_some hf
    rw [h k (List.mem_range.1 h2) h1]

variable {r : RD} {G₀ : List (Option GB)}

theorem RD.frE_get (r : RD) (E : Nat → Bool) (t : Nat) : (r.frE E)[t]? = if t < r.a.length then some (match (List.range r.q).find? (fun k => E k && r.dst k == some t) with
    | some k => (r.d k).v
    | none => (r.a[t]?).getD undef) else none := by
  unfold RD.frE
  rw [List.getElem?_map]
  split
  · rename_i h; rw [List.getElem?_range h]; rfl
  · rename_i h; rw [List.getElem?_eq_none (by simpa using Nat.le_of_not_lt h)]; rfl

theorem RD.frE_congr (r : RD) {E E' : Nat → Bool} (h : ∀ k, k < r.q → E k = E' k) : r.frE E = r.frE E' := by
  apply List.ext_getElem?
  intro t
  rw [r.frE_get, r.frE_get, find_congr (p' := fun k => E' k && r.dst k == some t)]
  intro k hk
  rw [h k hk]

theorem RD.frE_put (h : RDOK P r) {E : Nat → Bool} {i : Nat} (hi : i < r.q) (hE : E i = false) : r.frE (fun k => E k || k == i) = putA (r.frE E) (r.dst i) (r.d i).v := by
  apply List.ext_getElem?
  intro t
  rw [r.frE_get]
  have other : r.dst i ≠ some t → (List.range r.q).find? (fun k => (E k || k == i) && r.dst k == some t) = (List.range r.q).find? (fun k => E k && r.dst k == some t) := by
    intro hne
    apply find_congr
    intro k hk
    by_cases hki : k = i
    · subst hki
      have : (r.dst k == some t) = false := by simpa using hne
      rw [this]; simp
    · have : (k == i) = false := by simpa using hki
      rw [this]; simp
  cases hd : r.dst i with
  | none =>
    simp only [putA]
    rw [r.frE_get, other (by rw [hd]; simp)]
  | some u =>
    simp only [putA]
    rw [List.getElem?_set, r.frE_get]
    by_cases hut : u = t
    · subst hut
      rw [if_pos rfl]
      have hl : (r.frE E).length = r.a.length := by simp [RD.frE]
      rw [hl]
      have hf : (List.range r.q).find? (fun k => (E k || k == i) && r.dst k == some u) = some i := by
        refine find_unique hi (by simp [hd]) ?_
        intro k hk hp
        rcases Classical.em (k = i) with hki | hki
        · exact hki
        · exfalso
          simp only [Bool.and_eq_true, beq_iff_eq] at hp
          exact h.dsts k i u hk hi hki hd hp.2
      rw [hf]
    · rw [if_neg hut, other (by rw [hd]; simpa using hut)]

theorem RD.fr_lex (h : RDOK P r) : ∀ i, i ≤ r.q → r.fr i = r.frE (fun k => decide (k < i))
  | 0, _ => by
    rw [h.fr0]
    apply List.ext_getElem?
    intro t
    rw [r.frE_get]
    have : (List.range r.q).find? (fun k => decide (k < 0) && r.dst k == some t) = none := by
      rw [List.find?_eq_none]; intro k _; simp
    rw [this]
    split
    · rename_i hl; rw [List.getElem?_eq_getElem hl]; rfl
    · rename_i hl; exact List.getElem?_eq_none (Nat.le_of_not_lt hl)
  | i + 1, hi => by
    have hil : i < r.all.length := by have := h.le; omega
    obtain ⟨_, _, hf, _⟩ := h.step i r.all[i] (by omega) (List.getElem?_eq_getElem hil)
    rw [hf, RD.fr_lex h i (by omega)]
    have hd : r.dst i = r.all[i].dst := by simp [RD.dst, List.getElem?_eq_getElem hil]
    rw [← hd, ← RD.frE_put h (by omega) (by simp)]
    apply r.frE_congr
    intro k hk
    by_cases h1 : k < i
    · simp [h1]; omega
    · by_cases h2 : k = i
      · simp [h2]
      · have : ¬ k < i + 1 := by omega
        simp [h1, h2, this]

theorem RD.sl_prefix (h : RDOK P r) : ∀ n i, i + n ≤ r.q → ∃ more : Slots, r.sl (i + n) = r.sl i ++ more ∧ ∀ p ∈ more, i ≤ p.1 ∧ p.1 < i + n
  | 0, i, _ => ⟨[], by simp, by simp⟩
  | n + 1, i, hi => by
    obtain ⟨more, hm, hp⟩ := RD.sl_prefix h n i (by omega)
    have hil : i + n < r.all.length := by have := h.le; omega
    obtain ⟨_, _, _, hs⟩ := h.step (i + n) r.all[i + n] (by omega) (List.getElem?_eq_getElem hil)
    refine ⟨more ++ (r.d (i + n)).nb.toList.map fun b => (i + n, b), by rw [← Nat.add_assoc, hs, hm, List.append_assoc], ?_⟩
    intro p hp'
    rcases List.mem_append.1 hp' with hp' | hp'
    · have := hp p hp'; omega
    · obtain ⟨b, _, rfl⟩ := List.mem_map.1 hp'
      simp only; omega

theorem RD.sl_low (h : RDOK P r) {i : Nat} (hi : i ≤ r.q) : ∀ p ∈ r.sl i, p.1 < i := by
  obtain ⟨more, hm, hp⟩ := RD.sl_prefix h i 0 (by omega)
  rw [Nat.zero_add, h.sl0, List.nil_append] at hm
  intro p hp'
  rw [hm] at hp'
  have := hp p hp'
  omega

theorem RD.sl_split (h : RDOK P r) {i : Nat} (hi : i < r.q) : ∃ more : Slots, r.sl r.q = r.sl i ++ ((r.d i).nb.toList.map fun b => (i, b)) ++ more ∧ ∀ p ∈ more, i < p.1 := by
  obtain ⟨more, hm, hp⟩ := RD.sl_prefix h (r.q - (i + 1)) (i + 1) (by omega)
  rw [show i + 1 + (r.q - (i + 1)) = r.q from by omega] at hm
  have hil : i < r.all.length := by have := h.le; omega
  obtain ⟨_, _, _, hs⟩ := h.step i r.all[i] hi (List.getElem?_eq_getElem hil)
  rw [hs] at hm
  exact ⟨more, hm, fun p hp' => by have := hp p hp'; omega⟩

/-- Where operation i's new block lies. -/
def RD.id (r : RD) (i : Nat) : Nat := r.m.length + (r.sl i).length

theorem RD.mE_length (r : RD) (E : Nat → Bool) : (r.mE E).length = r.m.length + (r.sl r.q).length := by simp [RD.mE]

theorem RD.mE_none (h : RDOK P r) {E : Nat → Bool} {i : Nat} (hi : i < r.q) (hn : (r.d i).nb = none) : r.mE (fun k => E k || k == i) = r.mE E := by
  obtain ⟨more, hm, hp⟩ := RD.sl_split h hi
  rw [hn] at hm
  simp only [Option.toList_none, List.map_nil, List.append_nil] at hm
  unfold RD.mE
  congr 1
  apply List.map_congr_left
  intro p hp'
  have hne : p.1 ≠ i := by
    rw [hm] at hp'
    rcases List.mem_append.1 hp' with h1 | h1
    · have := RD.sl_low h (Nat.le_of_lt hi) p h1; omega
    · have := hp p h1; omega
  simp [hne]

theorem RD.mE_some (h : RDOK P r) {E : Nat → Bool} {i : Nat} (hi : i < r.q) (hE : E i = false) {b : ABlk} (hb : (r.d i).nb = some b) :
    r.id i < (r.mE E).length ∧ (r.mE E)[r.id i]? = some none ∧ r.mE (fun k => E k || k == i) = (r.mE E).set (r.id i) (some b) := by
  obtain ⟨more, hm, hp⟩ := RD.sl_split h hi
  rw [hb] at hm
  simp only [Option.toList_some, List.map_cons, List.map_nil] at hm
  have e0 : r.mE E = (r.m ++ (r.sl i).map fun p => if E p.1 then some p.2 else none) ++ none :: more.map fun p => if E p.1 then some p.2 else none := by
    unfold RD.mE
    rw [hm]
    simp [hE]
  have e1 : r.mE (fun k => E k || k == i) = (r.m ++ (r.sl i).map fun p => if E p.1 then some p.2 else none) ++ some b :: more.map fun p => if E p.1 then some p.2 else none := by
    unfold RD.mE
    rw [hm]
    simp only [List.map_append, List.map_cons, List.append_assoc, List.singleton_append, beq_self_eq_true, Bool.or_true, if_true]
    congr 1
    have g1 : ∀ p ∈ r.sl i, (if (E p.1 || p.1 == i) = true then some p.2 else none) = if E p.1 = true then some p.2 else none := by
      intro p hp'
      have := RD.sl_low h (Nat.le_of_lt hi) p hp'
      have : (p.1 == i) = false := by simpa using Nat.ne_of_lt this
      rw [this]; simp
    have g2 : ∀ p ∈ more, (if (E p.1 || p.1 == i) = true then some p.2 else none) = if E p.1 = true then some p.2 else none := by
      intro p hp'
      have := hp p hp'
      have : (p.1 == i) = false := by simpa using Nat.ne_of_gt this
      rw [this]; simp
    rw [List.map_congr_left g1, List.map_congr_left g2]
  have hl : (r.m ++ (r.sl i).map fun p => if E p.1 then some p.2 else none).length = r.id i := by simp [RD.id]
  refine ⟨by rw [e0]; simp [RD.id], ?_, ?_⟩
  · rw [e0, List.getElem?_append_right (by rw [hl]; exact Nat.le_refl _), hl]; simp
  · rw [e1, e0, List.set_append_right _ _ (by rw [hl]; exact Nat.le_refl _), hl]; simp

theorem SR.lowS {g : List (Option GB)} {v w : Value} (h : SR g v w) : AE.lowS g.length v = true := by
  cases h with
  | ptr j off gb hg => simpa [AE.lowS] using lt_of_getElem? hg
  | slice j off len cap gb hg => simpa [AE.lowS] using lt_of_getElem? hg
  | top => rfl
  | bool => rfl
  | int => rfl
  | str => rfl
  | ptr0 => rfl
  | slice0 => rfl
  | nilFunc => rfl
  | nilIface => rfl
  | func => rfl
theorem F2.lowS {g : List (Option GB)} {l l' : List Value} (h : F2 (SR g) l l') : l.all (AE.lowS g.length) = true := by
  induction h with
  | nil => rfl
  | cons hr _ ih => simp only [List.all_cons, Bool.and_eq_true]; exact ⟨hr.lowS, ih⟩
theorem lowS_le {n n' : Nat} (h : n ≤ n') {v : Value} (hl : AE.lowS n v = true) : AE.lowS n' v = true := by
  unfold AE.lowS at *
  split at hl <;> simp_all <;> omega
theorem all_lowS_le {n n' : Nat} (h : n ≤ n') {l : List Value} (hl : l.all (AE.lowS n) = true) : l.all (AE.lowS n') = true :=
  List.all_eq_true.2 fun v hv => lowS_le h (List.all_eq_true.1 hl v hv)

/-- The world 'W' and the frame 'A' when just the operations of E have come up. -/
structure RSt (P : Program) (r : RD) (c : Ctx) (G₀ : List (Option GB)) (E : Nat → Bool) (G : List (Option GB)) (A : Act) (W : World) : Prop where
  rel : Rel P c G (r.mE E) W
  frm : ARel G (r.frE E) A
  base : ∀ j, j < r.m.length → G[j]? = G₀[j]?
  none_ : ∀ i b, i < r.q → E i = false → (r.d i).nb = some b → G[r.id i]? = some none
  low : ∀ (j : Nat) (b : ABlk) (gb : GB), (r.mE E)[j]? = some (some b) → G[j]? = some (some gb) → b.cells.all (AE.lowS (max r.m.length (j + 1))) = true

theorem Gle.refl (g : List (Option GB)) : Gle g g := fun _ _ h => h
theorem Gle.set {g : List (Option GB)} {i : Nat} (h : g[i]? = some none) (x : Option GB) : Gle g (g.set i x) := by
  intro j gb hj
  rw [List.getElem?_set]
  split
  · rename_i e; subst e; rw [h] at hj; simp at hj
  · exact hj
theorem Gle.take (g : List (Option GB)) (n : Nat) : Gle (g.take n) g := by
  intro j gb hj
  rw [List.getElem?_take] at hj
  split at hj
  · exact hj
  · cases hj
theorem Gle.take_set {g : List (Option GB)} {n : Nat} (x : Option GB) (hn : n < g.length) : Gle (g.take n ++ [x]) (g.set n x) := by
  intro j gb hj
  have hl : (g.take n).length = n := by simp; omega
  rcases Nat.lt_trichotomy j n with h | h | h
  · rw [List.getElem?_append_left (by rw [hl]; exact h), getElem?_take_of_lt h] at hj
    rw [List.getElem?_set, if_neg (by omega)]; exact hj
  · subst h
    rw [List.getElem?_append_right (by rw [hl]; exact Nat.le_refl _), hl] at hj
    rw [List.getElem?_set, if_pos rfl, if_pos hn]
    simpa using hj
  · rw [List.getElem?_eq_none (by simp; omega)] at hj; cases hj

theorem contains_iff {l : List Nat} {x : Nat} : l.contains x = true ↔ x ∈ l := by simp

/-- The memory that operation i sees is there. -/
theorem RSt.view {c : Ctx} {E : Nat → Bool} {G : List (Option GB)} {A : Act} {W : World} (h : RDOK P r) (s : RSt P r c G₀ E G A W) {i : Nat} (hi : i < r.q) (hcl : ∀ j ∈ r.cls.getD i [], E j = true) :
    Rel P ⟨W, fun _ => False, s.rel.good⟩ (G.take (r.id i)) (memFor (r.cls.getD i []) r.m (r.sl i)) W := by
  obtain ⟨more, hm, _⟩ := RD.sl_split h hi
  have hlen : r.id i ≤ G.length := by
    rw [s.rel.len, r.mE_length, hm]; simp [RD.id]
  have see : ∀ (j : Nat) (b : ABlk), (memFor (r.cls.getD i []) r.m (r.sl i))[j]? = some (some b) → j < r.id i ∧ ∃ b0, b = roBlk b0 ∧ (r.mE E)[j]? = some (some b0) := by
    intro j b hj
    have hjl := lt_of_getElem? hj
    have hml : (memFor (r.cls.getD i []) r.m (r.sl i)).length = r.id i := by simp [memFor, roM, RD.id]
    rw [hml] at hjl
    refine ⟨hjl, ?_⟩
    unfold memFor at hj
    have hrl : (roM r.m).length = r.m.length := by simp [roM]
    rcases Nat.lt_or_ge j r.m.length with hlt | hge
    · rw [List.getElem?_append_left (by rw [hrl]; exact hlt)] at hj
      unfold roM at hj
      rw [List.getElem?_map, List.getElem?_eq_getElem hlt] at hj
      simp only [Option.map_some, Option.some.injEq] at hj
      cases hb0 : r.m[j] with
      | none => rw [hb0] at hj; cases hj
      | some b0 =>
        rw [hb0] at hj
        simp only [Option.map_some, Option.some.injEq] at hj
        refine ⟨b0, hj.symm, ?_⟩
        unfold RD.mE
        rw [List.getElem?_append_left hlt, List.getElem?_eq_getElem hlt, hb0]
    · rw [List.getElem?_append_right (by rw [hrl]; exact hge), hrl, List.getElem?_map] at hj
      cases hp : (r.sl i)[j - r.m.length]? with
      | none => rw [hp] at hj; cases hj
      | some p =>
        rw [hp] at hj
        simp only [Option.map_some, Option.some.injEq] at hj
        split at hj
        case isFalse => cases hj
        rename_i hc
        simp only [Option.some.injEq] at hj
        refine ⟨p.2, hj.symm, ?_⟩
        unfold RD.mE
        rw [List.getElem?_append_right hge, hm, List.getElem?_map, List.append_assoc, List.getElem?_append_left (lt_of_getElem? hp), hp]
        simp [hcl p.1 (contains_iff.1 hc)]
  refine ⟨?_, ?_, ?_, fun _ _ _ => rfl, Nat.le_refl _, rfl, rfl, rfl⟩
  · rw [List.length_take, Nat.min_eq_left hlen]; simp [memFor, roM, RD.id]
  · intro j b gb hj hg
    obtain ⟨hjl, b0, rfl, hb0⟩ := see j b hj
    rw [getElem?_take_of_lt hjl] at hg
    obtain ⟨cs, fr, hh, hf, hsz, _, hex⟩ := s.rel.blk j b0 gb hb0 hg
    refine ⟨cs, fr, hh, ?_, hsz, fun h => (by cases h), hex⟩
    have hlow := s.low j b0 gb hb0 hg
    have hid : max r.m.length (j + 1) ≤ r.id i := by simp only [RD.id] at hjl ⊢; omega
    exact F2.low (p := AE.lowS (r.id i)) (fun v w hr hp => SR.low hr hp) hf (all_lowS_le hid hlow)
  · intro p q bp bq gp gq _ hp _ hrw
    obtain ⟨_, b0, rfl, _⟩ := see p bp hp
    cases hrw

/-- What operation i looks at is as the text has it. -/
theorem RD.same_looks (h : RDOK P r) {E : Nat → Bool} {i : Nat} {o : Oper} (hi : i < r.q) (ho : r.all[i]? = some o) (hE : E i = false) (hready : ∀ j ∈ waits o, E j = true) (hclosed : ∀ k ok, E k = true → r.all[k]? = some ok → ∀ j ∈ waits ok, E j = true)
    {t : Tmp} (ht : t ∈ o.looksAt r.all.toArray) : (r.frE E)[t]? = (r.fr i)[t]? := by
  rw [RD.fr_lex h i (Nat.le_of_lt hi), r.frE_get, r.frE_get]
  have : (List.range r.q).find? (fun k => E k && r.dst k == some t) = (List.range r.q).find? (fun k => decide (k < i) && r.dst k == some t) := by
    apply find_congr
    intro k hk
    cases hd : (r.dst k == some t) with
    | false => simp
    | true =>
      simp only [Bool.and_true]
      have hd : r.dst k = some t := by simpa using hd
      by_cases hki : k = i
      · subst hki; rw [hE]; simp
      · have hkl : k < r.all.length := by have := h.le; omega
        have hok : r.all[k]? = some r.all[k] := List.getElem?_eq_getElem hkl
        have hdk : r.all[k].dst = some t := by simpa [RD.dst, hok] using hd
        rcases h.looks i k o r.all[k] t hi hk (fun e => hki e.symm) ho hok hdk ht with ⟨h1, h2⟩ | ⟨h1, h2⟩
        · rw [hready k h2]; simp [h1]
        · have : E k = false := by
            cases hEk : E k with
            | false => rfl
            | true =>
              have := hclosed k r.all[k] hEk hok i h2
              rw [hE] at this; cases this
          rw [this]
          have : ¬ k < i := by omega
          simp [this]
  rw [this]
end Go.AE
