/-
  An abstract logic for the model (part 9): how frames and memories look, evaluated by functions. Conditions: none.
-/
import Derived.Test.YtfohjnfdgegfcaaDoorAe8
namespace Go.AE
variable {P : Program}

/-- A part of a slice. -/
def evSlice {R : Type} (X : Ops R) (T : Tab P) (t : TypeId) (x : Value) (lo hi : Option Value) (m : Mem) (k : Value → R) : R :=
  match T.und t, x with
  | some .string, .string _ =>
    match sliceStrA T t x lo hi with
    | some (cs, v) => cs.foldr X.nd (k v)
    | none => X.fl
  | some (.slice e), .slice (some ⟨j, off, none⟩) len cap =>
    match T.inf e, boundA lo 0, boundA hi len, m[j]? with
    | some te, some l, some h, some (some b) =>
      X.nd (decide (0 ≤ h ∧ h ≤ cap ∧ 0 ≤ l ∧ l ≤ h))
        (if b.ex then X.br (decide (l = cap)) (k (.slice (some ⟨j, off, none⟩) 0 0)) (k (.slice (some ⟨j, off + l.toNat * te.size, none⟩) (h.toNat - l.toNat) (cap - l.toNat)))
        else X.nd (decide (l < cap ∨ l = 0)) (k (.slice (some ⟨j, off + l.toNat * te.size, none⟩) (h.toNat - l.toNat) (cap - l.toNat))))
    | _, _, _, _ => X.fl
  | some (.slice e), .slice none 0 0 =>
    match T.inf e, boundA lo 0, boundA hi 0 with
    | some _, some l, some h => X.nd (decide (l = 0 ∧ h = 0)) (k (.slice none 0 0))
    | _, _, _ => X.fl
  | some (.array n e), .pointer (some ⟨j, off, none⟩) =>
    match T.inf e, boundA lo 0, boundA hi n, m[j]? with
    | some te, some l, some h, some (some b) =>
      X.nd (b.ex && decide (0 ≤ h ∧ h ≤ n ∧ 0 ≤ l ∧ l ≤ h ∧ l < n)) (k (.slice (some ⟨j, off + l.toNat * te.size, none⟩) (h.toNat - l.toNat) (n - l.toNat)))
    | _, _, _, _ => X.fl
  | _, _ => X.fl

theorem foldr_nd {n₀ : Nat} {R : Type} {X : Ans P n₀ R} : ∀ (cs : List Bool) (r : R), X.holds (cs.foldr X.nd r) → (∀ c ∈ cs, c = true) ∧ X.holds r
  | [], r, h => ⟨fun c hc => (by cases hc), h⟩
  | c :: cs, r, h => by
    obtain ⟨h1, h2⟩ := X.nd_ok c _ h
    obtain ⟨h3, h4⟩ := foldr_nd cs r h2
    refine ⟨fun c' hc' => ?_, h4⟩
    cases hc' with
    | head => exact h1
    | tail _ hc' => exact h3 c' hc'

theorem evSlice_ok {n₀ : Nat} {R : Type} {X : Ans P n₀ R} {T : Tab P} {t : TypeId} {x x' : Value} {lo hi lo' hi' : Option Value} {m : Mem} {k : Value → R} (h : X.holds (evSlice X T t x lo hi m k)) {c : Ctx} {g : List (Option GB)} {W : World}
    (hr : Rel P c g m W) (hx : VR g x x') (hl : ∀ v, lo = some v → ∃ w, lo' = some w ∧ VR g v w) (hln : lo = none → lo' = none) (hh : ∀ v, hi = some v → ∃ w, hi' = some w ∧ VR g v w) (hhn : hi = none → hi' = none) :
    ∃ v w, (Instr.sliceAt t x' lo' hi' none).run P W = .ok w W ∧ VR g v w ∧ X.holds (k v) := by
  unfold evSlice at h
  split at h
  · split at h
    case h_2 => exact absurd h X.fl_ok
    rename_i cs v hs
    obtain ⟨hc, h⟩ := foldr_nd _ _ h
    have := sliceStrA_ok hs hc hx hl hln hh hhn W
    exact ⟨v, v, this.1, this.2, h⟩
  · rename_i e j off len cap hd
    split at h
    case h_2 => exact absurd h X.fl_ok
    rename_i te l hb b hte h1 h2 hj
    obtain ⟨hc, h⟩ := X.nd_ok _ _ h
    obtain ⟨c1, c2, c3, c4⟩ := of_decide_eq_true hc
    cases hx with
    | a hx => cases hx with
      | s hx => cases hx with
        | slice _ _ _ _ gb hg =>
          have run : (Instr.sliceAt t (.slice (some ⟨gb.b, off, none⟩) len (cap + gb.extra)) lo' hi' none).run P W =
              .ok (.slice (if cap + gb.extra = l.toNat then some ⟨gb.b, off, none⟩ else some ⟨gb.b, off + l.toNat * te.size, none⟩) (hb.toNat - l.toNat) (cap + gb.extra - l.toNat)) W := by
            have c2' : hb ≤ ((cap + gb.extra : Nat) : Int) := by omega
            have c2'' : hb ≤ (cap : Int) + (gb.extra : Int) := by omega
            rcases bound_ok h1 hl hln with ⟨_, rfl, rfl⟩ | ⟨k1, rfl⟩ <;> rcases bound_ok h2 hh hhn with ⟨_, rfl, rfl⟩ | ⟨k2, rfl⟩
            · simp [Instr.sliceAt, T.run_und hd, Instr.slice, Instr.sliceBounds, T.run_size hte, Addr.add_lit]
            · simp [Instr.sliceAt, T.run_und hd, Instr.slice, Instr.sliceBounds, Instr.sliceBound, asIntOf, c1, c2'', T.run_size hte, Addr.add_lit]
            · simp [Instr.sliceAt, T.run_und hd, Instr.slice, Instr.sliceBounds, Instr.sliceBound, asIntOf, c3, c4, T.run_size hte, Addr.add_lit]
            · have c4' : ¬ (hb < l) := by omega
              simp [Instr.sliceAt, T.run_und hd, Instr.slice, Instr.sliceBounds, Instr.sliceBound, asIntOf, c1, c2'', c3, T.run_size hte, Addr.add_lit]
              intro hm; exfalso; omega
          split at h
          · rename_i hrw
            obtain ⟨cs, fr, _, _, _, _, hex⟩ := hr.blk j b gb hj hg
            have hex := hex hrw
            obtain ⟨h3, h4⟩ := X.br_ok _ _ _ h
            by_cases h0 : l = cap
            · have h := h3 (by simpa using h0)
              refine ⟨_, _, run, ?_, h⟩
              have e1 : hb.toNat - l.toNat = 0 := by omega
              have e2 : cap + gb.extra - l.toNat = 0 := by omega
              have e3 : cap + gb.extra = l.toNat := by omega
              rw [if_pos e3, e1, e2]
              have := SR.slice (g := g) j off 0 0 gb hg
              rw [hex] at this
              exact .s this
            · have h := h4 (by simpa using h0)
              refine ⟨_, _, run, ?_, h⟩
              rw [if_neg (by omega)]
              have := SR.slice (g := g) j (off + l.toNat * te.size) (hb.toNat - l.toNat) (cap - l.toNat) gb hg
              rw [show cap - l.toNat + gb.extra = cap + gb.extra - l.toNat from by omega] at this
              exact .s this
          · obtain ⟨hc, h⟩ := X.nd_ok _ _ h
            have hc := of_decide_eq_true hc
            refine ⟨_, _, run, ?_, h⟩
            by_cases h0 : cap + gb.extra = l.toNat
            · have hl0 : l = 0 := by omega
              subst hl0
              simp only [Int.toNat_zero, Nat.zero_mul, Nat.add_zero, Nat.sub_zero, ite_self]
              exact .s (.slice _ _ _ _ _ hg)
            · rw [if_neg h0]
              have := SR.slice (g := g) j (off + l.toNat * te.size) (hb.toNat - l.toNat) (cap - l.toNat) gb hg
              rw [show cap - l.toNat + gb.extra = cap + gb.extra - l.toNat from by omega] at this
              exact .s this
  · rename_i e hd
    split at h
    case h_2 => exact absurd h X.fl_ok
    rename_i te l hb hte h1 h2
    obtain ⟨hc, h'⟩ := X.nd_ok _ _ h
    obtain ⟨rfl, rfl⟩ := of_decide_eq_true hc
    cases hx with
    | a hx => cases hx with
      | s hx => cases hx with
        | slice0 =>
          refine ⟨_, .slice none 0 0, ?_, .s .slice0, h'⟩
          rcases bound_ok h1 hl hln with ⟨_, rfl, _⟩ | ⟨k1, rfl⟩ <;> rcases bound_ok h2 hh hhn with ⟨_, rfl, _⟩ | ⟨k2, rfl⟩ <;>
            simp [Instr.sliceAt, T.run_und hd, Instr.slice, Instr.sliceBounds, Instr.sliceBound, asIntOf, T.run_size hte]
  · rename_i n e j off hd
    split at h
    case h_2 => exact absurd h X.fl_ok
    rename_i te l hb b hte h1 h2 hj
    obtain ⟨hc, h'⟩ := X.nd_ok _ _ h
    rw [Bool.and_eq_true] at hc
    obtain ⟨c1, c2, c3, c4, c5⟩ := of_decide_eq_true hc.2
    cases hx with
    | a hx => cases hx with
      | s hx => cases hx with
        | ptr _ _ gb hg =>
          obtain ⟨cs, fr, _, _, _, _, hex⟩ := hr.blk j b gb hj hg
          have hex := hex hc.1
          have run : (Instr.sliceAt t (.pointer (some ⟨gb.b, off, none⟩)) lo' hi' none).run P W =
              .ok (.slice (if n = l.toNat then some ⟨gb.b, off, none⟩ else some ⟨gb.b, off + l.toNat * te.size, none⟩) (hb.toNat - l.toNat) (n - l.toNat)) W := by
            rcases bound_ok h1 hl hln with ⟨_, rfl, rfl⟩ | ⟨k1, rfl⟩ <;> rcases bound_ok h2 hh hhn with ⟨_, rfl, rfl⟩ | ⟨k2, rfl⟩
            · simp [Instr.sliceAt, T.run_und hd, Instr.sureAddr, Instr.sliceBounds, T.run_size hte, Addr.add_lit, apply_ite]
            · simp [Instr.sliceAt, T.run_und hd, Instr.sureAddr, Instr.sliceBounds, Instr.sliceBound, asIntOf, c1, c2, T.run_size hte, Addr.add_lit, apply_ite]
            · simp [Instr.sliceAt, T.run_und hd, Instr.sureAddr, Instr.sliceBounds, Instr.sliceBound, asIntOf, c3, c4, T.run_size hte, Addr.add_lit, apply_ite]
            · have c4' : l ≤ max hb 0 := by omega
              simp [Instr.sliceAt, T.run_und hd, Instr.sureAddr, Instr.sliceBounds, Instr.sliceBound, asIntOf, c1, c2, c3, c4', T.run_size hte, Addr.add_lit, apply_ite]
          refine ⟨_, _, run, ?_, h'⟩
          rw [if_neg (by omega)]
          have := SR.slice (g := g) j (off + l.toNat * te.size) (hb.toNat - l.toNat) (n - l.toNat) gb hg
          rw [hex] at this
          exact .s this
  · exact absurd h X.fl_ok
end Go.AE
