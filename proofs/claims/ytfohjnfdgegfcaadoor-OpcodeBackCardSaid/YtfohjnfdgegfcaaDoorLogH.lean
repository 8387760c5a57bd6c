/-
  An abstract logic for the model (part H): how frames and memories look, evaluated by functions. Conditions: none.
-/
import Derived.Test.YtfohjnfdgegfcaaDoorLogG
namespace Go.AE
open Go.RowKit
variable {P : Program}

/-- A block g of the world holds these cells, and room up to cap; it lies at or beyond base. -/
def RowAt (W : World) (base : Nat) (e : TypeId) (g cap : Nat) (xs : List Value) : Prop :=
  base ≤ g ∧ ∃ cs : Array Value, W.heap[g]? = some (.cells cs e (0, 0)) ∧ xs.length ≤ cap ∧ cap ≤ cs.size ∧ cs.toList.take xs.length = xs

/-- A block that a call has left is taken in. -/
theorem Rel.add {c : Ctx} {g : List (Option GB)} {m : Mem} {W W' : World} (h : Rel P c g m W) (hb : Below W.heap.size W W') {e : TypeId} {q cap : Nat} {xs : List Value} (hr : RowAt W' W.heap.size e q cap xs) (hc : P.cellsOf e = 1)
    (hp : xs.all plainS = true) : Rel P c (g ++ [some ⟨q, cap - xs.length⟩]) (m ++ [some ⟨xs, e, true, false⟩]) W' := by
  obtain ⟨hq, cs, hh, h1, h2, h3⟩ := hr
  have h' := h.below hb
  have hlt : ∀ (j : Nat) (b : ABlk) (gb : GB), m[j]? = some (some b) → g[j]? = some (some gb) → gb.b < W.heap.size := by
    intro j b gb hj hg
    obtain ⟨cs, fr, hh, _⟩ := h.blk j b gb hj hg
    rcases Nat.lt_or_ge gb.b W.heap.size with h' | h'
    · exact h'
    · rw [Array.getElem?_eq_none h'] at hh; cases hh
  have split : ∀ (j : Nat) (b : ABlk) (gb : GB), (m ++ [some ⟨xs, e, true, false⟩])[j]? = some (some b) → (g ++ [some ⟨q, cap - xs.length⟩])[j]? = some (some gb) →
      (m[j]? = some (some b) ∧ g[j]? = some (some gb)) ∨ (j = m.length ∧ b = ⟨xs, e, true, false⟩ ∧ gb = ⟨q, cap - xs.length⟩) := by
    intro j b gb hj hg
    rcases Nat.lt_trichotomy j m.length with hl | hl | hl
    · rw [List.getElem?_append_left hl] at hj
      rw [List.getElem?_append_left (by rw [h.len]; exact hl)] at hg
      exact .inl ⟨hj, hg⟩
    · subst hl
      rw [List.getElem?_append_right (Nat.le_refl _)] at hj
      rw [← h.len, List.getElem?_append_right (Nat.le_refl _)] at hg
      simp at hj hg
      exact .inr ⟨rfl, hj.symm, hg.symm⟩
    · rw [List.getElem?_eq_none (by simp; omega)] at hj; cases hj
  refine ⟨by simp [h.len], ?_, ?_, h'.frame, h'.size, h'.os, h'.tape, h'.output⟩
  · intro j b gb hj hg
    rcases split j b gb hj hg with ⟨hj, hg⟩ | ⟨rfl, rfl, rfl⟩
    · obtain ⟨cs', fr', hh', hf', rest⟩ := h'.blk j b gb hj hg
      exact ⟨cs', fr', hh', hf'.imp fun _ _ h => h.app, rest⟩
    · refine ⟨cs, (0, 0), hh, ?_, ?_, fun _ => ⟨rfl, .inl (Nat.le_trans h.size hq)⟩, fun h => (by cases h)⟩
      · simp only [h3]
        exact F2.refl _ fun x hx => SR.plain _ (List.all_eq_true.1 hp x hx)
      · simp only [hc]; omega
  · intro p r bp br gp gr hne hp' hr' hrw hgp hgr
    rcases split p bp gp hp' hgp with ⟨hp', hgp⟩ | ⟨rfl, rfl, rfl⟩ <;> rcases split r br gr hr' hgr with ⟨hr', hgr⟩ | ⟨rfl, rfl, rfl⟩
    · exact h.inj p r bp br gp gr hne hp' hr' hrw hgp hgr
    · have := hlt p bp gp hp' hgp; show gp.b ≠ q; omega
    · have := hlt r br gr hr' hgr; show q ≠ gr.b; omega
    · exact absurd rfl hne

/-- A contract in the model's own words: a slice of a block of the call's own. -/
theorem ACall.of_row {f : FuncId} {aa : List Value} {m : Mem} {e : TypeId} {xs : List Value} (hp : aa.all plainS = true) (hx : xs.all plainS = true) (hc : P.cellsOf e = 1)
    (h : ∀ W, Good W (fun _ => False) → Calls P f ⟨aa⟩ W fun r W' => (∃ q cap, r = .returned (.slice (some ⟨q, 0, none⟩) xs.length cap) ∧ RowAt W' W.heap.size e q cap xs) ∧ Below W.heap.size W W') :
    ACall P f aa m fun v m' => v = .slice (some ⟨m.length, 0, none⟩) xs.length xs.length ∧ m' = m ++ [some ⟨xs, e, true, false⟩] := by
  intro c g W args' hr ha
  obtain rfl := VRs.plain_eq hp ha
  refine (h W hr.good).mono ?_
  rintro r W' ⟨⟨q, cap, rfl, hrow⟩, hb⟩
  refine ⟨_, _, _, [some ⟨q, cap - xs.length⟩], rfl, ⟨rfl, rfl⟩, hr.add hb hrow hc hx, ?_⟩
  have hl : xs.length ≤ cap := hrow.2.choose_spec.2.1
  have := SR.slice (g := g ++ [some ⟨q, cap - xs.length⟩]) m.length 0 xs.length xs.length ⟨q, cap - xs.length⟩ (last_app hr.len)
  rw [show xs.length + (cap - xs.length) = cap from by omega] at this
  exact .s this
end Go.AE
namespace Go.AE
open Go.RowKit
variable {P : Program}
/-- A contract over one block that may be written, in the model's own words. -/
theorem ACall.on_row {f : FuncId} {xs ys : List Value} {e : TypeId} {V : Value} (hc : P.cellsOf e = 1) (hp : xs.all plainS = true) (hy : ys.all plainS = true) (hl : ys.length = xs.length)
    (h : ACall P f [.slice (some ⟨0, 0, none⟩) xs.length xs.length] [some ⟨xs, e, true, false⟩] fun v m' => v = V ∧ m' = [some ⟨ys, e, true, false⟩])
    {base : Nat} {W : World} {g cap : Nat} (hg : Good W fun _ => False) (h1 : 1 ≤ g) (hr : RowAt W base e g cap xs) :
    Calls P f #[.slice (some ⟨g, 0, none⟩) xs.length cap] W fun r W' => (∃ v', r = .returned v' ∧ VR [some ⟨g, cap - xs.length⟩] V v') ∧ W.grownBy W' (some g) ∧ RowAt W' base e g cap ys := by
  obtain ⟨hb, cs, hh, h2, h3, h4⟩ := hr
  have hgood : Good W fun k => k = g := ⟨by omega, hg.2⟩
  have hrel : Rel P ⟨W, fun k => k = g, hgood⟩ [some ⟨g, cap - xs.length⟩] [some ⟨xs, e, true, false⟩] W := by
    refine ⟨rfl, ?_, ?_, fun _ _ _ => rfl, Nat.le_refl _, rfl, rfl, rfl⟩
    · intro j b gb hj hgb
      cases j with
      | succ j => simp at hj
      | zero =>
        simp only [List.getElem?_cons_zero, Option.some.injEq] at hj hgb
        subst hj hgb
        refine ⟨cs, (0, 0), hh, ?_, ?_, fun _ => ⟨rfl, .inr rfl⟩, fun h => (by cases h)⟩
        · simp only [h4]
          exact F2.refl _ fun x hx => SR.plain _ (List.all_eq_true.1 hp x hx)
        · simp only [hc]; omega
    · intro i j bi bj gi gj hne hi hj
      cases i with
      | succ i => simp at hi
      | zero => cases j with
        | succ j => simp at hj
        | zero => exact absurd rfl hne
  have hs : SR [some ⟨g, cap - xs.length⟩] (.slice (some ⟨0, 0, none⟩) xs.length xs.length) (.slice (some ⟨g, 0, none⟩) xs.length cap) := by
    have := SR.slice (g := [some ⟨g, cap - xs.length⟩]) 0 0 xs.length xs.length ⟨g, cap - xs.length⟩ rfl
    rwa [show xs.length + (cap - xs.length) = cap from by omega] at this
  refine (h _ _ W [.slice (some ⟨g, 0, none⟩) xs.length cap] hrel (.cons (.s hs) .nil)).mono ?_
  rintro r W' ⟨v, v', m', g', rfl, ⟨rfl, rfl⟩, hr', hv⟩
  have hg' : g' = [] := by
    have := hr'.len
    simp at this
    exact this
  subst hg'
  refine ⟨⟨v', rfl, by simpa using hv⟩, ⟨hr'.os, hr'.tape, hr'.output, hr'.size, fun k hk hne => hr'.frame k hk (fun e => hne (by rw [e]))⟩, ?_⟩
  obtain ⟨cs', fr, hh', hf, hsz, hrw, _⟩ := hr'.blk 0 _ _ rfl rfl
  obtain ⟨rfl, _⟩ := hrw rfl
  refine ⟨hb, cs', hh', by omega, ?_, ?_⟩
  · simp only [hc] at hsz
    omega
  · have plain : ∀ {l l' : List Value}, l.all plainS = true → F2 (SR ([some ⟨g, cap - xs.length⟩] ++ [])) l l' → l' = l := by
      intro l l' hp hf
      induction hf with
      | nil => rfl
      | cons hr _ ih =>
        simp only [List.all_cons, Bool.and_eq_true] at hp
        rw [hr.plain_eq hp.1, ih hp.2]
    exact plain hy hf
end Go.AE
