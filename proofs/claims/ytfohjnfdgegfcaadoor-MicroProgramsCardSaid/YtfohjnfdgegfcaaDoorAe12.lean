/-
  An abstract logic for the model (part 12): how frames and memories look, evaluated by functions. Conditions: none.
-/
import Derived.Test.YtfohjnfdgegfcaaDoorAe11
namespace Go.AE
variable {P : Program}

/-- Blocks numbered anew, in a scalar, in a value. -/
def renS (ρ : Nat → Nat) : Value → Value
  | .pointer (some ⟨j, o, s⟩) => .pointer (some ⟨ρ j, o, s⟩)
  | .slice (some ⟨j, o, s⟩) n c => .slice (some ⟨ρ j, o, s⟩) n c
  | v => v
def ren1 (ρ : Nat → Nat) : Value → Value
  | .agg ⟨l⟩ => .agg ⟨l.map (renS ρ)⟩
  | v => renS ρ v
def ren (ρ : Nat → Nat) : Value → Value
  | .tuple ⟨l⟩ => .tuple ⟨l.map (ren1 ρ)⟩
  | v => ren1 ρ v

theorem SR.ren {g g' : List (Option GB)} {ρ : Nat → Nat} (h : ∀ (i : Nat) (gb : GB), g[i]? = some (some gb) → g'[ρ i]? = some (some gb)) {v w : Value} (hv : SR g v w) : SR g' (renS ρ v) w := by
  cases hv with
  | top _ h => exact .top _ h
  | ptr j off gb hg => exact .ptr _ off gb (h j gb hg)
  | slice j off len cap gb hg => exact .slice _ off len cap gb (h j gb hg)
  | bool => exact .bool _
  | int => exact .int _ _
  | str => exact .str _
  | ptr0 => exact .ptr0
  | slice0 => exact .slice0
  | nilFunc => exact .nilFunc
  | nilIface => exact .nilIface
  | func => exact .func _
theorem ren1_scalar {ρ : Nat → Nat} {v : Value} (h : scalarV v = true) : ren1 ρ v = renS ρ v := by
  cases v <;> first | rfl | cases h
theorem AR.ren {g g' : List (Option GB)} {ρ : Nat → Nat} (h : ∀ (i : Nat) (gb : GB), g[i]? = some (some gb) → g'[ρ i]? = some (some gb)) {v w : Value} (hv : AR g v w) : AR g' (ren1 ρ v) w := by
  cases hv with
  | s hs => rw [ren1_scalar hs.scalar.1]; exact .s (hs.ren h)
  | agg hf => exact .agg (by
      have := hf.map (S := SR g') (f := renS ρ) (f' := id) fun _ _ h' => h'.ren h
      simpa using this)
theorem ren_scalar {ρ : Nat → Nat} {v : Value} (h : scalarV v = true) : ren ρ v = renS ρ v := by
  cases v <;> first | rfl | cases h
theorem VR.ren {g g' : List (Option GB)} {ρ : Nat → Nat} (h : ∀ (i : Nat) (gb : GB), g[i]? = some (some gb) → g'[ρ i]? = some (some gb)) {v w : Value} (hv : VR g v w) : VR g' (AE.ren ρ v) w := by
  cases hv with
  | a ha =>
    have : AE.ren ρ v = ren1 ρ v := by
      cases ha with
      | s hs => rw [ren_scalar hs.scalar.1, ren1_scalar hs.scalar.1]
      | agg _ => rfl
    rw [this]
    exact .a (ha.ren h)
  | tup hf => exact .tup (by
      have := hf.map (S := AR g') (f := ren1 ρ) (f' := id) fun _ _ h' => h'.ren h
      simpa using this)
  | top => exact .top _

/-- The blocks that a value names lie below n. -/
def lowS (n : Nat) : Value → Bool
  | .pointer (some ⟨j, _, _⟩) => decide (j < n)
  | .slice (some ⟨j, _, _⟩) _ _ => decide (j < n)
  | _ => true
def low1 (n : Nat) : Value → Bool
  | .agg ⟨l⟩ => l.all (lowS n)
  | v => lowS n v
def low (n : Nat) : Value → Bool
  | .tuple ⟨l⟩ => l.all (low1 n)
  | v => low1 n v

theorem SR.back {g g' : List (Option GB)} {ρ : Nat → Nat} {n : Nat} (h : ∀ (i : Nat) (gb : GB), i < n → g[ρ i]? = some (some gb) → g'[i]? = some (some gb)) : ∀ {v w : Value}, lowS n v = true → SR g (renS ρ v) w → SR g' v w := by
  intro v w hl hv
  unfold renS at hv
  split at hv
  · cases hv with
    | ptr _ _ gb hg => exact .ptr _ _ gb (h _ gb (by simpa [lowS] using hl) hg)
  · cases hv with
    | slice _ _ _ _ gb hg => exact .slice _ _ _ _ gb (h _ gb (by simpa [lowS] using hl) hg)
  · rename_i h1 h2
    cases hv with
    | top _ h => exact .top _ h
    | ptr j off gb hg => exact absurd rfl (h1 j off none)
    | slice j off len cap gb hg => exact absurd rfl (h2 j off none len cap)
    | bool => exact .bool _
    | int => exact .int _ _
    | str => exact .str _
    | ptr0 => exact .ptr0
    | slice0 => exact .slice0
    | nilFunc => exact .nilFunc
    | nilIface => exact .nilIface
    | func => exact .func _

theorem F2.back {R : Value → Value → Prop} {S : Value → Value → Prop} {f : Value → Value} {p : Value → Bool} (h : ∀ v w, p v = true → R (f v) w → S v w) : ∀ {l : List Value} {l' : List Value}, l.all p = true → F2 R (l.map f) l' → F2 S l l'
  | [], [], _, _ => .nil
  | v :: l, w :: l', hp, .cons hr hf => by
    simp only [List.all_cons, Bool.and_eq_true] at hp
    exact .cons (h v w hp.1 hr) (F2.back h hp.2 hf)

theorem AR.back {g g' : List (Option GB)} {ρ : Nat → Nat} {n : Nat} (h : ∀ (i : Nat) (gb : GB), i < n → g[ρ i]? = some (some gb) → g'[i]? = some (some gb)) {v w : Value} (hl : low1 n v = true) (hv : AR g (ren1 ρ v) w) : AR g' v w := by
  unfold ren1 at hv
  split at hv
  · rename_i l
    cases hv with
    | s hs => cases hs
    | agg hf => exact .agg (F2.back (p := lowS n) (fun v w hp hr => SR.back h hp hr) hl hf)
  · rename_i hne
    have hl' : lowS n v = true := by
      unfold low1 at hl
      split at hl
      · exact absurd rfl (hne _)
      · exact hl
    generalize he : renS ρ v = u at hv
    cases hv with
    | s hs => exact .s (SR.back h hl' (by rw [he]; exact hs))
    | agg hf =>
      exfalso
      unfold renS at he
      split at he
      · cases he
      · cases he
      · exact hne _ he

theorem VR.back {g g' : List (Option GB)} {ρ : Nat → Nat} {n : Nat} (h : ∀ (i : Nat) (gb : GB), i < n → g[ρ i]? = some (some gb) → g'[i]? = some (some gb)) {v w : Value} (hl : low n v = true) (hv : VR g (AE.ren ρ v) w) : VR g' v w := by
  unfold AE.ren at hv
  split at hv
  · rename_i l
    cases hv with
    | a ha => cases ha with
      | s hs => cases hs
    | tup hf => exact .tup (F2.back (p := low1 n) (fun v w hp hr => AR.back h hp hr) hl hf)
  · rename_i hne
    have hl' : low1 n v = true := by
      unfold low at hl
      split at hl
      · exact absurd rfl (hne _)
      · exact hl
    generalize he : ren1 ρ v = u at hv
    cases hv with
    | a ha => exact .a (AR.back h hl' (by rw [he]; exact ha))
    | tup hf =>
      exfalso
      unfold ren1 at he
      split at he
      · cases he
      · unfold renS at he
        split at he
        · cases he
        · cases he
        · exact hne _ he
    | top _ =>
      have : v = topV := by
        unfold ren1 at he
        split at he
        · cases he
        · unfold renS at he
          split at he
          · cases he
          · cases he
          · exact he
      rw [this]; exact .top _

/-- A block that is handed on for reading. -/
def roBlk (b : ABlk) : ABlk := { b with rw := false }
def renBlk (ρ : Nat → Nat) (b : ABlk) : ABlk := { b with cells := b.cells.map (renS ρ) }

/-- The local memory 'm0' shows the caller's blocks 'js', for reading. -/
def Shows (m : Mem) (js : List Nat) (m0 : Mem) : Prop :=
  m0.length = js.length ∧ ∀ (i : Nat) (b : ABlk), m0[i]? = some (some b) → ∃ j b', js[i]? = some j ∧ m[j]? = some (some b') ∧ b'.cells = b.cells.map (renS fun i => js.getD i 0) ∧ b'.elem = b.elem ∧ (b.ex = true → b'.ex = true) ∧ b.rw = false ∧ b.cells.all (lowS js.length) = true

/-- Where the callee's blocks lie. -/
def place (js : List Nat) (n : Nat) (i : Nat) : Nat := if i < js.length then js.getD i 0 else n + (i - js.length)

theorem ACall.frame {f : FuncId} {as : List Value} {m0 : Mem} {K : Value → Mem → Prop} (h : ACall P f as m0 fun v m1 => ∃ nb : List ABlk, m1 = m0 ++ nb.map some ∧ nb.all (·.rw) = true ∧ K v (nb.map some)) (m : Mem) (js : List Nat) (hs : Shows m js m0) (hjs : ∀ j ∈ js, j < m.length)
    (has : as.all (low js.length) = true) :
    ACall P f (as.map (ren (place js m.length))) m fun v m' => ∃ (v0 : Value) (nb : List ABlk), K v0 (nb.map some) ∧ v = ren (place js m.length) v0 ∧ m' = m ++ nb.map fun b => some (renBlk (place js m.length) b) := by
  intro c g W args' hr hargs
  have hg0 : ∀ (i : Nat) (gb : GB), i < js.length → g[place js m.length i]? = some (some gb) → (js.map fun j => g.getD j none)[i]? = some (some gb) := by
    intro i gb hi hgb
    simp only [place, if_pos hi] at hgb
    rw [List.getElem?_map, List.getElem?_eq_getElem hi]
    simp only [Option.map_some, Option.some.injEq]
    rw [List.getD_eq_getElem?_getD, List.getElem?_eq_getElem hi] at hgb
    simp only [Option.getD_some] at hgb
    rw [List.getD_eq_getElem?_getD, hgb]; rfl
  have hget : ∀ (i : Nat) (gb : GB), (js.map fun j => g.getD j none)[i]? = some (some gb) → ∃ j, js[i]? = some j ∧ g[j]? = some (some gb) := by
    intro i gb hi
    rw [List.getElem?_map] at hi
    cases hj : js[i]? with
    | none => rw [hj] at hi; cases hi
    | some j =>
      rw [hj] at hi
      simp only [Option.map_some, Option.some.injEq] at hi
      have hlt := hjs j (List.mem_of_getElem? hj)
      rw [← hr.len] at hlt
      refine ⟨j, rfl, ?_⟩
      rw [List.getD_eq_getElem?_getD, List.getElem?_eq_getElem hlt] at hi
      rw [List.getElem?_eq_getElem hlt, ← hi]; rfl
  have hr0 : Rel P ⟨W, fun _ => False, hr.good⟩ (js.map fun j => g.getD j none) m0 W := by
    refine ⟨by simp [hs.1], ?_, ?_, fun _ _ _ => rfl, Nat.le_refl _, rfl, rfl, rfl⟩
    · intro i b gb hb hgb
      obtain ⟨j, b', hj, hmj, hcells, helem, hex, hro, hlow⟩ := hs.2 i b hb
      obtain ⟨j', hj', hgj⟩ := hget i gb hgb
      obtain rfl : j = j' := by rw [hj] at hj'; exact Option.some.inj hj'
      obtain ⟨cs, fr, hh, hf, hsz, _, hx⟩ := hr.blk j b' gb hmj hgj
      refine ⟨cs, fr, by rw [← helem]; exact hh, ?_, ?_, ?_, fun h => hx (hex h)⟩
      · rw [hcells, List.length_map] at hf
        refine F2.back (p := lowS js.length) (fun v w hp hr => SR.back (n := js.length) (fun i gb hi h => ?_) hp hr) hlow hf
        exact hg0 i gb hi (by simp only [place, if_pos hi]; exact h)
      · rw [hcells, List.length_map, helem] at hsz; exact hsz
      · intro h; rw [hro] at h; cases h
    · intro i j bi bj gi gj _ hbi _ hrw
      obtain ⟨_, _, _, _, _, _, _, hro, _⟩ := hs.2 i bi hbi
      rw [hro] at hrw; cases hrw
  have hargs0 : F2 (VR (js.map fun j => g.getD j none)) as args' := F2.back (p := low js.length) (fun v w hp hv => VR.back (n := js.length) hg0 hp hv) has hargs
  refine (h ⟨W, fun _ => False, hr.good⟩ _ W args' hr0 hargs0).mono ?_
  rintro e W' ⟨v0, v', m1, g', rfl, ⟨nb, rfl, hnb, hK⟩, hr1, hv⟩
  have hlen1 := hr1.len
  simp only [List.length_append, List.length_map] at hlen1
  have hg'l : g'.length = nb.length := by have := hs.1; omega
  have hρ : ∀ (i : Nat) (gb : GB), ((js.map fun j => g.getD j none) ++ g')[i]? = some (some gb) → (g ++ g')[place js m.length i]? = some (some gb) := by
    intro i gb hi
    by_cases hlt : i < js.length
    · rw [List.getElem?_append_left (by simpa using hlt)] at hi
      obtain ⟨j, hj, hgj⟩ := hget i gb hi
      simp only [place, if_pos hlt]
      rw [List.getD_eq_getElem?_getD, hj]
      exact getElem?_app hgj
    · rw [List.getElem?_append_right (by simpa using Nat.le_of_not_lt hlt)] at hi
      simp only [List.length_map] at hi
      simp only [place, if_neg hlt]
      rw [List.getElem?_append_right (by rw [hr.len]; omega), hr.len, show m.length + (i - js.length) - m.length = i - js.length from by omega]
      exact hi
  have hold : ∀ k, k < W.heap.size → W'.heap[k]? = W.heap[k]? := fun k hk => hr1.frame k hk (fun h => h)
  have hlt : ∀ (j : Nat) (b : ABlk) (gb : GB), m[j]? = some (some b) → g[j]? = some (some gb) → gb.b < W.heap.size := by
    intro j b gb hj hg
    obtain ⟨cs, fr, hh, _⟩ := hr.blk j b gb hj hg
    rcases Nat.lt_or_ge gb.b W.heap.size with h' | h'
    · exact h'
    · rw [Array.getElem?_eq_none h'] at hh; cases hh
  have split : ∀ (j : Nat) (b : ABlk) (gb : GB), (m ++ nb.map fun b => some (renBlk (place js m.length) b))[j]? = some (some b) → (g ++ g')[j]? = some (some gb) →
      (m[j]? = some (some b) ∧ g[j]? = some (some gb)) ∨ ∃ b0, b = renBlk (place js m.length) b0 ∧ m.length ≤ j ∧ (m0 ++ nb.map some)[js.length + (j - m.length)]? = some (some b0) ∧ ((js.map fun j => g.getD j none) ++ g')[js.length + (j - m.length)]? = some (some gb) ∧ b0.rw = true := by
    intro j b gb hj hgb
    rcases Nat.lt_or_ge j m.length with hl | hl
    · rw [List.getElem?_append_left hl] at hj
      rw [List.getElem?_append_left (by rw [hr.len]; exact hl)] at hgb
      exact .inl ⟨hj, hgb⟩
    · rw [List.getElem?_append_right hl, List.getElem?_map] at hj
      rw [List.getElem?_append_right (by rw [hr.len]; exact hl), hr.len] at hgb
      cases hb0 : nb[j - m.length]? with
      | none => rw [hb0] at hj; cases hj
      | some b0 =>
        rw [hb0] at hj
        simp only [Option.map_some, Option.some.injEq] at hj
        refine .inr ⟨b0, hj.symm, hl, ?_, ?_, List.all_eq_true.1 hnb b0 (List.mem_of_getElem? hb0)⟩
        · rw [List.getElem?_append_right (by rw [hs.1]; omega), hs.1, show js.length + (j - m.length) - js.length = j - m.length from by omega, List.getElem?_map, hb0]; rfl
        · rw [List.getElem?_append_right (by simp), List.length_map, show js.length + (j - m.length) - js.length = j - m.length from by omega]; exact hgb
  refine ⟨ren (place js m.length) v0, v', _, g', rfl, ⟨v0, nb, hK, rfl, rfl⟩, ?_, hv.ren hρ⟩
  refine ⟨by simp [hr.len, hg'l], ?_, ?_, ?_, Nat.le_trans hr.size hr1.size, hr1.os.trans hr.os, hr1.tape.trans hr.tape, hr1.output.trans hr.output⟩
  · intro j b gb hj hgb
    rcases split j b gb hj hgb with ⟨hj, hgb⟩ | ⟨b0, rfl, hl, hb0, hgb0, hrw0⟩
    · obtain ⟨cs, fr, hh, hf, rest⟩ := hr.blk j b gb hj hgb
      exact ⟨cs, fr, by rw [hold _ (hlt j b gb hj hgb)]; exact hh, hf.imp fun _ _ h => h.app, rest⟩
    · obtain ⟨cs, fr, hh, hf, hsz, hown, hex⟩ := hr1.blk _ b0 gb hb0 hgb0
      refine ⟨cs, fr, hh, ?_, by simpa [renBlk] using hsz, fun h => ?_, hex⟩
      · simp only [renBlk, List.length_map]
        have := hf.map (S := SR (g ++ g')) (f := renS (place js m.length)) (f' := id) fun _ _ h' => h'.ren hρ
        simpa using this
      · obtain ⟨h1, h2⟩ := hown hrw0
        refine ⟨h1, .inl ?_⟩
        rcases h2 with h2 | h2
        · exact Nat.le_trans hr.size h2
        · exact h2.elim
  · intro p q bp bq gp gq hne hp hq hrwp hgp hgq
    have above : ∀ (j : Nat) (b0 : ABlk) (gb : GB), (m0 ++ nb.map some)[j]? = some (some b0) → ((js.map fun j => g.getD j none) ++ g')[j]? = some (some gb) → b0.rw = true → W.heap.size ≤ gb.b := by
      intro j b0 gb hb hg hrw
      obtain ⟨_, _, _, _, _, hown, _⟩ := hr1.blk j b0 gb hb hg
      rcases (hown hrw).2 with h | h
      · exact h
      · exact h.elim
    rcases split p bp gp hp hgp with ⟨hp, hgp⟩ | ⟨b0, rfl, hl, hb0, hgb0, hrw0⟩ <;> rcases split q bq gq hq hgq with ⟨hq, hgq⟩ | ⟨b1, rfl, hl1, hb1, hgb1, hrw1⟩
    · exact hr.inj p q bp bq gp gq hne hp hq hrwp hgp hgq
    · have h1 := hlt p bp gp hp hgp
      have h2 := above _ b1 gq hb1 hgb1 hrw1
      omega
    · have h1 := hlt q bq gq hq hgq
      have h2 := above _ b0 gp hb0 hgb0 hrw0
      omega
    · exact hr1.inj _ _ b0 b1 gp gq (by omega) hb0 hb1 hrw0 hgb0 hgb1
  · intro k hk hF
    rw [hold k (Nat.lt_of_lt_of_le hk hr.size), hr.frame k hk hF]
end Go.AE
