/-
  opcode.Modes: the modes that a name has, collected, then sorted, then each once. Conditions: the library's number at the first place; what the sort and the compaction make of the modes.
-/
import Derived.Test.YtfohjnfdgegfcaaDoorOpFind
import Derived.Test.YtfohjnfdgegfcaaDoorLogH
namespace Go.Proofs.YtfohjnfdgegfcaaDoor
open Go Go.RowKit Go.Shelf
set_option maxRecDepth 100000
attribute [local go_sem] Oper.semAt_some

theorem info5 : (Tryd.prog.info? 5).map (fun i => (i.zero, i.size, i.bytes)) = some (some (.int .u8 0), 1, 1) := by kernel_rfl
def u8V (n : Nat) : Value := .int .u8 (n : Nat)
/-- The modes of a name, as they come. -/
def modesOf (nm : List UInt8) (pre : List Nat) : List Nat := (pre.filter fun b => (opR b).name == nm).map fun b => (opR b).mode
theorem modesOf_yes {nm : List UInt8} (pre : List Nat) {x : Nat} (h : (opR x).name = nm) : modesOf nm (pre ++ [x]) = modesOf nm pre ++ [(opR x).mode] := by simp [modesOf, h]
theorem modesOf_no {nm : List UInt8} (pre : List Nat) {x : Nat} (h : ¬ (opR x).name = nm) : modesOf nm (pre ++ [x]) = modesOf nm pre := by simp [modesOf, h]
theorem modesOf_len (nm : List UInt8) (pre : List Nat) : (modesOf nm pre).length ≤ pre.length := by
  simp only [modesOf, List.length_map]
  exact List.length_filter_le _ _
def SortsAt (L L1 : List Nat) : Prop := ∀ (base : Nat) (W : World) (g cap : Nat), GoodAt W → 1 ≤ base → Go.AE.RowAt W base 5 g cap (L.map u8V) →
  Calls Tryd.prog 63 #[.slice (some ⟨g, 0, none⟩) L.length cap] W fun e W' => e = .returned (.tuple #[]) ∧ W.grownBy W' (some g) ∧ Go.AE.RowAt W' base 5 g cap (L1.map u8V)
def CompactsAt (L L1 : List Nat) : Prop := ∀ (base : Nat) (W : World) (g cap : Nat), GoodAt W → 1 ≤ base → Go.AE.RowAt W base 5 g cap (L.map u8V) →
  Calls Tryd.prog 64 #[.slice (some ⟨g, 0, none⟩) L.length cap] W fun e W' => e = .returned (.slice (some ⟨g, 0, none⟩) L1.length cap) ∧ W.grownBy W' (some g) ∧ Go.AE.RowAt W' base 5 g cap (L1.map u8V)
theorem rowAt_of {W : World} {base g n cap : Nat} {e : TypeId} {xs : List Value} (h : W.ownsRow base e 1 (.slice (some ⟨g, 0, none⟩) n cap) n xs) : Go.AE.RowAt W base e g cap xs := by
  have hl : xs.length = n := by simpa using h.1
  rcases h.2 with ⟨e0, _⟩ | ⟨g', cap', cur, hv, hb, hg, hn, hm, hs, ht⟩
  · cases e0
  · cases hv
    refine ⟨hb, cur, hg, by omega, by omega, ?_⟩
    rw [hl]; simpa using ht
theorem GoodAt.grown {W W' : World} {g : Nat} (h : GoodAt W) (hg : W.grownBy W' (some g)) (h1 : 1 ≤ g) (hs : 1 ≤ W.heap.size) : GoodAt W' := by
  obtain ⟨h0, n, hn⟩ := h
  refine ⟨h0, n, ?_⟩
  rw [← hn]
  simp only [World.cell?, hg.block 0 hs (by simp; omega)]

set_option maxHeartbeats 2000000 in
theorem modes_in (n : Nat) (hn : 3 ≤ n)
    (hK : ∀ b : Nat, b < 256 → ∀ W, GoodAt W → CallsIn Fence.wide (n - 1 - 1) Tryd.prog 35 #[.int .u8 b] W fun e W' => e = .returned (.bool (opR b).known) ∧ Below W.heap.size W W')
    (hO : ∀ b : Nat, b < 256 → ∀ W, GoodAt W → CallsIn Fence.wide (n - 1 - 1) Tryd.prog 34 #[.int .u8 b] W fun e W' => e = .returned (opV b) ∧ Below W.heap.size W W')
    (nm : List UInt8) (L1 L2 : List Nat) (hne : modesOf nm (upto 256) ≠ []) (hl1 : L1.length = (modesOf nm (upto 256)).length) (hS : SortsAt (modesOf nm (upto 256)) L1) (hC : CompactsAt L1 L2)
    (w : World) (hg : GoodAt w) (hw : 1 ≤ w.heap.size) :
    CallsIn Fence.wide n Tryd.prog 37 #[.string ⟨⟨nm⟩⟩] w fun e W' => (∃ g cap, e = .returned (.slice (some ⟨g, 0, none⟩) (L2.map u8V).length cap) ∧ Go.AE.RowAt W' w.heap.size 5 g cap (L2.map u8V)) ∧ Below w.heap.size w W' := by
  have h1 : 1 ≤ n := by omega
  have hro : Fence.wide.round = none := rfl
  obtain ⟨i0, hi, hz0, hz1, hz2⟩ := info_parts info5
  refine callsIn_of_wp_marks Tryd.func37 rfl trivial ?_ hro
  simp only [Tryd.ntmps37, List.size_toArray, List.length_cons, List.length_nil, Nat.reduceAdd, Nat.reduceSub, Array.replicate_succ, Array.replicate_zero, List.push_toArray, List.append_toArray, List.nil_append, List.cons_append]
  gi_wp2
  have bN := Boxed.new w 9 (.string ⟨⟨nm⟩⟩)
  have bO := Boxed.new (w.alloc (.cells #[.string ⟨⟨nm⟩⟩] 9)) 36 (.slice none 0 0)
  rw [World.size_alloc] at bO
  have hB0 : Below w.heap.size w ((w.alloc (.cells #[.string ⟨⟨nm⟩⟩] 9)).alloc (.cells #[.slice none 0 0] 36)) := ((Below.refl _ w).alloc (Nat.le_refl _) _).alloc (by simp) _
  refine wpIn_rangeFunc_ownH hro h1 (gf := 62) (lb := #[]) rfl trivial (enters_of Tryd.func62 (by kernel_rfl) rfl)
    (all_stops Fence.wide (n - 1) trivial trivial trivial hro (by omega) w.heap.size hw hK hO _ (hg.below hw hB0) (by simp; omega)) belowK_t (belowK_b (by simp; omega)) (Below.refl _ _) (fun _ => rfl)
    (fun pre W => ((∃ v, Boxed W (w.heap.size + 1) 36 v ∧ W.ownsRow w.heap.size 5 1 v (modesOf nm pre).length ((modesOf nm pre).map u8V) ∧ (v = .slice none 0 0 ↔ modesOf nm pre = [])) ∧ Boxed W w.heap.size 9 (.string ⟨⟨nm⟩⟩)) ∧ Below w.heap.size w W)
    (fun _ _ _ => False)
    (OwnFrom.and (OwnFrom.and (Own.from (holdsRow_own w.heap.size (w.heap.size + 1) 36 5 1 (fun pre => (modesOf nm pre).length) (fun pre => (modesOf nm pre).map u8V) (fun pre v => v = .slice none 0 0 ↔ modesOf nm pre = [])) _) (Own.from (boxed_own _ _ _) _)) (ownFrom_below (Nat.le_refl _) (by simp; omega)))
    (fun _ _ _ _ _ hs _ _ => hs)
    ⟨⟨⟨_, bO, World.ownsRow_nil _ _ _ _, by simp [modesOf]⟩, bN.alloc _⟩, hB0⟩
    (fun x a' W => ∃ Bx, w.heap.size + 1 < Bx ∧ Held W Bx 59 (opC x) ∧ a' = { tmps := #[.string ⟨⟨nm⟩⟩, .pointer (some ⟨w.heap.size, 0, none⟩), .slice none 0 0, .pointer (some ⟨w.heap.size + 1, 0, none⟩), undef, .pointer (some ⟨Bx, 0, none⟩), .int .u8 (x : Nat), opV x, undef, undef, undef, undef, undef, undef, undef, undef, undef, undef, undef, undef, undef], defers := [] })
    (fun x a' s A B row hs hg hr => by
      obtain ⟨Bx, h4, hh, rfl⟩ := hs
      exact ⟨Bx, h4, held_own (β := Unit) _ _ (fun _ => _) () A B row hh hg (fun r e => (hr r e).2), rfl⟩) ?assign ?body ?done ?stop
  case assign =>
    rintro l pre x W K ⟨⟨⟨v, hv, hrow, hnil⟩, hN⟩, hB⟩ hKK
    simp only [opV, opC] at hKK ⊢
    gi_wp2
    have hlt := hv.lt
    exact hKK _ _ ((KeepsOthers.alloc _ _).from _) ((Below.refl _ W).alloc hB.size _) ⟨⟨⟨v, hv.alloc _, hrow.alloc _, hnil⟩, hN.alloc _⟩, hB.alloc hB.size _⟩ ⟨W.heap.size, by omega, World.alloc_heap_new W _, rfl⟩
  case body =>
    rintro l pre x a' W hl ⟨r, hr⟩ ⟨⟨⟨v, hv, hrow, hnil⟩, hN⟩, hB⟩ ⟨Bx, hBx, hH, rfl⟩ hlt
    have e0 : W.cell? ⟨Bx, 0, none⟩ = some (.string ⟨⟨(opR x).name⟩⟩) := hH.cell 0
    have e1 : W.cell? ⟨Bx, 1, none⟩ = some (.int .u8 ((opR x).mode : Nat)) := hH.cell 1
    have hc := hv.cell
    have hcN := hN.cell
    simp only [opV, opC]
    have hml : 256 ≤ maxLen := by decide
    have hpl := modesOf_len nm pre
    by_cases hnm : (opR x).name = nm
    · subst hnm
      gi_wp2_with (gi_at_builtin; refine wpListIn_append_own _ rfl _ _ 36 rfl w.heap.size 5 i0 (.int .u8 0) 1 1 Tryd.underlying36 hi hz0 hz1 hz2 rfl (by decide) _ _ _ rfl (hrow.alloc _) ⟨W.heap.size, 0, none⟩ 1 1 [.int .u8 ((opR x).mode : Nat)] rfl rfl (cell_one_new _ _ _) (by simp [Value.oneCell']) (by omega) (by omega) (by have := hB.size; simp; omega) ?_; intro v' w1 hown' hgrow _; obtain ⟨g', cap', rfl⟩ := ownsRow_succ hown'; obtain ⟨hv1, hv2, hr2, hk2, hb2⟩ := hv.appended (by decide) hrow hB.size (by omega) hown' hgrow; have hc1 := hv1.cell; have hf1 := hv1.frozen)
      exact ⟨hk2.from _, hb2, ⟨⟨_, hv2, by rw [modesOf_yes _ rfl]; simpa [u8V] using hr2, by rw [modesOf_yes _ rfl]; simp⟩, ((hN.alloc _).kept hgrow (hN.not_row (by decide) hrow)).other (by omega) _⟩, hB.trans hb2⟩
    · have hbf : ((opR x).name == nm) = false := by simpa using hnm
      gi_wp2
      exact ⟨KeepsFrom.refl _ _, Below.refl _ _, ⟨⟨v, hv, by rw [modesOf_no _ hnm]; exact hrow, by rw [modesOf_no _ hnm]; exact hnil⟩, hN⟩, hB⟩
  case done =>
    rintro D ys W hD rfl ⟨⟨⟨v, hv, hrow, hnil⟩, hN⟩, hB⟩ hKd
    have hc := hv.cell
    have hnn : v ≠ .slice none 0 0 := fun h => hne (hnil.1 h)
    obtain ⟨ks, hks⟩ : ∃ ks, modesOf nm (upto 256) = ks := ⟨_, rfl⟩
    rw [hks] at hrow hl1 hS
    obtain ⟨g0, cap0, rfl⟩ : ∃ g0 cap0, v = .slice (some ⟨g0, 0, none⟩) ks.length cap0 := by
      rcases hrow.2 with ⟨h0, _⟩ | ⟨g', cap', cur, hv', _⟩
      · exact absurd h0 hnn
      · exact ⟨g', cap', hv'⟩
    have hrA := rowAt_of hrow
    have hgW := hg.below hw hB
    have hg1 : 1 ≤ g0 := Nat.le_trans hw hrA.1
    have hneq := hv.not_row (by decide) hrow
    have hDg : some D ≠ some g0 := by
      intro e
      cases e
      obtain ⟨_, cs, hb, _⟩ := hrA
      rw [hKd] at hb
      cases hb
    have cSort := hS w.heap.size W g0 cap0 hgW hw hrA
    gi_wp2
    refine ⟨trivial, ?_⟩
    refine (callsIn_wide.2 cSort).mono ?_
    rintro e w2 ⟨rfl, gr2, row2⟩
    have hv2 := hv.kept gr2 hneq
    have hK2 := (gr2.block D (Array.getElem?_eq_some_iff.1 hKd).1 hDg).trans hKd
    have hc2 := hv2.cell
    have hg2 := hgW.grown gr2 hg1 (by have := hB.size; omega)
    have cComp := hC w.heap.size w2 g0 cap0 hg2 hw row2
    rw [hl1] at cComp
    gi_wp2
    refine ⟨trivial, ?_⟩
    refine (callsIn_wide.2 cComp).mono ?_
    rintro e w3 ⟨rfl, gr3, row3⟩
    have hK3 := (gr3.block D (Array.getElem?_eq_some_iff.1 hK2).1 hDg).trans hK2
    gi_wp2
    refine ⟨by simp, .inl ⟨_, _, rfl, run_takeDeferred hK3, ?_⟩⟩
    have hB2 := hB.grown gr2 hB.size (fun j hj => by cases hj; exact hrA.1)
    have hB3 := hB2.grown gr3 hB2.size (fun j hj => by cases hj; exact hrA.1)
    refine ⟨_, results_tmp rfl _ _ _, ⟨g0, cap0, by rw [List.length_map]; rfl, ?_⟩, ?_⟩
    · obtain ⟨r0, cs, r1, r2, r3, r4⟩ := row3
      refine ⟨r0, cs, ?_, r2, r3, r4⟩
      rw [World.putObj_heap_other (fun e => hDg (by rw [e]))]
      exact r1
    · exact hB3.trans (belowK_b (w := w) (Nat.le_refl _) _ D _ _ (by simp at hD; omega) hK3 rfl rfl)
  case stop =>
    rintro D c pre W _ _ h _
    exact h.elim
end Go.Proofs.YtfohjnfdgegfcaaDoor
