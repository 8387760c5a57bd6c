/-
  opcode.Names: all names, sorted, each once. Conditions: the library's number at the first place.
-/
import Derived.Test.YtfohjnfdgegfcaaDoorOpFind
import Derived.Test.YtfohjnfdgegfcaaDoorShelfB
import Derived.Lib.Fold
import Derived.Lib.OwnBridge
import Derived.Sort.OwnSorted
namespace Go.Proofs.YtfohjnfdgegfcaaDoor
open Go Go.RowKit Go.Shelf Go.Sort
set_option maxRecDepth 100000
set_option linter.unusedSimpArgs false
attribute [local go_sem] Oper.semAt_some

theorem info9 : (Tryd.prog.info? 9).map (fun i => (i.zero, i.size, i.bytes)) = some (some (.string ⟨#[]⟩), 1, 16) := by kernel_rfl
def namesOf (pre : List Nat) : List (List UInt8) := pre.map fun b => (opR b).name
theorem namesOf_snoc (pre : List Nat) (x : Nat) : namesOf (pre ++ [x]) = namesOf pre ++ [(opR x).name] := by simp [namesOf]
theorem namesOf_len (pre : List Nat) : (namesOf pre).length = pre.length := by simp [namesOf]

theorem count : (upto 256).length = 234 := by kernel_rfl
/-- Sorted, each once. -/
def once (ss : List (List UInt8)) : List (List UInt8) := Lib.compact (ss.mergeSort fun x y => decide (x ≤ y))
theorem left_of {w w1 : World} {g cap n nn q : Nat} {os : Array Obj} {ss : List (List UInt8)} (hown : w1.ownsRow w.heap.size 9 1 (.slice (some ⟨g, 0, none⟩) n cap) n (ss.map encStr)) (hbel : RowKit.Below w.heap.size w w1) (hbg : w.heap.size ≤ g) (hlen : ss.length = n) :
    (putRow encStr (Sort.ahead (grow (putRow encStr (Sort.ahead w1 nn) g 0 (ss.mergeSort fun x y => decide (x ≤ y)).toArray) os) q) g 0 (once ss ++ List.replicate (n - (once ss).length) []).toArray).ownsRow w.heap.size 9 1 (.slice (some ⟨g, 0, none⟩) (once ss).length cap) (once ss).length ((once ss).map encStr) ∧
    RowKit.Below w.heap.size w (putRow encStr (Sort.ahead (grow (putRow encStr (Sort.ahead w1 nn) g 0 (ss.mergeSort fun x y => decide (x ≤ y)).toArray) os) q) g 0 (once ss ++ List.replicate (n - (once ss).length) []).toArray) := by
  have hl2 : (ss.mergeSort fun x y => decide (x ≤ y)).length = ss.length := List.length_mergeSort ss
  have hle := Lib.compact_length_le (ss.mergeSort fun x y => decide (x ≤ y))
  subst hlen
  unfold once
  rcases hown.2 with ⟨h0, _⟩ | ⟨g', cap', cur, hv, hbase, hb, h1, h2, h3, h4⟩
  · cases h0
  cases hv
  have hs := ownsRow_sorted (n := nn) (os := os) (ts := ss.mergeSort fun x y => decide (x ≤ y)) hl2 hbase hb h1 h2 h3
  have hc := Lib.ownsRow_putRow (q := q) (k := (Lib.compact (ss.mergeSort fun x y => decide (x ≤ y))).length) (ys := Lib.compact (ss.mergeSort fun x y => decide (x ≤ y)) ++ List.replicate (ss.length - (Lib.compact (ss.mergeSort fun x y => decide (x ≤ y))).length) []) hs (by simp; omega) (by omega)
  rw [List.take_left] at hc
  exact ⟨hc, Lib.below_putRow (hbel.grown (grownBy_sorted _) hbel.size (fun j hj => by cases hj; exact hbase)) hbg⟩

set_option maxHeartbeats 2000000 in
theorem names_in (n : Nat) (hn : 3 ≤ n)
    (hK : ∀ b : Nat, b < 256 → ∀ W, GoodAt W → CallsIn Fence.wide (n - 1 - 1) Tryd.prog 35 #[.int .u8 b] W fun e W' => e = .returned (.bool (opR b).known) ∧ Below W.heap.size W W')
    (hO : ∀ b : Nat, b < 256 → ∀ W, GoodAt W → CallsIn Fence.wide (n - 1 - 1) Tryd.prog 34 #[.int .u8 b] W fun e W' => e = .returned (opV b) ∧ Below W.heap.size W W')
    (w : World) (hg : GoodAt w) (hw : 1 ≤ w.heap.size) :
    CallsIn Fence.wide n Tryd.prog 38 #[] w fun e W' => ∃ g cap, e = .returned (.slice (some ⟨g, 0, none⟩) (once (namesOf (upto 256))).length cap) ∧ W'.ownsRow w.heap.size 9 1 (.slice (some ⟨g, 0, none⟩) (once (namesOf (upto 256))).length cap) (once (namesOf (upto 256))).length ((once (namesOf (upto 256))).map encStr) ∧ RowKit.Below w.heap.size w W' := by
  have h1 : 1 ≤ n := by omega
  have hro : Fence.wide.round = none := rfl
  obtain ⟨i0, hi, hz0, hz1, hz2⟩ := info_parts info9
  refine callsIn_of_wp_marks Tryd.func38 rfl trivial ?_ hro
  simp only [Tryd.ntmps38, List.size_toArray, List.length_cons, List.length_nil, Nat.reduceAdd, Nat.reduceSub, Array.replicate_succ, Array.replicate_zero, List.push_toArray, List.append_toArray, List.nil_append, List.cons_append]
  gi_wp2
  have bO := Boxed.new w 65 (.slice none 0 0)
  have hB0 : Below w.heap.size w (w.alloc (.cells #[.slice none 0 0] 65)) := (Below.refl _ w).alloc (Nat.le_refl _) _
  refine wpIn_rangeFunc_ownH hro h1 (gf := 62) (lb := #[]) rfl trivial (enters_of Tryd.func62 (by kernel_rfl) rfl)
    (all_stops Fence.wide (n - 1) trivial trivial trivial hro (by omega) w.heap.size hw hK hO _ (hg.below hw hB0) (by simp)) belowK_t (belowK_b (by simp)) (Below.refl _ _) (fun _ => rfl)
    (fun pre W => (∃ v, Boxed W w.heap.size 65 v ∧ W.ownsRow w.heap.size 9 1 v pre.length ((namesOf pre).map encStr) ∧ (v = .slice none 0 0 ↔ pre = [])) ∧ Below w.heap.size w W)
    (fun _ _ _ => False)
    (OwnFrom.and (Own.from (holdsRow_own w.heap.size w.heap.size 65 9 1 (fun pre => pre.length) (fun pre => (namesOf pre).map encStr) (fun pre v => v = .slice none 0 0 ↔ pre = [])) _) (ownFrom_below (Nat.le_refl _) (by simp)))
    (fun _ _ _ _ _ hs _ _ => hs)
    ⟨⟨_, bO, World.ownsRow_nil _ _ _ _, by simp⟩, hB0⟩
    (fun x a' W => ∃ Bx, w.heap.size < Bx ∧ Held W Bx 59 (opC x) ∧ a' = { tmps := #[.slice none 0 0, .pointer (some ⟨w.heap.size, 0, none⟩), undef, .pointer (some ⟨Bx, 0, none⟩), .int .u8 (x : Nat), opV x, undef, undef, undef, undef, undef, undef, undef, undef, undef], defers := [] })
    (fun x a' s A B row hs hg hr => by
      obtain ⟨Bx, h4, hh, rfl⟩ := hs
      exact ⟨Bx, h4, held_own (β := Unit) _ _ (fun _ => _) () A B row hh hg (fun r e => (hr r e).2), rfl⟩) ?assign ?body ?done ?stop
  case assign =>
    rintro l pre x W K ⟨⟨v, hv, hrow, hnil⟩, hB⟩ hKK
    simp only [opV, opC] at hKK ⊢
    gi_wp2
    have hlt := hv.lt
    exact hKK _ _ ((KeepsOthers.alloc _ _).from _) ((Below.refl _ W).alloc hB.size _) ⟨⟨v, hv.alloc _, hrow.alloc _, hnil⟩, hB.alloc hB.size _⟩ ⟨W.heap.size, by omega, World.alloc_heap_new W _, rfl⟩
  case body =>
    rintro l pre x a' W hl ⟨r, hr⟩ ⟨⟨v, hv, hrow, hnil⟩, hB⟩ ⟨Bx, hBx, hH, rfl⟩ hlt
    have e0 : W.cell? ⟨Bx, 0, none⟩ = some (.string ⟨⟨(opR x).name⟩⟩) := hH.cell 0
    have hc := hv.cell
    simp only [opV, opC]
    have hml : 256 ≤ maxLen := by decide
    gi_wp2_with (gi_at_builtin; refine wpListIn_append_own _ rfl _ _ 65 rfl w.heap.size 9 i0 (.string ⟨#[]⟩) 1 16 Tryd.underlying65 hi hz0 hz1 hz2 rfl (by decide) _ _ _ rfl (hrow.alloc _) ⟨W.heap.size, 0, none⟩ 1 1 [.string ⟨⟨(opR x).name⟩⟩] rfl rfl (cell_one_new _ _ _) (by simp [Value.oneCell']) (by omega) (by omega) (by have := hB.size; simp; omega) ?_; intro v' w1 hown' hgrow _; obtain ⟨g', cap', rfl⟩ := ownsRow_succ hown'; obtain ⟨hv1, hv2, hr2, hk2, hb2⟩ := hv.appended (by decide) hrow hB.size (Nat.le_refl _) hown' hgrow; have hc1 := hv1.cell; have hf1 := hv1.frozen)
    exact ⟨hk2.from _, hb2, ⟨_, hv2, by rw [namesOf_snoc]; simpa [encStr] using hr2, by simp⟩, hB.trans hb2⟩
  case done =>
    rintro D ys W hD rfl ⟨⟨v, hv, hrow, hnil⟩, hB⟩ hKd
    have hc := hv.cell
    have hun : upto 256 ≠ [] := by
      intro h
      have : (upto 256).length = 0 := by rw [h]; rfl
      rw [count] at this
      cases this
    have hnn : v ≠ .slice none 0 0 := fun h => hun (hnil.1 h)
    obtain ⟨ks, hks⟩ : ∃ ks, namesOf (upto 256) = ks := ⟨_, rfl⟩
    have hkl : ks.length = (upto 256).length := by rw [← hks, namesOf_len]
    rw [hks, ← hkl] at hrow
    obtain ⟨g0, cap0, rfl, hbg, hgl, hncap, hcm, hlen, hH⟩ := Lib.holds_of_ownsRow hrow hnn
    have cSort := Tryd.slices_Sort_string g0 0 cap0 ks W hH hgl (by rw [hkl, count]; decide)
    have hl2 : (ks.mergeSort fun x y => decide (x ≤ y)).length = ks.length := List.length_mergeSort ks
    have cComp : ∀ nn os, Calls Tryd.prog 66 #[.slice (some ⟨g0, 0, none⟩) (upto 256).length cap0] (grow (putRow encStr (Sort.ahead W nn) g0 0 (ks.mergeSort fun x y => decide (x ≤ y)).toArray) os) fun e w' =>
        e = .returned (.slice (some ⟨g0, 0, none⟩) (once ks).length cap0) ∧ ∃ q, w' = putRow encStr (Sort.ahead (grow (putRow encStr (Sort.ahead W nn) g0 0 (ks.mergeSort fun x y => decide (x ≤ y)).toArray) os) q) g0 0 (once ks ++ List.replicate (ks.length - (once ks).length) []).toArray := fun nn os => by
      have hH2 : Holds encStr (grow (putRow encStr (Sort.ahead W nn) g0 0 (ks.mergeSort fun x y => decide (x ≤ y)).toArray) os) g0 0 (ks.mergeSort fun x y => decide (x ≤ y)).toArray :=
        holds_grow encStr _ os g0 0 _ (by simpa [putRow, mapBlock, Sort.ahead] using hgl) (holds_putRow encStr _ g0 0 _ _ (holds_ahead encStr W nn g0 0 _ hH) (by simp))
      have := Tryd.slices_Compact_string g0 0 cap0 (ks.mergeSort fun x y => decide (x ≤ y)) _ hH2 (by rw [hl2, hkl, count]; decide) (by omega)
      rw [hl2, hkl] at this
      rw [hkl]
      exact this
    have hne := hv.not_row (by decide) hrow
    have hDg : some D ≠ some g0 := by
      intro e
      cases e
      rcases hrow.2 with ⟨h0, _⟩ | ⟨g', cap', cur, hv', _, hb, _⟩
      · cases h0
      · cases hv'
        rw [hKd] at hb
        cases hb
    gi_wp2
    refine ⟨trivial, ?_⟩
    rw [hkl] at cSort
    refine (callsIn_wide.2 cSort).mono ?_
    rintro e w2 ⟨rfl, nn, os, rfl⟩
    have hv2 := hv.kept (grownBy_sorted (w := W) (g := g0) (n := nn) (os := os) (ks.mergeSort fun x y => decide (x ≤ y)).toArray) hne
    have hK2 := ((grownBy_sorted (w := W) (g := g0) (n := nn) (os := os) (ks.mergeSort fun x y => decide (x ≤ y)).toArray).block D (Array.getElem?_eq_some_iff.1 hKd).1 hDg).trans hKd
    have hc2 := hv2.cell
    gi_wp2
    refine ⟨trivial, ?_⟩
    refine (callsIn_wide.2 (cComp nn os)).mono ?_
    rintro e w3 ⟨rfl, q, rfl⟩
    gi_wp2
    have hK3 : ∀ d, (putRow encStr (Sort.ahead (grow (putRow encStr (Sort.ahead W nn) g0 0 (ks.mergeSort fun x y => decide (x ≤ y)).toArray) os) q) g0 0 d).heap[D]? = some (.deferred (some [])) := fun d => by
      refine Eq.trans ?_ hK2
      have hne : g0 ≠ D := fun e => hDg (by rw [e])
      simp only [putRow, mapBlock, Sort.ahead, Array.getElem?_modify, if_neg hne]
    refine ⟨by simp, .inl ⟨_, _, rfl, run_takeDeferred (hK3 _), ?_⟩⟩
    rw [hkl] at hrow
    obtain ⟨l1, l2⟩ := left_of (nn := nn) (q := q) (os := os) hrow hB hbg hkl
    refine ⟨_, results_tmp rfl _ _ _, g0, cap0, by rw [hks]; rfl, ?_, ?_⟩
    · rw [hks]
      exact ownsRow_putObj l1 _ (hK3 _) rfl
    · exact l2.trans (belowK_b (w := w) (Nat.le_refl _) _ D _ _ (by simp at hD; omega) (hK3 _) rfl rfl)
  case stop =>
    rintro D c pre W _ _ h _
    exact h.elim
end Go.Proofs.YtfohjnfdgegfcaaDoor
