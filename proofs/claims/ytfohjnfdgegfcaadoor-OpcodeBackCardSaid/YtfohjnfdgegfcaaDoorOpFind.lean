/-
  opcode.Find: the byte of a name and a mode, or none. Conditions: the library's number at the first place.
-/
import Derived.Test.YtfohjnfdgegfcaaDoorOpAll
namespace Go.Proofs.YtfohjnfdgegfcaaDoor
open Go Go.RowKit Go.Shelf
set_option maxRecDepth 100000
attribute [local go_sem] Oper.semAt_some

theorem all_stops (F : Fence) (n : Nat) (h62 : F.fn 62) (h35 : F.fn 35) (h34 : F.fn 34) (hro : F.round = none) (hn : 1 ≤ n) (n₀ : Nat) (hn₀ : 1 ≤ n₀)
    (hK : ∀ b : Nat, b < 256 → ∀ W, GoodAt W → CallsIn F (n - 1) Tryd.prog 35 #[.int .u8 b] W fun e W' => e = .returned (.bool (opR b).known) ∧ Below W.heap.size W W')
    (hO : ∀ b : Nat, b < 256 → ∀ W, GoodAt W → CallsIn F (n - 1) Tryd.prog 34 #[.int .u8 b] W fun e W' => e = .returned (opV b) ∧ Below W.heap.size W W')
    (w : World) (hg : GoodAt w) (hs : n₀ ≤ w.heap.size) :
    SeqStopsK F n Tryd.prog 62 #[] (fun x : Nat => #[.int .u8 (x : Nat), opV x]) (Below n₀) (fun ys => ys = upto 256) (fun pre => ∃ k, k < 256 ∧ pre = upto k ++ [k] ∧ (opR k).known = true) 256 w := fun l J Jx W hW hJ _ hY h0 =>
  all_in F n h62 h35 h34 hro hn n₀ hn₀ l J Jx hK hO hY (fun s W1 W2 h1 hb => hJ s W1 W2 none h1 (grown_of hb) (fun r e => by cases e)) W (hg.below (Nat.le_trans hn₀ hs) hW) (Nat.le_trans hs hW.size) h0

/-- A block of more than one cell. -/
def Held (W : World) (B : Nat) (t : TypeId) (cs : Array Value) : Prop := W.heap[B]? = some (.cells cs t (0, 0))
theorem Held.cell {W : World} {B : Nat} {t : TypeId} {cs : Array Value} (h : Held W B t cs) (i : Nat) : W.cell? ⟨B, i, none⟩ = cs[i]? := by simp [World.cell?, show W.heap[B]? = _ from h]
theorem held_own {β : Type} (B : Nat) (t : TypeId) (f : β → Array Value) : Own (fun s W => Held W B t (f s)) := fun s X Y row hs hg hrow =>
  (hg.block B (Array.getElem?_eq_some_iff.1 hs).1 (fun e' => by obtain ⟨o, ho, hc⟩ := hrow B e'.symm; rw [show X.heap[B]? = _ from hs] at ho; cases ho; cases hc)).trans hs

/-- Is it the byte that is asked for? -/
def hits (nm : List UInt8) (md : Nat) (x : Nat) : Bool := (opR x).name == nm && (opR x).mode == md

set_option maxHeartbeats 2000000 in
theorem find_in (F : Fence) (n : Nat) (h36 : F.fn 36) (h62 : F.fn 62) (h35 : F.fn 35) (h34 : F.fn 34) (hro : F.round = none) (hn : 3 ≤ n)
    (hK : ∀ b : Nat, b < 256 → ∀ W, GoodAt W → CallsIn F (n - 1 - 1) Tryd.prog 35 #[.int .u8 b] W fun e W' => e = .returned (.bool (opR b).known) ∧ Below W.heap.size W W')
    (hO : ∀ b : Nat, b < 256 → ∀ W, GoodAt W → CallsIn F (n - 1 - 1) Tryd.prog 34 #[.int .u8 b] W fun e W' => e = .returned (opV b) ∧ Below W.heap.size W W')
    (nm : List UInt8) (md : Nat) (w : World) (hg : GoodAt w) (hw : 1 ≤ w.heap.size) :
    CallsIn F n Tryd.prog 36 #[.string ⟨⟨nm⟩⟩, .int .u8 md] w fun e W' => Below w.heap.size w W' ∧
      ((∃ k, k < 256 ∧ (opR k).known = true ∧ hits nm md k = true ∧ (∀ j, j < k → (opR j).known = true → hits nm md j = false) ∧ e = .returned (.tuple #[.int .u8 k, .bool true])) ∨
      ((∀ j, j < 256 → (opR j).known = true → hits nm md j = false) ∧ e = .returned (.tuple #[.int .u8 0, .bool false]))) := by
  have h1 : 1 ≤ n := by omega
  refine callsIn_of_wp_marks Tryd.func36 rfl h36 ?_ hro
  simp only [Tryd.ntmps36, List.size_toArray, List.length_cons, List.length_nil, Nat.reduceAdd, Nat.reduceSub, Array.replicate_succ, Array.replicate_zero, List.push_toArray, List.append_toArray, List.nil_append, List.cons_append]
  gi_wp2
  have b0 := Boxed.new w 9 (.string ⟨⟨nm⟩⟩)
  have b1 := Boxed.new (w.alloc (.cells #[.string ⟨⟨nm⟩⟩] 9)) 5 (.int .u8 md)
  have b2 := Boxed.new ((w.alloc (.cells #[.string ⟨⟨nm⟩⟩] 9)).alloc (.cells #[.int .u8 md] 5)) 5 (.int .u8 0)
  have b3 := Boxed.new (((w.alloc (.cells #[.string ⟨⟨nm⟩⟩] 9)).alloc (.cells #[.int .u8 md] 5)).alloc (.cells #[.int .u8 0] 5)) 4 (.bool false)
  have hB0 : Below w.heap.size w ((((w.alloc (.cells #[.string ⟨⟨nm⟩⟩] 9)).alloc (.cells #[.int .u8 md] 5)).alloc (.cells #[.int .u8 0] 5)).alloc (.cells #[.bool false] 4)) :=
    ((((Below.refl _ w).alloc (Nat.le_refl _) _).alloc (by simp) _).alloc (by simp; omega) _).alloc (by simp; omega) _
  obtain ⟨W0, hW0⟩ : ∃ W0, (((w.alloc (.cells #[.string ⟨⟨nm⟩⟩] 9)).alloc (.cells #[.int .u8 md] 5)).alloc (.cells #[.int .u8 0] 5)).alloc (.cells #[.bool false] 4) = W0 := ⟨_, rfl⟩
  have hsz : W0.heap.size = w.heap.size + 4 := by rw [← hW0]; simp
  have c0 : Boxed W0 w.heap.size 9 (.string ⟨⟨nm⟩⟩) := by rw [← hW0]; exact ((b0.alloc _).alloc _).alloc _
  have c1 : Boxed W0 (w.heap.size + 1) 5 (.int .u8 md) := by rw [← hW0]; rw [World.size_alloc] at b1; exact (b1.alloc _).alloc _
  have c2 : Boxed W0 (w.heap.size + 1 + 1) 5 (.int .u8 0) := by rw [← hW0]; simp only [World.size_alloc] at b2; exact b2.alloc _
  have c3 : Boxed W0 (w.heap.size + 1 + 1 + 1) 4 (.bool false) := by rw [← hW0]; simp only [World.size_alloc] at b3; exact b3
  rw [hW0] at hB0 ⊢
  refine wpIn_rangeFunc_ownH hro h1 (gf := 62) (lb := #[]) rfl h62 (enters_of Tryd.func62 (by kernel_rfl) rfl)
    (all_stops F (n - 1) h62 h35 h34 hro (by omega) w.heap.size hw hK hO W0 (hg.below hw hB0) (by omega)) belowK_t (belowK_b (by omega)) (Below.refl _ _) (fun _ => rfl)
    (fun pre W => ((((Boxed W w.heap.size 9 (.string ⟨⟨nm⟩⟩) ∧ Boxed W (w.heap.size + 1) 5 (.int .u8 md)) ∧ Boxed W (w.heap.size + 1 + 1) 5 (.int .u8 0)) ∧ Boxed W (w.heap.size + 1 + 1 + 1) 4 (.bool false)) ∧ (∀ y ∈ pre, hits nm md y = false)) ∧ Below w.heap.size w W)
    (fun c pre W => ((c = .ret ∧ ∃ pre' x, pre = pre' ++ [x] ∧ hits nm md x = true ∧ (∀ y ∈ pre', hits nm md y = false)) ∧ (∃ x, pre.getLast? = some x ∧ Boxed W (w.heap.size + 1 + 1) 5 (.int .u8 (x : Nat)) ∧ Boxed W (w.heap.size + 1 + 1 + 1) 4 (.bool true))) ∧ Below w.heap.size w W)
    (OwnFrom.and (OwnFrom.and (OwnFrom.and (OwnFrom.and (OwnFrom.and (Own.from (boxed_own _ _ _) _) (Own.from (boxed_own _ _ _) _)) (Own.from (boxed_own _ _ _) _)) (Own.from (boxed_own _ _ _) _)) (ownFrom_pure _ _)) (ownFrom_below (Nat.le_refl _) (by omega)))
    (fun c => OwnFrom.and (OwnFrom.and (ownFrom_pure _ _) (fun s A B row hs hg hr => by
      obtain ⟨x, hx, h2, h3⟩ := hs
      exact ⟨x, hx, boxed_own (β := Unit) _ _ (fun _ => _) () A B row h2 hg (fun r e => (hr r e).2), boxed_own (β := Unit) _ _ (fun _ => _) () A B row h3 hg (fun r e => (hr r e).2)⟩)) (ownFrom_below (Nat.le_refl _) (by omega)))
    ⟨⟨⟨⟨⟨c0, c1⟩, c2⟩, c3⟩, fun y hy => by cases hy⟩, hB0⟩
    (fun x a' W => ∃ Bx, w.heap.size + 4 ≤ Bx ∧ Held W Bx 59 (opC x) ∧ a' = { tmps := #[.string ⟨⟨nm⟩⟩, .int .u8 md, .pointer (some ⟨w.heap.size, 0, none⟩), .pointer (some ⟨w.heap.size + 1, 0, none⟩), .pointer (some ⟨w.heap.size + 1 + 1, 0, none⟩), .pointer (some ⟨w.heap.size + 1 + 1 + 1, 0, none⟩), .int .u8 (x : Nat), .pointer (some ⟨Bx, 0, none⟩), .int .u8 (x : Nat), opV x, undef, undef, undef, undef, undef, undef, undef, undef, undef, undef, undef], defers := [] })
    (fun x a' s A B row hs hg hr => by
      obtain ⟨Bx, h4, hh, rfl⟩ := hs
      exact ⟨Bx, h4, held_own (β := Unit) _ _ (fun _ => _) () A B row hh hg (fun r e => (hr r e).2), rfl⟩) ?assign ?body ?done ?stop
  case assign =>
    rintro l pre x W K ⟨⟨⟨⟨⟨d0, d1⟩, d2⟩, d3⟩, hpre⟩, hB⟩ hKK
    simp only [opV, opC] at hKK ⊢
    gi_wp2
    have hlt3 := d3.lt
    exact hKK _ _ ((KeepsOthers.alloc _ _).from _) ((Below.refl _ W).alloc hB.size _) ⟨⟨⟨⟨⟨d0.alloc _, d1.alloc _⟩, d2.alloc _⟩, d3.alloc _⟩, hpre⟩, hB.alloc hB.size _⟩ ⟨W.heap.size, by omega, World.alloc_heap_new W _, rfl⟩
  case body =>
    rintro l pre x a' W hl ⟨r, hr⟩ ⟨⟨⟨⟨⟨d0, d1⟩, d2⟩, d3⟩, hpre⟩, hB⟩ ⟨Bx, hBx, hH, rfl⟩ hlt
    have e0 : W.cell? ⟨Bx, 0, none⟩ = some (.string ⟨⟨(opR x).name⟩⟩) := hH.cell 0
    have e1 : W.cell? ⟨Bx, 1, none⟩ = some (.int .u8 ((opR x).mode : Nat)) := hH.cell 1
    have k0 := d0.cell
    have k1 := d1.cell
    have k2 := d2.cell
    have k3 := d3.cell
    have g2 := d2.frozen
    have g3 := d3.frozen
    simp only [opV, opC]
    by_cases hnm : (opR x).name = nm
    · subst hnm
      by_cases hmd : (opR x).mode = md
      · subst hmd
        gi_wp2
        exact ⟨((KeepsOthers.setCell _ _ _).trans (KeepsOthers.setCell _ _ _)).from _, ⟨⟨rfl, pre, x, rfl, by simp [hits], hpre⟩, x, by simp, (d2.set _).other (by omega) _, (d3.other (by omega) _).set _⟩,
          (hB.setCell (p := ⟨w.heap.size + 1 + 1, 0, none⟩) (by simp; omega) _).setCell (p := ⟨w.heap.size + 1 + 1 + 1, 0, none⟩) (by simp; omega) _⟩
      · have hmd' : ¬ (((opR x).mode : Nat) : Int) = ((md : Nat) : Int) := by omega
        gi_wp2
        refine ⟨KeepsFrom.refl _ _, Below.refl _ _, ⟨⟨⟨⟨d0, d1⟩, d2⟩, d3⟩, fun y hy => ?_⟩, hB⟩
        rcases List.mem_append.1 hy with hy | hy
        · exact hpre y hy
        · obtain rfl : y = x := by simpa using hy
          simp [hits, hmd]
    · gi_wp2
      refine ⟨KeepsFrom.refl _ _, Below.refl _ _, ⟨⟨⟨⟨d0, d1⟩, d2⟩, d3⟩, fun y hy => ?_⟩, hB⟩
      rcases List.mem_append.1 hy with hy | hy
      · exact hpre y hy
      · obtain rfl : y = x := by simpa using hy
        simp [hits, hnm]
  case done =>
    rintro D ys W hD rfl ⟨⟨⟨⟨⟨d0, d1⟩, d2⟩, d3⟩, hpre⟩, hB⟩ hKd
    have k2 := d2.cell
    have k3 := d3.cell
    have g2 := d2.frozen
    have g3 := d3.frozen
    gi_wp2
    have hK1 := (KeepsOthers.setCell W ⟨w.heap.size + 1 + 1, 0, none⟩ (.int .u8 0)).same D _ hKd rfl
    have hK2 := (KeepsOthers.setCell (W.setCell ⟨w.heap.size + 1 + 1, 0, none⟩ (.int .u8 0)) ⟨w.heap.size + 1 + 1 + 1, 0, none⟩ (.bool false)).same D _ hK1 rfl
    refine ⟨by simp, .inl ⟨_, _, rfl, run_takeDeferred hK2, ?_⟩⟩
    have q2 : Boxed ((W.setCell ⟨w.heap.size + 1 + 1, 0, none⟩ (.int .u8 0)).setCell ⟨w.heap.size + 1 + 1 + 1, 0, none⟩ (.bool false)) (w.heap.size + 1 + 1) 5 (.int .u8 0) := (d2.set _).other (by omega) _
    have q3 : Boxed ((W.setCell ⟨w.heap.size + 1 + 1, 0, none⟩ (.int .u8 0)).setCell ⟨w.heap.size + 1 + 1 + 1, 0, none⟩ (.bool false)) (w.heap.size + 1 + 1 + 1) 4 (.bool false) := (d3.other (by omega) _).set _
    have r2 := cell_kept q2.cell (grownBy_putObj' _ D (.deferred none)) (fun r e => by cases e; exact ⟨_, hK2, rfl⟩)
    have r3 := cell_kept q3.cell (grownBy_putObj' _ D (.deferred none)) (fun r e => by cases e; exact ⟨_, hK2, rfl⟩)
    refine ⟨.tuple #[.int .u8 0, .bool false], ?_, ((hB.setCell (p := ⟨w.heap.size + 1 + 1, 0, none⟩) (by simp; omega) _).setCell (p := ⟨w.heap.size + 1 + 1 + 1, 0, none⟩) (by simp; omega) _).trans (belowK_b (w := w) (Nat.le_refl _) _ D _ _ (by omega) hK2 rfl rfl), .inr ⟨fun j hj hk => hpre j (List.mem_filter.2 ⟨List.mem_range.2 hj, hk⟩), rfl⟩⟩
    simp [results, Tryd.f36, go_sem, r2, r3]
  case stop =>
    rintro D c pre W hD ⟨k, hk, hkp, hkk⟩ ⟨⟨⟨rfl, pre', x, rfl, hx, hpre⟩, x', hx', d2, d3⟩, hB⟩ hKd
    obtain ⟨rfl, hxk⟩ := List.append_inj' hkp rfl
    obtain rfl : x = k := by simpa using hxk
    obtain rfl : x' = x := by simpa using hx'.symm
    have k2 := d2.cell
    have k3 := d3.cell
    gi_wp2
    refine ⟨by simp, .inl ⟨_, _, rfl, run_takeDeferred hKd, ?_⟩⟩
    have r2 := cell_kept d2.cell (grownBy_putObj' _ D (.deferred none)) (fun r e => by cases e; exact ⟨_, hKd, rfl⟩)
    have r3 := cell_kept d3.cell (grownBy_putObj' _ D (.deferred none)) (fun r e => by cases e; exact ⟨_, hKd, rfl⟩)
    refine ⟨.tuple #[.int .u8 (x' : Nat), .bool true], ?_, hB.trans (belowK_b (w := w) (Nat.le_refl _) W D _ _ (by omega) hKd rfl rfl), .inl ⟨x', hk, hkk, hx, fun j hj hjk => hpre j (List.mem_filter.2 ⟨List.mem_range.2 hj, hjk⟩), rfl⟩⟩
    simp [results, Tryd.f36, go_sem, r2, r3]
end Go.Proofs.YtfohjnfdgegfcaaDoor
