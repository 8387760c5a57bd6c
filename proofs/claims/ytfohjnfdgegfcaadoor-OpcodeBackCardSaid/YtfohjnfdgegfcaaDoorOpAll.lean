/-
  opcode.all, an iterator: it hands on every known byte with its operation, rising, until a round has said 'no more'. Conditions: the library's number at the first place.
-/
import Derived.RangeFuncNested
import Derived.RangeFuncBound
import Derived.RangeFuncCalls
import Derived.RangeFuncLeaves
import Derived.RangeFuncBox
import Derived.Shelf.Abstract
import Derived.Shelf.RegionOpen
import Derived.WalkKit
import Derived.OwnWalkIn
import Derived.TacticsInMore
import Derived.LoopNIn
import Derived.LoopIn
import Derived.Maps.AppendAt
import Derived.Test.YtfohjnfdgegfcaaDoorOpTab
namespace Go.Proofs.YtfohjnfdgegfcaaDoor
open Go Go.RowKit Go.Shelf
set_option maxRecDepth 100000
attribute [local go_sem] Oper.semAt_some

def opC (b : Nat) : Array Value := #[.string ⟨⟨(opR b).name⟩⟩, .int .u8 ((opR b).mode : Nat), .int .i64 ((opR b).size : Nat), .int .i64 ((opR b).cycles : Nat)]
def opV (b : Nat) : Value := .agg (opC b)
/-- The known bytes below k. -/
def upto (k : Nat) : List Nat := (List.range k).filter fun b => (opR b).known
theorem upto_yes {k : Nat} (h : (opR k).known = true) : upto (k + 1) = upto k ++ [k] := by
  simp [upto, List.range_succ, h]
theorem upto_no {k : Nat} (h : (opR k).known = false) : upto (k + 1) = upto k := by
  simp [upto, List.range_succ, h]
theorem upto_len (k : Nat) : (upto k).length ≤ k := by
  have := List.length_filter_le (fun b => (opR b).known) (List.range k)
  simpa [upto] using this
abbrev GoodAt (W : World) : Prop := Go.AE.Good W fun _ => False
theorem GoodAt.below {n₀ : Nat} (hn : 1 ≤ n₀) {W W' : World} (h : GoodAt W) (hb : Below n₀ W W') : GoodAt W' := by
  obtain ⟨h0, n, hn'⟩ := h
  exact ⟨h0, n, (hb.cell (p := ⟨0, 0, none⟩) hn).trans hn'⟩
theorem grown_of {W W' : World} (h : Below W.heap.size W W') : W.grownBy W' none := ⟨h.os, h.tape, h.output, h.size, fun k hk _ => h.block k hk⟩

set_option maxHeartbeats 1000000 in
theorem all_in (F : Fence) (n : Nat) (h62 : F.fn 62) (h35 : F.fn 35) (h34 : F.fn 34) (hro : F.round = none) (hn : 1 ≤ n) (n₀ : Nat) (hn₀ : 1 ≤ n₀) (l : Nat) (J Jx : List Nat → World → Prop)
    (hK : ∀ b : Nat, b < 256 → ∀ W, GoodAt W → CallsIn F (n - 1) Tryd.prog 35 #[.int .u8 b] W fun e W' => e = .returned (.bool (opR b).known) ∧ Below W.heap.size W W')
    (hO : ∀ b : Nat, b < 256 → ∀ W, GoodAt W → CallsIn F (n - 1) Tryd.prog 34 #[.int .u8 b] W fun e W' => e = .returned (opV b) ∧ Below W.heap.size W W')
    (hY : ∀ pre x W, J pre W → pre.length < 256 → YieldAt F (n - 1) Tryd.prog l #[.int .u8 (x : Nat), opV x] W fun e W' =>
      (e = .returned (.bool true) ∧ J (pre ++ [x]) W' ∧ Below n₀ W W') ∨ (e = .returned (.bool false) ∧ Jx (pre ++ [x]) W'))
    (hJ : ∀ s W W', J s W → Below W.heap.size W W' → J s W')
    (W : World) (hg : GoodAt W) (hs : n₀ ≤ W.heap.size) (h0 : J [] W) :
    CallsIn F n Tryd.prog 62 #[.func (.yield l) #[] #[]] W fun e W' => (∃ v, e = .returned v) ∧
      ((∃ ys, ys = upto 256 ∧ J ys W') ∨ (∃ pre, (∃ k, k < 256 ∧ pre = upto k ++ [k] ∧ (opR k).known = true) ∧ Jx pre W')) := by
  refine callsIn_of_wp Tryd.func62 rfl h62 ?_ hro
  simp only [Tryd.ntmps62, List.size_toArray, List.length_cons, List.length_nil, Nat.reduceAdd, Nat.reduceSub, Array.replicate_succ, Array.replicate_zero, List.push_toArray, List.append_toArray, List.nil_append, List.cons_append]
  gi_wp2
  gi_loopw [3] (fun p wr => ∃ k : Nat, k ≤ 256 ∧ p = .int .i64 k ∧ J (upto k) wr ∧ GoodAt wr ∧ n₀ ≤ wr.heap.size)
    (fun p wr => 256 - (intOf p).toNat)
  case atStart =>
    exact ⟨0, by omega, rfl, h0, hg, hs⟩
  case round =>
    obtain ⟨k, hk, rfl, hJs, hgs, hss⟩ := hrel
    by_cases hk' : k < 256
    · have hkb : (k : Int) < 256 := by omega
      cases hkn : (opR k).known with
      | false =>
        have hK' := hK k hk' wr hgs
        rw [hkn] at hK'
        gi_wp2
        refine hK'.mono ?_
        rintro e w1 ⟨rfl, hB1⟩
        have hJ1 := hJ _ _ _ hJs hB1
        have hg1 := hgs.below (Nat.le_trans hn₀ hss) hB1
        have hs1 := hB1.size
        gi_wp2
        refine ⟨fun _ h => (by cases h), ?_⟩
        gi_wp2
        go_roundw
        case rel => exact ⟨k + 1, by omega, by simp, by rw [upto_no hkn]; exact hJ1, hg1, by omega⟩
        case measure => simp [intOf]; omega
      | true =>
        have hK' := hK k hk' wr hgs
        rw [hkn] at hK'
        gi_wp2
        refine hK'.mono ?_
        rintro e w1 ⟨rfl, hB1⟩
        have hJ1 := hJ _ _ _ hJs hB1
        have hg1 := hgs.below (Nat.le_trans hn₀ hss) hB1
        have hs1 := hB1.size
        gi_wp2
        refine (hO k hk' w1 hg1).mono ?_
        rintro e w2 ⟨rfl, hB2⟩
        have hJ2 := hJ _ _ _ hJ1 hB2
        have hg2 := hg1.below (Nat.le_trans hn₀ (by omega)) hB2
        have hs2 := hB2.size
        obtain ⟨fn, tmps, assign, body, hy, hR⟩ := hY (upto k) k w2 hJ2 (by have := upto_len k; omega)
        gi_wp2
        refine hR.mono ?_
        rintro e w3 (⟨rfl, hJ3, hk3⟩ | ⟨rfl, hJx3⟩)
        · have hg3 := hg2.below hn₀ hk3
          have hs3 := hk3.size
          gi_wp2
          go_roundw
          case rel => exact ⟨k + 1, by omega, by simp, by rw [upto_yes hkn]; exact hJ3, hg3, by omega⟩
          case measure => simp [intOf]; omega
        · gi_wp2
          refine bodyPost_ret (results_none rfl _ _ _) rfl ?_
          exact ⟨⟨_, rfl⟩, .inr ⟨upto k ++ [k], ⟨k, hk', rfl, hkn⟩, hJx3⟩⟩
    · obtain rfl : k = 256 := by omega
      gi_wp2
      go_end0
      exact ⟨⟨_, rfl⟩, .inl ⟨upto 256, rfl, hJs⟩⟩
end Go.Proofs.YtfohjnfdgegfcaaDoor
