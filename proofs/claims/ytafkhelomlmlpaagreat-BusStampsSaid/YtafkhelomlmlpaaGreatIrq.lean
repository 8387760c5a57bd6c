/-
  irq.kinds, an iterator: it hands on the numbers from 1 to 5, until a round has said 'no more'. Conditions: none.
-/
import Derived.RangeFuncNested
import Derived.RangeFuncBound
import Derived.RangeFuncCalls
import Derived.RangeFuncLeaves
import Derived.RangeFuncBox
import Derived.Shelf.Abstract
import Derived.WalkKit
import Derived.OwnWalkIn
import Derived.TacticsInMore
import Derived.LoopNIn
import Derived.LoopIn
import Derived.Test.YtafkhelomlmlpaaGreatBaz
namespace Go.Proofs.YtafkhelomlmlpaaGreat
open Go Go.RowKit Go.Shelf Go.AE
set_option maxRecDepth 100000
attribute [local go_sem] Oper.semAt_some
/-- What it hands on. -/
def kindsL : List (List Value) := [[.int .u8 1], [.int .u8 2], [.int .u8 3], [.int .u8 4], [.int .u8 5]]
theorem kindsL_at : ∀ k, k < 5 → kindsL[k]? = some [.int .u8 ((k : Int) + 1)]
  | 0, _ => rfl
  | 1, _ => rfl
  | 2, _ => rfl
  | 3, _ => rfl
  | 4, _ => rfl
  | n + 5, h => absurd h (by omega)
set_option maxHeartbeats 1000000 in
theorem kinds_in (n l : Nat) (J : Nat → World → Prop) (Jx : World → Prop) (W : World)
    (hY : ∀ k v W1, kindsL[k]? = some v → J k W1 → ∀ m', YieldAt Fence.wide m' Tryz.prog l ⟨v⟩ W1 fun e W' => (e = .returned (.bool true) ∧ J (k + 1) W') ∨ (e = .returned (.bool false) ∧ Jx W'))
    (h0 : J 0 W) :
    CallsIn Fence.wide n Tryz.prog 193 #[.func (.yield l) #[] #[]] W fun e W' => (∃ v, e = .returned v) ∧ (J 5 W' ∨ Jx W') := by
  refine callsIn_of_wp Tryz.func193 rfl trivial ?_ rfl
  simp only [Tryz.ntmps193, List.size_toArray, List.length_cons, List.length_nil, Nat.reduceAdd, Nat.reduceSub, Array.replicate_succ, Array.replicate_zero, List.push_toArray, List.append_toArray, List.nil_append, List.cons_append]
  gi_wp2
  gi_loopw [2] (fun p wr => ∃ k : Nat, k ≤ 5 ∧ p = .int .u8 (k + 1 : Nat) ∧ J k wr)
    (fun p wr => 6 - (intOf p).toNat)
  case atStart =>
    exact ⟨0, by omega, rfl, h0⟩
  case round =>
    obtain ⟨k, hk, rfl, hJs⟩ := hrel
    by_cases hk' : k < 5
    · have hkb : ((k + 1 : Nat) : Int) ≤ 5 := by omega
      obtain ⟨fn, tmps, assign, body, hy, hR⟩ := hY k _ wr (kindsL_at k hk') hJs (n - 1)
      gi_wp2
      refine ⟨fun h => (by cases h), hR.mono ?_⟩
      rintro e w3 (⟨rfl, hJ3⟩ | ⟨rfl, hJx3⟩)
      · gi_wp2
        go_roundw
        case rel =>
          exact ⟨k + 1, by omega, by simp, hJ3⟩
        case measure => simp [intOf]; omega
      · gi_wp2
        refine bodyPost_ret (results_none rfl _ _ _) rfl ?_
        exact ⟨⟨_, rfl⟩, .inr hJx3⟩
    · obtain rfl : k = 5 := by omega
      gi_wp2
      go_end0
      exact ⟨⟨_, rfl⟩, .inl hJs⟩
theorem kinds_ok : IterOk Tryz.prog 193 kindsL :=
  ⟨enters_of Tryz.func193 (by kernel_rfl) rfl, fun m l J Jx W _ _ hY h0 => kinds_in m l J Jx W hY h0⟩
end Go.Proofs.YtafkhelomlmlpaaGreat
