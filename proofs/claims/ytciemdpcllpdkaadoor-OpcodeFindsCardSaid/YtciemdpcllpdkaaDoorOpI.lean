/-
  opcode.all, an iterator: it hands on every known byte with its operation, rising, until a round has said 'no more'. Conditions: the library's number at the first place.
-/
import Derived.RangeFuncNested
import Derived.RangeFuncBound
import Derived.RangeFuncCalls
import Derived.RangeFuncLeaves
import Derived.RangeFuncBox
import Derived.Shelf.Abstract
import Derived.Shelf.RegionOpen
import Derived.WalkKit
import Derived.OwnWalkIn
import Derived.TacticsInMore
import Derived.LoopNIn
import Derived.LoopIn
import Derived.Maps.AppendAt
import Derived.Test.YtciemdpcllpdkaaDoorOpZ
namespace Go.Proofs.YtciemdpcllpdkaaDoor
open Go Go.RowKit Go.Shelf Go.AE Go.SX
set_option maxRecDepth 100000
set_option linter.unusedVariables false
attribute [local go_sem] Oper.semAt_some
def opC (b : Nat) : Array Value := #[.string ⟨⟨(opR b).name⟩⟩, .int .u8 ((opR b).mode : Nat), .int .i64 ((opR b).size : Nat), .int .i64 ((opR b).cycles : Nat)]
def opV (b : Nat) : Value := .agg (opC b)
/-- The known bytes below k. -/
def uptoB (k : Nat) : List Nat := (List.range k).filter fun b => (opR b).known
theorem uptoB_yes {k : Nat} (h : (opR k).known = true) : uptoB (k + 1) = uptoB k ++ [k] := by
  simp [uptoB, List.range_succ, h]
theorem uptoB_no {k : Nat} (h : (opR k).known = false) : uptoB (k + 1) = uptoB k := by
  simp [uptoB, List.range_succ, h]
def allL : List (List Value) := (uptoB 256).map fun b => [.int .u8 (b : Nat), opV b]
theorem uptoB_at {k : Nat} (hk : (opR k).known = true) : ∀ n, k < n → (uptoB n)[(uptoB k).length]? = some k
  | 0, h => by omega
  | n + 1, h => by
    by_cases he : k = n
    · subst he
      rw [uptoB_yes hk]
      simp
    · have ih := uptoB_at hk n (by omega)
      cases hn : (opR n).known with
      | true =>
        rw [uptoB_yes hn]
        exact AE.getElem?_app ih
      | false => rw [uptoB_no hn]; exact ih
abbrev GoodAt (W : World) : Prop := Go.AE.Good W fun _ => False
/-- The family of names, where none is asked. -/
@[reducible] def fam0 : Fam := ⟨fun _ _ => .u, fun _ _ => noOb, fun _ _ => .top, fun _ _ _ => hasT _, fun _ => false, fun _ _ h => (by cases h), fun _ => [], fun _ => .x, fun _ _ _ _ => rfl⟩
theorem kn_at (b : Nat) (hb : b < 256) (W : World) (hg : GoodAt W) : Calls Tryd.prog 43 #[.int .u8 (b : Nat)] W fun e W' => e = .returned (.bool (opR b).known) ∧ W.grownBy W' none :=
  letI := fam0
  ACall.calls0 (ofK b hb []) rfl (fun g w h => VR.plain_eq rfl h) hg
theorem of_at (b : Nat) (hb : b < 256) (W : World) (hg : GoodAt W) : Calls Tryd.prog 42 #[.int .u8 (b : Nat)] W fun e W' => e = .returned (opV b) ∧ W.grownBy W' none :=
  letI := fam0
  ACall.calls0 (ofA b hb []) rfl (fun g w h => VR.agg_eq rfl h) hg
set_option maxHeartbeats 1000000 in
theorem all_in (F : Fence) (n l : Nat) (hf1 : F.fn 45) (hf2 : F.fn 43) (hf3 : F.fn 42) (hro : F.round = none) (hn : 1 ≤ n) (J : Nat → World → Prop) (Jx : World → Prop) (W : World) (hJ : ∀ k W W', J k W → W.grownBy W' none → J k W') (hJg : ∀ k W, J k W → GoodAt W)
    (hK : ∀ b : Nat, b < 256 → ∀ W, GoodAt W → CallsIn F (n - 1) Tryd.prog 43 #[.int .u8 b] W fun e W' => e = .returned (.bool (opR b).known) ∧ W.grownBy W' none)
    (hO : ∀ b : Nat, b < 256 → ∀ W, GoodAt W → CallsIn F (n - 1) Tryd.prog 42 #[.int .u8 b] W fun e W' => e = .returned (opV b) ∧ W.grownBy W' none)
    (hY : ∀ k v W1, allL[k]? = some v → J k W1 → YieldAt F (n - 1) Tryd.prog l ⟨v⟩ W1 fun e W' => (e = .returned (.bool true) ∧ J (k + 1) W') ∨ (e = .returned (.bool false) ∧ Jx W'))
    (h0 : J 0 W) :
    CallsIn F n Tryd.prog 45 #[.func (.yield l) #[] #[]] W fun e W' => (∃ v, e = .returned v) ∧ (J allL.length W' ∨ Jx W') := by
  refine callsIn_of_wp Tryd.func45 rfl hf1 ?_ hro
  simp only [Tryd.ntmps45, List.size_toArray, List.length_cons, List.length_nil, Nat.reduceAdd, Nat.reduceSub, Array.replicate_succ, Array.replicate_zero, List.push_toArray, List.append_toArray, List.nil_append, List.cons_append]
  gi_wp2
  gi_loopw [3] (fun p wr => ∃ k : Nat, k ≤ 256 ∧ p = .int .i64 k ∧ J (uptoB k).length wr)
    (fun p wr => 256 - (intOf p).toNat)
  case atStart =>
    exact ⟨0, by omega, rfl, h0⟩
  case round =>
    obtain ⟨k, hk, rfl, hJs⟩ := hrel
    by_cases hk' : k < 256
    · have hkb : (k : Int) < 256 := by omega
      cases hkn : (opR k).known with
      | false =>
        have hK' := hK k hk' wr (hJg _ _ hJs)
        rw [hkn] at hK'
        gi_wp2
        refine hK'.mono ?_
        rintro e w1 ⟨rfl, hB1⟩
        have hJ1 := hJ _ _ _ hJs hB1
        gi_wp2
        refine ⟨fun _ h => (by cases h), ?_⟩
        gi_wp2
        go_roundw
        case rel => exact ⟨k + 1, by omega, by simp, by rw [uptoB_no hkn]; exact hJ1⟩
        case measure => simp [intOf]; omega
      | true =>
        have hK' := hK k hk' wr (hJg _ _ hJs)
        rw [hkn] at hK'
        gi_wp2
        refine hK'.mono ?_
        rintro e w1 ⟨rfl, hB1⟩
        have hJ1 := hJ _ _ _ hJs hB1
        gi_wp2
        refine (hO k hk' w1 (hJg _ _ hJ1)).mono ?_
        rintro e w2 ⟨rfl, hB2⟩
        have hJ2 := hJ _ _ _ hJ1 hB2
        obtain ⟨fn, tmps, assign, body, hy, hR⟩ := hY (uptoB k).length [.int .u8 (k : Nat), opV k] w2 (by
          unfold allL
          rw [List.getElem?_map, uptoB_at hkn 256 hk']; rfl) hJ2
        gi_wp2
        refine hR.mono ?_
        rintro e w3 (⟨rfl, hJ3⟩ | ⟨rfl, hJx3⟩)
        · gi_wp2
          go_roundw
          case rel => exact ⟨k + 1, by omega, by simp, by rw [uptoB_yes hkn, List.length_append]; exact hJ3⟩
          case measure => simp [intOf]; omega
        · gi_wp2
          refine bodyPost_ret (results_none rfl _ _ _) rfl ?_
          exact ⟨⟨_, rfl⟩, .inr hJx3⟩
    · obtain rfl : k = 256 := by omega
      gi_wp2
      go_end0
      refine ⟨⟨_, rfl⟩, .inl ?_⟩
      unfold allL
      rw [List.length_map]
      exact hJs
theorem all_ok : IterOk Tryd.prog 45 allL :=
  ⟨enters_of Tryd.func45 (by kernel_rfl) rfl, fun m l J Jx W hJ _ hJg hY h0 =>
    callsIn_wide.2 ((callsIn_wide (n := m + 1)).1 (all_in Fence.wide (m + 1) l trivial trivial trivial rfl (by omega) J Jx W hJ hJg (fun b hb W hg => callsIn_wide.2 (kn_at b hb W hg)) (fun b hb W hg => callsIn_wide.2 (of_at b hb W hg)) (fun k v W1 hv hj => hY k v W1 hv hj _) h0))⟩
end Go.Proofs.YtciemdpcllpdkaaDoor
