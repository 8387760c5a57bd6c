/-
  slices.Clone of a slice without elements. Conditions: none.
-/
import Derived.Shelf.Abstract
import Derived.Shelf.RegionOpenPlain
import Derived.WalkKit
import Derived.Deep.LoopGhost
import Derived.Lib.Walk
import Derived.Lib.SliceRun
import Derived.Test.YtafkhelomlmlpaaGreatHdD
set_option linter.unusedSectionVars false
set_option linter.unusedVariables false
set_option linter.unusedSimpArgs false
namespace Go.Proofs.YtafkhelomlmlpaaGreat
open Go Go.RowKit Go.Shelf Go.Lib
set_option maxRecDepth 100000
theorem wpList_append0 {P : Program} {ops : Array Oper} {rest : List Oper} {o : Oper} {a : Act} {w : World} {Q : Exit → Act → World → Prop} (hgd : o.guard = none) (s x : Operand) (t : TypeId)
    (ho : o.op = .call { callee := .builtin .append, args := #[s, x], argTypes := #[t, t] }) {b y : Addr} {c : Nat} (hs : a.eval s = .slice (some b) 0 0) (hx : a.eval x = .slice (some y) 0 c)
    (hr : (Builtin.append_ #[t, t] o.type #[.slice (some b) 0 0, .slice (some y) 0 c]).run P w = .ok (.slice (some b) 0 0) w)
    (h : wpList P ops Q rest (a.put o.dst (.slice (some b) 0 0)) w) : wpList P ops Q (o :: rest) a w := by
  refine wpList_plain hgd fun K hK => ?_
  unfold Oper.wp execOp
  simp only [ho, resolve, invoke, builtin, Sem.run_bind, Sem.run_pure, Result.andThen_ok, List.map_toArray, List.map_cons, List.map_nil, hs, hx, hr]
  exact hK _ _ h
theorem app0 {t e : TypeId} {te : AE.TI} {z : Value} (hts : T.und t = some (.slice e)) (hte : T.inf e = some te) (hz : te.zero = some z) (hl : z.cells.toList.length = te.size) (b y : Addr) (c : Nat) (ty : TypeId) (w : World) :
    (Builtin.append_ #[t, t] ty #[.slice (some b) 0 0, .slice (some y) 0 c]).run Tryz.prog w = .ok (.slice (some b) 0 0) w :=
  AE.run_app_room (W := w) (W' := w) (sLen := 0) (sCap := 0) (a := b) T hts hts rfl hte (x' := .slice (some y) 0 c) (n := 0) (ys := []) rfl (fun W' _ => run_firstCells_some (P := Tryz.prog) W' te.size 0 y 0 c [] (by simp) fun k v hk => by simp at hk) (Nat.le_refl _) (by rw [Nat.zero_mul]; rfl)
set_option maxHeartbeats 2000000 in
theorem clone0_B (a : Addr) (c : Nat) (w : World) : Calls Tryz.prog 47 #[.slice (some a) 0 c] w fun e w' => (∃ b, e = .returned (.slice b 0 0)) ∧ Below w.heap.size w w' := by
  have t22 : Tryz.prog.underlying 30 = some (.slice 5) := rfl
  have q22 : ∀ (w : World) (a : Option Addr) (n c n' c' : Nat), (binOp .eql 30 (.slice a n c) (.slice none n' c')).run Tryz.prog w = .ok (.bool a.isNone) w := fun w a n c n' c' => Lib.run_eql_slice_nil w _ _ a n c n' c' t22
  go_enter Tryz.func47, Tryz.ntmps47
  go_wp2_with (at_builtin; refine wpList_append0 rfl _ _ 30 rfl rfl rfl (app0 rfl rfl rfl rfl _ _ _ _ _) ?_)
  go_ret
  exact ⟨⟨_, rfl⟩, (Below.refl _ w).alloc (Nat.le_refl _) _⟩
set_option maxHeartbeats 2000000 in
theorem cloneN_B (w : World) : Calls Tryz.prog 47 #[.slice none 0 0] w fun e w' => (∃ b, e = .returned (.slice b 0 0)) ∧ Below w.heap.size w w' := by
  have t22 : Tryz.prog.underlying 30 = some (.slice 5) := rfl
  have q22 : ∀ (w : World) (a : Option Addr) (n c n' c' : Nat), (binOp .eql 30 (.slice a n c) (.slice none n' c')).run Tryz.prog w = .ok (.bool a.isNone) w := fun w a n c n' c' => Lib.run_eql_slice_nil w _ _ a n c n' c' t22
  go_enter Tryz.func47, Tryz.ntmps47
  go_wp2
  go_ret
  exact ⟨⟨_, rfl⟩, Below.refl _ w⟩

theorem clone_zero {f : FuncId} (h0 : ∀ (a : Addr) (c : Nat) (w : World), Calls Tryz.prog f #[.slice (some a) 0 c] w fun e w' => (∃ b, e = .returned (.slice b 0 0)) ∧ Below w.heap.size w w')
    (hn : ∀ w : World, Calls Tryz.prog f #[.slice none 0 0] w fun e w' => (∃ b, e = .returned (.slice b 0 0)) ∧ Below w.heap.size w w') (m : AE.Mem) (B : Option AE.ABlk) :
    AE.ACall Tryz.prog f [.slice (some ⟨0, 0, none⟩) 0 0] m fun v m' => v = .slice (some ⟨m.length, 0, none⟩) 0 0 ∧ m' = m ++ [B] := by
  intro c g W args' hr ha
  have key : ∀ a : Option Addr, ∀ k : Nat, (a = none → k = 0) → Calls Tryz.prog f #[.slice a 0 k] W fun e W' => (∃ b, e = .returned (.slice b 0 0)) ∧ Below W.heap.size W W' := by
    intro a k hk
    cases a with
    | none => rw [hk rfl]; exact hn W
    | some a => exact h0 a k W
  have hx : ∃ a k, args' = [.slice a 0 k] ∧ (a = none → k = 0) := by
    cases ha with
    | cons h1 h2 =>
      cases h2 with
      | nil =>
        cases h1 with
        | a h1 => cases h1 with
          | s h1 => cases h1 with
            | slice j off len cap gb hg => exact ⟨_, _, rfl, fun h => (by cases h)⟩
            | nilS j off a hj => exact ⟨_, _, rfl, fun _ => rfl⟩
  obtain ⟨a, k, rfl, hk⟩ := hx
  refine (key a k hk).mono ?_
  rintro e W' ⟨⟨b, rfl⟩, hb⟩
  refine ⟨_, _, _, [none], rfl, ⟨rfl, rfl⟩, (hr.still hb.block hb.size hb.os hb.tape hb.output).ghost B, .a (.s (.nilS _ _ _ ?_))⟩
  rw [List.length_append, hr.len]; simp
section
open Go.AE Go.SX
variable [HF]
set_option maxRecDepth 1000000
def slV (n : X) : S0 := .sl 0 (.i 0) 0 0 n n
def clLC (n : X) (lo hi : Int) (c : SC) (el : Nat) (w : Bool) : LC := ⟨1, [.z (slV n)], [some ⟨c, el, w, false⟩], [⟨n, ⟨some lo, some hi⟩⟩], [], .z (.sl 1 (.i 0) 0 0 n n), [some ⟨c, el, w, false⟩, some ⟨c, el, true, false⟩]⟩
theorem cl_join {f : FuncId} {n : X} {hi : Int} {c : SC} {el : Nat} {w : Bool} (h1 : (clLC n 1 hi c el w).Ok Tryz.prog f)
    (h0 : ∀ (a : Addr) (c : Nat) (w : World), Calls Tryz.prog f #[.slice (some a) 0 c] w fun e w' => (∃ b, e = .returned (.slice b 0 0)) ∧ Below w.heap.size w w')
    (hn : ∀ w : World, Calls Tryz.prog f #[.slice none 0 0] w fun e w' => (∃ b, e = .returned (.slice b 0 0)) ∧ Below w.heap.size w w') : (clLC n 0 hi c el w).Ok Tryz.prog f := by
  refine ⟨fun ds hl hf ha => ?_⟩
  obtain ⟨q1, q2⟩ := hf ⟨n, ⟨some 0, some hi⟩⟩ (List.mem_singleton.2 rfl)
  have q1 : 0 ≤ n.I (envOf ds) := q1 _ rfl
  have q2 : n.I (envOf ds) ≤ hi := q2 _ rfl
  by_cases h : 1 ≤ n.I (envOf ds)
  · exact h1.call ds hl (fun f hf => by
      obtain rfl := List.mem_singleton.1 hf
      exact hasM h q2) ha
  · have hz : n.I (envOf ds) = 0 := by omega
    have e1 : (clLC n 0 hi c el w).args.map (SV.den (envOf ds)) = [.slice (some ⟨0, 0, none⟩) 0 0] := by
      show [Value.slice (some ⟨0, (X.I (envOf ds) (.i 0)).toNat * 0 + 0, none⟩) (n.I (envOf ds)).toNat (n.I (envOf ds)).toNat] = _
      rw [hz]; rfl
    have e2 : (clLC n 0 hi c el w).val.den (envOf ds) = .slice (some ⟨1, 0, none⟩) 0 0 := by
      show Value.slice (some ⟨1, (X.I (envOf ds) (.i 0)).toNat * 0 + 0, none⟩) (n.I (envOf ds)).toNat (n.I (envOf ds)).toNat = _
      rw [hz]; rfl
    rw [e1, e2]
    exact clone_zero h0 hn (denM (envOf ds) (clLC n 0 hi c el w).mem) (some ((⟨c, el, true, false⟩ : SBlk).den (envOf ds)))
end
end Go.Proofs.YtafkhelomlmlpaaGreat
