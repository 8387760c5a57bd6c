/-
  opcode.Find at given arguments, opcode.Modes of STZ, and the head that all laws of the layer 'opcode' ask first. Conditions: none.
-/
import Derived.Test.YtfohjnfdgegfcaaDoorOpLive
namespace Go.Proofs.YtfohjnfdgegfcaaDoor
open Go Go.AE Go.RowKit Go.Shelf
set_option maxRecDepth 100000
set_option linter.unusedSimpArgs false

theorem find_call (nm : List UInt8) (md : Nat) (W : World) (hW : GoodAt W) :
    Calls Tryd.prog 36 #[.string ⟨⟨nm⟩⟩, .int .u8 md] W fun e W' => RowKit.Below W.heap.size W W' ∧
      ((∃ k, k < 256 ∧ (opR k).known = true ∧ hits nm md k = true ∧ (∀ j, j < k → (opR j).known = true → hits nm md j = false) ∧ e = .returned (.tuple #[.int .u8 k, .bool true])) ∨
      ((∀ j, j < 256 → (opR j).known = true → hits nm md j = false) ∧ e = .returned (.tuple #[.int .u8 0, .bool false]))) :=
  (callsIn_wide (n := 3)).1 (find_in Fence.wide 3 trivial trivial trivial trivial rfl (by omega) (fun b hb W hW => good_calls35 _ b hb W hW) (fun b hb W hW => good_calls34 _ b hb W hW) nm md W hW (size_of_good hW))
def hitK (nm : List UInt8) (md j : Nat) : Bool := (opR j).known && hits nm md j
theorem find_yes {nm : List UInt8} {md k : Nat} (hk : k < 256) (h1 : hitK nm md k = true) (h2 : ∀ j, j < k → hitK nm md j = false) (m : Mem) :
    ACall Tryd.prog 36 [S nm, .int .u8 md] m fun v m' => v = .tuple ⟨[.int .u8 (k : Nat), .bool true]⟩ ∧ m' = m := by
  refine ACall.of_shelf rfl (fun g => .tup (.cons (.s (.int _ _)) (.cons (.s (.bool _)) .nil))) fun W hW => (find_call nm md W hW).mono ?_
  rintro e W' ⟨hb, ⟨k', hk', hn, hh, hmin, rfl⟩ | ⟨hnone, rfl⟩⟩
  · simp only [hitK, Bool.and_eq_true] at h1
    rcases Nat.lt_trichotomy k k' with h | h | h
    · rw [hmin k h h1.1] at h1
      exact absurd h1.2 (by simp)
    · subst h; exact ⟨rfl, hb⟩
    · have := h2 k' h
      simp only [hitK, hn, hh] at this
      cases this
  · simp only [hitK, Bool.and_eq_true] at h1
    rw [hnone k hk h1.1] at h1
    exact absurd h1.2 (by simp)
theorem find_no {nm : List UInt8} {md : Nat} (h : ∀ j, j < 256 → hitK nm md j = false) (m : Mem) :
    ACall Tryd.prog 36 [S nm, .int .u8 md] m fun v m' => v = .tuple ⟨[.int .u8 ((0 : Nat) : Int), .bool false]⟩ ∧ m' = m := by
  refine ACall.of_shelf rfl (fun g => .tup (.cons (.s (.int _ _)) (.cons (.s (.bool _)) .nil))) fun W hW => (find_call nm md W hW).mono ?_
  rintro e W' ⟨hb, ⟨k', hk', hn, hh, hmin, rfl⟩ | ⟨hnone, rfl⟩⟩
  · have := h k' hk'
    simp only [hitK, hn, hh] at this
    cases this
  · exact ⟨rfl, hb⟩
theorem all_lt {n : Nat} {p : Nat → Bool} (h : ((List.range n).all fun j => !(p j)) = true) : ∀ j, j < n → p j = false := fun j hj => by
  have := List.all_eq_true.1 h j (List.mem_range.2 hj)
  simpa using this
def LDA : List UInt8 := [76, 68, 65]
def STZ : List UInt8 := [83, 84, 90]
def tab36 : List Ent := [⟨[S LDA, By 1], .tuple ⟨[By 169, .bool true]⟩, []⟩, ⟨[S LDA, By 11], .tuple ⟨[By 0, .bool false]⟩, []⟩]
theorem ent_of {f : FuncId} {aa : List Value} {v : Value} (h : ∀ m, ACall Tryd.prog f aa m fun x m' => x = v ∧ m' = m) (hv : ∀ ρ, ren ρ v = v) : EntIs Tryd.prog f ⟨aa, v, []⟩ := fun m => (h m).mono fun x m' ⟨h1, h2⟩ => ⟨by rw [h1]; exact (hv _).symm, by rw [h2]; show m = m ++ []; simp⟩
theorem ok36 : ∀ e ∈ tab36, EntIs Tryd.prog 36 e := by
  intro e he
  simp only [tab36, List.mem_cons, List.not_mem_nil, or_false] at he
  rcases he with rfl | rfl
  · exact ent_of (find_yes (nm := LDA) (md := 1) (k := 169) (by omega) (by kernel_rfl) (all_lt (by kernel_rfl))) (fun ρ => rfl)
  · exact ent_of (find_no (nm := LDA) (md := 11) (all_lt (by kernel_rfl))) (fun ρ => rfl)
theorem modesSTZ : modesOf STZ (upto 256) = [2, 3, 5, 6] := by kernel_rfl
theorem sorts_of {L L1 : List Nat} (hl : L1.length = L.length) (h : rowOk Tryd.f63 L L1 (.tuple ⟨[]⟩) = true) : SortsAt L L1 := by
  intro base W g cap hW hb hr
  have hL : ∀ K : List Nat, (K.map By).all plainS = true := fun K => List.all_eq_true.2 fun x hx => by obtain ⟨c, _, rfl⟩ := List.mem_map.1 hx; rfl
  have base0 := rowOk_ok (f := 63) Tryd.func63 rfl h
  have := ACall.on_row (xs := L.map By) (ys := L1.map By) (e := 5) (by kernel_rfl) (hL L) (hL L1) (by simp [hl]) (by rw [List.length_map]; exact base0) hW (Nat.le_trans hb hr.1) hr
  rw [List.length_map] at this
  refine this.mono ?_
  rintro e W' ⟨⟨v', rfl, hv⟩, hg, hrow⟩
  refine ⟨?_, hg, hrow⟩
  cases hv with
  | a h => cases h with
    | s h => cases h
  | tup hf => cases hf; rfl
theorem compacts_of {L L1 : List Nat} {k : Nat} (hl : L1.length = L.length) (hk : k ≤ L1.length) (h : rowOk Tryd.f64 L L1 (.slice (some ⟨0, 0, none⟩) k L.length) = true) : CompactsAt L (L1.take k) := by
  intro base W g cap hW hb hr
  have hL : ∀ K : List Nat, (K.map By).all plainS = true := fun K => List.all_eq_true.2 fun x hx => by obtain ⟨c, _, rfl⟩ := List.mem_map.1 hx; rfl
  have base0 := rowOk_ok (f := 64) Tryd.func64 rfl h
  have hcap : L.length ≤ cap := by have := hr.2.choose_spec.2.1; simpa using this
  have := ACall.on_row (xs := L.map By) (ys := L1.map By) (e := 5) (by kernel_rfl) (hL L) (hL L1) (by simp [hl]) (by rw [List.length_map]; exact base0) hW (Nat.le_trans hb hr.1) hr
  rw [List.length_map] at this
  refine this.mono ?_
  rintro e W' ⟨⟨v', rfl, hv⟩, hg, hrow⟩
  refine ⟨?_, hg, ?_⟩
  · cases hv with
    | a h => cases h with
      | s h => cases h with
        | slice _ _ _ _ gb hgb =>
          simp only [List.getElem?_cons_zero, Option.some.injEq] at hgb
          subst hgb
          simp only [List.length_take]
          rw [show L.length + (cap - L.length) = cap from by omega, Nat.min_eq_left hk]
  · obtain ⟨hb', cs, hh, h2, h3, h4⟩ := hrow
    refine ⟨hb', cs, hh, by simp; omega, h3, ?_⟩
    have h4' : cs.toList.take (L1.map u8V).length = L1.map u8V := h4
    simp only [List.length_map] at h4' ⊢
    rw [List.length_take, Nat.min_eq_left hk, List.map_take, ← h4', List.take_take, Nat.min_eq_left hk]
theorem ent37 : EntIs Tryd.prog 37 ⟨[S STZ], .slice (some ⟨0, 0, none⟩) 4 4, [⟨[2, 3, 5, 6].map By, 5, true, false⟩]⟩ := by
  intro m
  have := ACall.of_row (f := 37) (aa := [S STZ]) (m := m) (e := 5) (xs := [2, 3, 5, 6].map u8V) (P := Tryd.prog) rfl rfl (by kernel_rfl) (fun W hW => by
    have hS : SortsAt (modesOf STZ (upto 256)) [2, 3, 5, 6] := by rw [modesSTZ]; exact sorts_of rfl t1
    have hC : CompactsAt [2, 3, 5, 6] [2, 3, 5, 6] := compacts_of (L1 := [2, 3, 5, 6]) (k := 4) rfl (by decide) t2
    exact (callsIn_wide (n := 3)).1 (modes_in 3 (by omega) (fun b hb W hW => good_calls35 _ b hb W hW) (fun b hb W hW => good_calls34 _ b hb W hW) STZ [2, 3, 5, 6] [2, 3, 5, 6] (by rw [modesSTZ]; decide) (by rw [modesSTZ]) hS hC W hW (size_of_good hW)))
  exact this
noncomputable def orcO : Orc Tryd.prog := (((((shelfO.more 34 tab34 ok34).more 20 tab20 ok20).more 35 tab35 ok35).more 36 tab36 ok36).more 37 [_] (fun e he => by rw [List.mem_singleton.1 he]; exact ent37)).more 38 [_] (fun e he => by rw [List.mem_singleton.1 he]; exact ent38)
theorem ok33 : ∀ e ∈ [(⟨[], .bool true, []⟩ : Ent)], EntIs Tryd.prog 33 e := entsOk_ok (T := T) (O := orcO) (lf := 1000) (cf := 300) (n := 20) (c := codeOf Tryd.f33) Tryd.func33 rfl (by kernel_rfl)
end Go.Proofs.YtfohjnfdgegfcaaDoor
