/-
  An abstract logic for the model (part 8): how frames and memories look, evaluated by functions. Conditions: none.
-/
import Derived.Test.YtfohjnfdgegfcaaDoorAe7
namespace Go.AE
variable {P : Program}

/-- What may be appended: a slice or a string. -/
def isSrcD : TypeDesc → Bool
  | .slice _ => true
  | .string => true
  | _ => false

/-- append. -/
def evAppend {R : Type} (X : Ops R) (T : Tab P) (ts tx : TypeId) (s x : Value) (m : Mem) (k : Value → Mem → R) : R :=
  match T.und ts, T.und tx with
  | some (.slice e), some dx =>
    if !isSrcD dx then X.fl else
    match T.inf e with
    | some te =>
      match te.zero with
      | some z =>
        if z.cells.toList.length ≠ te.size then X.fl else
        match srcA m te.size x with
        | some (n, cnd, xs) => X.nd cnd (
          match s with
          | .slice none 0 0 => X.br (n == 0) (k s m) (X.nd (decide (n * te.bytes ≤ 140737488355328 ∧ n ≤ 9223372036854775807)) (k (.slice (some ⟨m.length, 0, none⟩) n n) (m ++ [grownBlk e xs])))
          | .slice (some ⟨j, off, none⟩) len cap =>
            match m[j]? with
            | some (some b) =>
              X.br (decide (len + n ≤ cap))
                (if b.rw then X.nd (decide (off + len * te.size + n * te.size ≤ b.cells.length)) (k (.slice (some ⟨j, off, none⟩) (len + n) cap) (m.set j (some { b with cells := writeL b.cells (off + len * te.size) xs }))) else X.fl)
                (if b.rw then
                  (if b.elem == e && off == 0 then X.nd (decide (b.cells.length = cap * te.size ∧ len ≤ cap ∧ (len + n) * te.bytes ≤ 140737488355328 ∧ len + n ≤ 9223372036854775807))
                    (k (.slice (some ⟨m.length, 0, none⟩) (len + n) (len + n)) (m.set j none ++ [grownBlk e (b.cells.take (len * te.size) ++ xs)])) else X.fl)
                else X.nd (b.ex && decide (off + len * te.size ≤ b.cells.length ∧ (len + n) * te.bytes ≤ 140737488355328 ∧ len + n ≤ 9223372036854775807))
                    (k (.slice (some ⟨m.length, 0, none⟩) (len + n) (len + n)) (m ++ [grownBlk e ((b.cells.drop off).take (len * te.size) ++ xs)])))
            | _ => X.fl
          | _ => X.fl)
        | none => X.fl
      | none => X.fl
    | none => X.fl
  | _, _ => X.fl

section run
variable (T : Tab P) {ts tx ty e : TypeId} {dx : TypeDesc} {te : TI} {z x' : Value} {n : Nat} {ys : List Value} {W : World} (hts : T.und ts = some (.slice e)) (htx : T.und tx = some dx) (hdx : isSrcD dx = true)
  (hte : T.inf e = some te) (hz : te.zero = some z) (hl : (Builtin.lenOf x').run P W = .ok n W) (hf : ∀ W', W'.heap = W.heap → (Builtin.firstCells te.size n x').run P W' = .ok ⟨ys⟩ W')
include hts htx hdx hte hl hf

theorem run_app_room0 {sLen sCap : Nat} (h : sLen + n ≤ sCap) :
    (Builtin.append_ #[ts, tx] ty #[.slice none sLen sCap, x']).run P W = .ok (.slice none (sLen + n) sCap) W := by
  obtain ⟨i, hi, hs, hb, hzi⟩ := T.inf_ok e te hte
  have hf0 := hf W rfl
  rw [← hs] at hf0
  cases dx <;> first | (cases hdx; done) | (simp [Builtin.append_, T.run_und hts, T.run_und htx, sizeOf, run_typeInfo hi, hl, h, hf0])

theorem run_app_room {a : Addr} {sLen sCap : Nat} {W' : World} (h : sLen + n ≤ sCap) (hst : (storeCells (a.add (sLen * te.size)) ys).run P W = .ok () W') :
    (Builtin.append_ #[ts, tx] ty #[.slice (some a) sLen sCap, x']).run P W = .ok (.slice (some a) (sLen + n) sCap) W' := by
  obtain ⟨i, hi, hs, hb, hzi⟩ := T.inf_ok e te hte
  have hf0 := hf W rfl
  rw [← hs] at hf0 hst
  cases dx <;> first | (cases hdx; done) | (simp [Builtin.append_, T.run_und hts, T.run_und htx, sizeOf, run_typeInfo hi, hl, h, hf0, hst])

include hz in
theorem run_app_grow {base : Option Addr} {sLen sCap : Nat} {os : List Value} (h : sCap < sLen + n) (hfit : (sLen + n) * te.bytes ≤ 140737488355328) (h63 : sLen + n ≤ 9223372036854775807)
    (ho : ∀ W', W'.heap = W.heap → (Builtin.firstCells te.size sLen (.slice base sLen sCap)).run P W' = .ok ⟨os⟩ W') :
    ∃ nc, sLen + n ≤ nc ∧ (Builtin.append_ #[ts, tx] ty #[.slice base sLen sCap, x']).run P W =
      .ok (.slice (some ⟨W.heap.size, 0, none⟩) (sLen + n) nc) (W.drew.alloc (.cells ⟨os ++ ys ++ (Builtin.zeroCells z.cells (nc - (sLen + n))).toList⟩ e)) := by
  obtain ⟨i, hi, hs, hb, hzi⟩ := T.inf_ok e te hte
  have hn : ¬ (sLen + n ≤ sCap) := by omega
  have hfit' := growslice_fits h (by rw [hb]; exact hfit : (sLen + n) * i.bytes ≤ 140737488355328)
  have h48' : ¬ (281474976710656 < Builtin.nextslicecap (sLen + n) sCap * i.bytes) := by omega
  have h63' : ¬ (9223372036854775807 < ((sLen : Int) + (n : Int))) := by omega
  have hf0 := hf W.drew rfl
  have ho0 := ho W.drew rfl
  rw [← hs] at hf0 ho0
  have hz' : i.zero = some z := by rw [hzi]; exact hz
  refine ⟨grownCap W (sLen + n) sCap e, grownCap_ge _ _ _ _, ?_⟩
  cases dx <;> first
    | (cases hdx; done)
    | (simp [Builtin.append_, T.run_und hts, T.run_und htx, sizeOf, zeroValue, run_typeInfo hi, hz', hl, hn, h48', h63', hf0, ho0, Question.forced, newRow, grownCap]
       congr 2
       apply Array.ext'
       simp)
end run

theorem evAppend_ok {n₀ : Nat} {R : Type} {X : Ans P n₀ R} {T : Tab P} {ts tx ty : TypeId} {s s' x x' : Value} {m : Mem} {k : Value → Mem → R} (h : X.holds (evAppend X T ts tx s x m k)) {c : Ctx} {g₀ g : List (Option GB)} {W : World}
    (hr : Rel P c (g₀ ++ g) m W) (hs : VR (g₀ ++ g) s s') (hx : VR (g₀ ++ g) x x') :
    ∃ v w m' W' g', (Builtin.append_ #[ts, tx] ty #[s', x']).run P W = .ok w W' ∧ Rel P c (g₀ ++ (g ++ g')) m' W' ∧ VR (g₀ ++ (g ++ g')) v w ∧ X.holds (k v m') := by
  unfold evAppend at h
  split at h
  case h_2 => exact absurd h X.fl_ok
  rename_i e dx hts htx
  split at h
  case isTrue => exact absurd h X.fl_ok
  rename_i hdx
  replace hdx : isSrcD dx = true := by simpa using hdx
  split at h
  case h_2 => exact absurd h X.fl_ok
  rename_i te hte
  split at h
  case h_2 => exact absurd h X.fl_ok
  rename_i z hz
  split at h
  case isTrue => exact absurd h X.fl_ok
  rename_i hzl
  replace hzl : z.cells.size = te.size := by simpa using hzl
  split at h
  case h_2 => exact absurd h X.fl_ok
  rename_i n cnd xs hsrc
  obtain ⟨hcnd, h⟩ := X.nd_ok _ _ h
  obtain ⟨ys, hl, hf, hxy, hxn⟩ := srcA_ok hsrc hcnd hr hx
  have hce := T.cellsOf hte
  have fresh : ∀ (m1 : Mem) (os ps : List Value) (len nc : Nat), Rel P c (g₀ ++ g) m1 W → F2 (SR (g₀ ++ g)) os ps → os.length = len * te.size → len + n ≤ nc →
      Rel P c (g₀ ++ (g ++ [some ⟨W.heap.size, nc - (len + n)⟩])) (m1 ++ [grownBlk e (os ++ xs)]) (W.drew.alloc (.cells ⟨ps ++ ys ++ (Builtin.zeroCells z.cells (nc - (len + n))).toList⟩ e)) := by
    intro m1 os ps len nc hr1 hop hol hnc
    rw [← List.append_assoc g₀]
    refine hr1.drew.alloc e (nc - (len + n)) false (fun h => by cases h) ?_ ?_
    · rw [List.take_left' (by rw [(hop.append hxy).length])]
      exact hop.append hxy
    · rw [hce]
      have := (hop.append hxy).length
      have hzc : (Builtin.zeroCells z.cells (nc - (len + n))).toList.length = (nc - (len + n)) * te.size := by rw [Array.length_toList, size_zeroCells, hzl]
      rw [List.length_append (as := ps ++ ys), ← this, hzc]
      exact Nat.le_refl _
  split at h
  · cases hs with
    | a hs => cases hs with
      | s hs => cases hs with
        | slice0 =>
          obtain ⟨h1, h2⟩ := X.br_ok _ _ _ h
          by_cases hn : n = 0
          · subst hn
            refine ⟨_, _, m, W, [], run_app_room0 T hts htx hdx hte hl hf (by omega), by simpa using hr, .s (by simpa using SR.slice0), h1 rfl⟩
          · have h := h2 (by simpa using hn)
            obtain ⟨hc, h⟩ := X.nd_ok _ _ h
            obtain ⟨hc1, hc2⟩ := of_decide_eq_true hc
            obtain ⟨nc, hnc, hrun⟩ := run_app_grow (ty := ty) T hts htx hdx hte hz hl hf (base := none) (sLen := 0) (sCap := 0) (os := []) (by omega) (by simpa using hc1) (by omega) (fun W' _ => by simp [Builtin.firstCells])
            have hrel := fresh m [] [] 0 nc hr .nil (by simp) hnc
            refine ⟨_, _, _, _, _, hrun, hrel, .s ?_, h⟩
            have e2 : nc = n + (nc - n) := by omega
            have := SR.slice (g := g₀ ++ (g ++ [some ⟨W.heap.size, nc - (0 + n)⟩])) m.length 0 n n ⟨W.heap.size, nc - (0 + n)⟩ (by rw [← List.append_assoc]; exact last_app hr.len)
            simp only [Nat.zero_add] at this ⊢
            rw [← e2] at this
            exact this
  · rename_i j off len cap h
    split at h
    case h_2 => exact absurd h X.fl_ok
    rename_i b hj
    cases hs with
    | a hs => cases hs with
      | s hs => cases hs with
        | slice _ _ _ _ gb hg =>
          obtain ⟨h1, h2⟩ := X.br_ok _ _ _ h
          clear h
          by_cases hroom : len + n ≤ cap
          · have h := h1 (by simpa using hroom)
            split at h
            case isFalse => exact absurd h X.fl_ok
            rename_i hrw
            obtain ⟨hc, h⟩ := X.nd_ok _ _ h
            have hc := of_decide_eq_true hc
            obtain ⟨W', hst, hrel⟩ := hr.storeCells xs ys 0 m W j b gb (off + len * te.size) hj hg hrw (by rw [hxn]; omega) hxy
            refine ⟨_, _, _, W', [], run_app_room T hts htx hdx hte hl hf (by omega) (by rw [Addr.add_lit]; exact hst), by simpa using hrel, .s ?_, h⟩
            simpa using SR.slice j off (len + n) cap gb hg
          · have hB := h2 (by simpa using hroom)
            clear h1 h2
            split at hB
            · rename_i hrw
              split at hB
              case isFalse => exact absurd hB X.fl_ok
              rename_i hbe
              simp only [Bool.and_eq_true, beq_iff_eq] at hbe
              obtain ⟨hbe, rfl⟩ := hbe
              obtain ⟨hc, hB⟩ := X.nd_ok _ _ hB
              obtain ⟨hc1, hc2, hc3, hc4⟩ := of_decide_eq_true hc
              by_cases hin : len + n ≤ cap + gb.extra
              · obtain ⟨W', hst, hrel⟩ := hr.growIn (len := len) (n := n) (cap := cap) hj hg hrw (by rw [hbe]; exact hce) hc1 hc2 hin hxy hxn
                rw [hbe] at hrel
                refine ⟨_, _, _, W', [_], run_app_room T hts htx hdx hte hl hf hin (by rw [Addr.add_lit, Nat.zero_add]; exact hst), by rw [← List.append_assoc]; exact hrel, .s ?_, hB⟩
                have := SR.slice (g := g₀ ++ (g ++ [some ⟨gb.b, cap + gb.extra - (len + n)⟩])) m.length 0 (len + n) (len + n) ⟨gb.b, cap + gb.extra - (len + n)⟩ (by rw [← List.append_assoc]; exact last_app hr.len)
                rw [show len + n + (cap + gb.extra - (len + n)) = cap + gb.extra from by omega] at this
                exact this
              · have hll : len * te.size ≤ cap * te.size := Nat.mul_le_mul_right _ hc2
                obtain ⟨os, hos, hcell⟩ := hr.cellsAt hj hg (off := 0) (n := len * te.size) (by omega)
                simp only [List.drop_zero] at hos
                have hol : (b.cells.take (len * te.size)).length = len * te.size := by simp; omega
                obtain ⟨nc, hnc, hrun⟩ := run_app_grow (ty := ty) T hts htx hdx hte hz hl hf (base := some ⟨gb.b, 0, none⟩) (sLen := len) (sCap := cap + gb.extra) (os := os) (by omega) hc3 hc4
                  (fun W' hW => run_firstCells_some (P := P) W' te.size len ⟨gb.b, 0, none⟩ len (cap + gb.extra) os (by rw [← hos.length, hol]) fun k v hk => by rw [cell?_heap hW]; exact hcell k v hk)
                have hrel := fresh (m.set j none) (b.cells.take (len * te.size)) os len nc (hr.kill j) hos hol hnc
                refine ⟨_, _, _, _, _, hrun, hrel, .s ?_, hB⟩
                have := SR.slice (g := g₀ ++ (g ++ [some ⟨W.heap.size, nc - (len + n)⟩])) m.length 0 (len + n) (len + n) ⟨W.heap.size, nc - (len + n)⟩ (by rw [← List.append_assoc]; exact last_app hr.len)
                rw [show len + n + (nc - (len + n)) = nc from by omega] at this
                exact this
            · rename_i hrw
              obtain ⟨hc, hB⟩ := X.nd_ok _ _ hB
              rw [Bool.and_eq_true] at hc
              obtain ⟨hc1, hc3, hc4⟩ := of_decide_eq_true hc.2
              obtain ⟨cs, fr, _, _, _, _, hex⟩ := hr.blk j b gb hj hg
              have hex := hex hc.1
              obtain ⟨os, hos, hcell⟩ := hr.cellsAt hj hg (off := off) (n := len * te.size) hc1
              have hol : ((b.cells.drop off).take (len * te.size)).length = len * te.size := by simp; omega
              obtain ⟨nc, hnc, hrun⟩ := run_app_grow (ty := ty) T hts htx hdx hte hz hl hf (base := some ⟨gb.b, off, none⟩) (sLen := len) (sCap := cap + gb.extra) (os := os) (by omega) hc3 hc4
                (fun W' hW => run_firstCells_some (P := P) W' te.size len ⟨gb.b, off, none⟩ len (cap + gb.extra) os (by rw [← hos.length, hol]) fun k v hk => by rw [cell?_heap hW]; exact hcell k v hk)
              have hrel := fresh m ((b.cells.drop off).take (len * te.size)) os len nc hr hos hol hnc
              refine ⟨_, _, _, _, _, hrun, hrel, .s ?_, hB⟩
              have := SR.slice (g := g₀ ++ (g ++ [some ⟨W.heap.size, nc - (len + n)⟩])) m.length 0 (len + n) (len + n) ⟨W.heap.size, nc - (len + n)⟩ (by rw [← List.append_assoc]; exact last_app hr.len)
              rw [show len + n + (nc - (len + n)) = nc from by omega] at this
              exact this
  · exact absurd h X.fl_ok
end Go.AE
