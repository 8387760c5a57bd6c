/-
  An abstract logic for the model (part B): how frames and memories look, evaluated by functions. Conditions: none.
-/
import Derived.Test.YtfohjnfdgegfcaaDoorLogA
namespace Go.AE
variable {P : Program}

theorem SR.oneCell {g : List (Option GB)} {v w : Value} (h : SR g v w) : w.oneCell' = true := by
  have := h.scalar.2
  cases w <;> first | rfl | cases this

theorem F2.oneCell {g : List (Option GB)} {xs ys : List Value} (h : F2 (SR g) xs ys) : ∀ u ∈ ys, u.oneCell' = true := by
  induction h with
  | nil => intro u hu; cases hu
  | cons hr _ ih =>
    intro u hu
    cases hu with
    | head => exact hr.oneCell
    | tail _ hu => exact ih u hu

/-- The cells that an append or a copy takes. -/
def srcA (m : Mem) (size : Nat) (x : Value) : Option (Nat × Bool × List Value) :=
  match x with
  | .slice none 0 0 => some (0, true, [])
  | .slice (some ⟨j, off, none⟩) n _ =>
    match m[j]? with
    | some (some b) => some (n, decide (off + n * size ≤ b.cells.length), (b.cells.drop off).take (n * size))
    | _ => none
  | .string s => some ((bl s).length, size == 1, (bl s).map fun b => .int .u8 b.toNat)
  | _ => none

theorem srcA_ok {m : Mem} {size n : Nat} {cnd : Bool} {x x' : Value} {xs : List Value} (h : srcA m size x = some (n, cnd, xs)) (hc : cnd = true) {c : Ctx} {g : List (Option GB)} {W : World} (hr : Rel P c g m W) (hx : VR g x x') :
    ∃ ys, (Builtin.lenOf x').run P W = .ok n W ∧ (∀ W', W'.heap = W.heap → (Builtin.firstCells size n x').run P W' = .ok ⟨ys⟩ W') ∧ F2 (SR g) xs ys ∧ xs.length = n * size := by
  unfold srcA at h
  split at h
  · simp only [Option.some.injEq, Prod.mk.injEq] at h
    obtain ⟨rfl, rfl, rfl⟩ := h
    cases hx with
    | a hx => cases hx with
      | s hx => cases hx with
        | slice0 => exact ⟨[], rfl, fun W' _ => rfl, .nil, by simp⟩
  · rename_i j off n' cap
    split at h
    case h_2 => cases h
    rename_i b hj
    simp only [Option.some.injEq, Prod.mk.injEq] at h
    obtain ⟨rfl, rfl, rfl⟩ := h
    have hc' := of_decide_eq_true hc
    cases hx with
    | a hx => cases hx with
      | s hx => cases hx with
        | slice _ _ _ _ gb hg =>
          obtain ⟨ys, hf, hcell⟩ := hr.cellsAt hj hg hc'
          have hlen : ((b.cells.drop off).take (n' * size)).length = n' * size := by simp; omega
          refine ⟨ys, rfl, fun W' hW => ?_, hf, hlen⟩
          exact run_firstCells_some (P := P) W' size n' ⟨gb.b, off, none⟩ n' (cap + gb.extra) ys (by rw [← hf.length, hlen]) fun k v hk => by rw [cell?_heap hW]; exact hcell k v hk
  · simp only [Option.some.injEq, Prod.mk.injEq] at h
    obtain ⟨rfl, rfl, rfl⟩ := h
    obtain rfl := SR.inv_str hx
    rename_i s
    have hs1 : size = 1 := by simpa using hc
    subst hs1
    refine ⟨(bl s).map fun b => .int .u8 b.toNat, by rw [size_bl]; rfl, fun W' _ => ?_, F2.refl _ fun x hx => ?_, by simp⟩
    · show Result.ok ((s.extract 0 (bl s).length).data.map fun b => Value.int .u8 b.toNat) W' = _
      rw [extract_eq]
      congr 1
      apply Array.ext'
      simp
      rw [List.take_of_length_le]
      rw [List.length_map, size_bl]; exact Nat.le_refl _
    · obtain ⟨b, _, rfl⟩ := List.mem_map.1 hx
      exact .int _ _
  · cases h

/-- In place of a block of its own a row with more capacity may be written on. -/
theorem Rel.growIn {c : Ctx} {g : List (Option GB)} {m : Mem} {W : World} (hr : Rel P c g m W) {j : Nat} {b : ABlk} {gb : GB} (hj : m[j]? = some (some b)) (hg : g[j]? = some (some gb)) (hrw : b.rw = true)
    {len n cap size : Nat} (hsz : P.cellsOf b.elem = size) (hcap : b.cells.length = cap * size) (hlc : len ≤ cap) (hroom : len + n ≤ cap + gb.extra) {xs ys : List Value} (hf : F2 (SR g) xs ys) (hn : xs.length = n * size) :
    ∃ W', (Go.storeCells ⟨gb.b, len * size, none⟩ ys).run P W = .ok () W' ∧ Rel P c (g ++ [some ⟨gb.b, cap + gb.extra - (len + n)⟩]) (m.set j none ++ [grownBlk b.elem (b.cells.take (len * size) ++ xs)]) W' := by
  obtain ⟨cs, fr, hh, hcs, hx, hown0, _⟩ := hr.blk j b gb hj hg
  obtain ⟨rfl, hown⟩ := hown0 hrw
  have hys : ys.length = n * size := by rw [← hf.length, hn]
  have e1 : (len + n) * size ≤ (cap + gb.extra) * size := Nat.mul_le_mul_right _ hroom
  rw [Nat.add_mul, Nat.add_mul] at e1
  rw [hsz, hcap] at hx
  have hst := run_storeCells_at P gb.b (len * size) b.elem ys 0 cs W hh (by rw [hys]; simp only [Nat.add_zero]; omega) hf.oneCell
  simp only [Nat.add_zero] at hst
  refine ⟨_, hst, ?_⟩
  generalize hrow : (cs.toList.take (len * size) ++ ys ++ cs.toList.drop (len * size + ys.length)).toArray = row
  have hjl := lt_of_getElem? hj
  have hat : ∀ k, (W.setRow gb.b row).heap[k]? = if gb.b = k then some (.cells row b.elem (0, 0)) else W.heap[k]? := by
    intro k
    split
    · rename_i e; subst e; exact setRow_heap W gb.b cs row b.elem (0, 0) hh
    · rename_i e; exact setRow_other W gb.b k row (fun h => e h.symm)
  have hlcs : len * size ≤ cs.size := by have := Nat.mul_le_mul_right size hlc; omega
  have get : ∀ (k : Nat) (bk : ABlk), (m.set j none)[k]? = some (some bk) → m[k]? = some (some bk) ∧ k ≠ j := by
    intro k bk hk
    rw [List.getElem?_set] at hk
    split at hk
    · first | (cases hk; done) | (split at hk <;> cases hk)
    · rename_i e; exact ⟨hk, fun h => e h.symm⟩
  have split' : ∀ (k : Nat) (bk : ABlk) (gk : GB), (m.set j none ++ [grownBlk b.elem (b.cells.take (len * size) ++ xs)])[k]? = some (some bk) → (g ++ [some ⟨gb.b, cap + gb.extra - (len + n)⟩])[k]? = some (some gk) →
      (m[k]? = some (some bk) ∧ k ≠ j ∧ g[k]? = some (some gk)) ∨ (k = m.length ∧ bk = ⟨b.cells.take (len * size) ++ xs, b.elem, true, false⟩ ∧ gk = ⟨gb.b, cap + gb.extra - (len + n)⟩) := by
    intro k bk gk hk hgk
    rcases Nat.lt_trichotomy k m.length with hl | hl | hl
    · rw [List.getElem?_append_left (by simpa using hl)] at hk
      rw [List.getElem?_append_left (by rw [hr.len]; exact hl)] at hgk
      exact .inl ⟨(get k bk hk).1, (get k bk hk).2, hgk⟩
    · subst hl
      rw [List.getElem?_append_right (by simp)] at hk
      rw [← hr.len, List.getElem?_append_right (Nat.le_refl _)] at hgk
      simp [grownBlk] at hk hgk
      exact .inr ⟨rfl, hk.symm, hgk.symm⟩
    · rw [List.getElem?_eq_none (by simp; omega)] at hk; cases hk
  refine ⟨by simp [hr.len], ?_, ?_, ?_, ?_, hr.os, hr.tape, hr.output⟩
  · intro k bk gk hk hgk
    rcases split' k bk gk hk hgk with ⟨hk, hne, hgk⟩ | ⟨rfl, rfl, rfl⟩
    · obtain ⟨cs', fr', hh', hf', rest⟩ := hr.blk k bk gk hk hgk
      refine ⟨cs', fr', ?_, hf'.imp fun _ _ h => h.app, rest⟩
      rw [hat, if_neg (hr.inj j k b bk gb gk (fun h => hne h.symm) hj hk hrw hg hgk), hh']
    · refine ⟨row, (0, 0), by rw [hat, if_pos rfl], ?_, ?_, fun _ => ⟨rfl, hown⟩, by simp⟩
      · have h1 : F2 (SR g) (b.cells.take (len * size) ++ xs) (cs.toList.take (len * size) ++ ys) := by
          refine F2.append ?_ hf
          have := hcs.take (len * size)
          rw [List.take_take] at this
          rw [show min (len * size) b.cells.length = len * size from by rw [hcap]; exact Nat.min_eq_left (Nat.mul_le_mul_right size hlc)] at this
          exact this
        have h2 : row.toList.take (b.cells.take (len * size) ++ xs).length = cs.toList.take (len * size) ++ ys := by
          rw [h1.length, ← hrow]
          rw [List.take_left]
        rw [h2]
        exact h1.imp fun _ _ h => h.app
      · have hrs : row.size = cs.size := by
          rw [← hrow]; simp; omega
        rw [hrs, hsz]
        simp only [List.length_append, List.length_take, hcap, hn]
        have e2 : min (len * size) (cap * size) = len * size := Nat.min_eq_left (Nat.mul_le_mul_right size hlc)
        rw [e2, Nat.sub_mul, Nat.add_mul, Nat.add_mul]
        omega
  · intro p q bp bq gp gq hne hp hq hrwp hgp hgq
    rcases split' p bp gp hp hgp with ⟨hp, np, hgp⟩ | ⟨rfl, rfl, rfl⟩ <;> rcases split' q bq gq hq hgq with ⟨hq, nq, hgq⟩ | ⟨rfl, rfl, rfl⟩
    · exact hr.inj p q bp bq gp gq hne hp hq hrwp hgp hgq
    · exact hr.inj p j bp b gp gb np hp hj hrwp hgp hg
    · exact hr.inj j q b bq gb gq (fun h => nq h.symm) hj hq hrw hg hgq
    · exact absurd rfl hne
  · intro k hk hF
    rw [hat, if_neg, hr.frame k hk hF]
    intro e
    subst e
    rcases hown with h1 | h1
    · omega
    · exact hF h1
  · simpa using hr.size
end Go.AE
namespace Go.AE
variable {P : Program}

/-- What may be appended: a slice or a string. -/
def isSrcD : TypeDesc → Bool
  | .slice _ => true
  | .string => true
  | _ => false

/-- append. -/
def evAppend {R : Type} (X : Ops R) (T : Tab P) (ts tx : TypeId) (s x : Value) (m : Mem) (k : Value → Mem → R) : R :=
  match T.und ts, T.und tx with
  | some (.slice e), some dx =>
    if !isSrcD dx then X.fl else
    match T.inf e with
    | some te =>
      match te.zero with
      | some z =>
        if z.cells.toList.length ≠ te.size then X.fl else
        match srcA m te.size x with
        | some (n, cnd, xs) => X.nd cnd (
          match s with
          | .slice none 0 0 => X.br (n == 0) (k s m) (X.nd (decide (n * te.bytes ≤ 140737488355328 ∧ n ≤ 9223372036854775807)) (k (.slice (some ⟨m.length, 0, none⟩) n n) (m ++ [grownBlk e xs])))
          | .slice (some ⟨j, off, none⟩) len cap =>
            match m[j]? with
            | some (some b) =>
              X.br (decide (len + n ≤ cap))
                (if b.rw then X.nd (decide (off + len * te.size + n * te.size ≤ b.cells.length)) (k (.slice (some ⟨j, off, none⟩) (len + n) cap) (m.set j (some { b with cells := writeL b.cells (off + len * te.size) xs }))) else X.fl)
                (if b.rw then
                  (if b.elem == e && off == 0 then X.nd (decide (b.cells.length = cap * te.size ∧ len ≤ cap ∧ (len + n) * te.bytes ≤ 140737488355328 ∧ len + n ≤ 9223372036854775807))
                    (k (.slice (some ⟨m.length, 0, none⟩) (len + n) (len + n)) (m.set j none ++ [grownBlk e (b.cells.take (len * te.size) ++ xs)])) else X.fl)
                else X.nd (b.ex && decide (off + len * te.size ≤ b.cells.length ∧ (len + n) * te.bytes ≤ 140737488355328 ∧ len + n ≤ 9223372036854775807))
                    (k (.slice (some ⟨m.length, 0, none⟩) (len + n) (len + n)) (m ++ [grownBlk e ((b.cells.drop off).take (len * te.size) ++ xs)])))
            | _ => X.fl
          | _ => X.fl)
        | none => X.fl
      | none => X.fl
    | none => X.fl
  | _, _ => X.fl

section run
variable (T : Tab P) {ts tx ty e : TypeId} {dx : TypeDesc} {te : TI} {z x' : Value} {n : Nat} {ys : List Value} {W : World} (hts : T.und ts = some (.slice e)) (htx : T.und tx = some dx) (hdx : isSrcD dx = true)
  (hte : T.inf e = some te) (hz : te.zero = some z) (hl : (Builtin.lenOf x').run P W = .ok n W) (hf : ∀ W', W'.heap = W.heap → (Builtin.firstCells te.size n x').run P W' = .ok ⟨ys⟩ W')
include hts htx hdx hte hl hf

theorem run_app_room0 {sLen sCap : Nat} (h : sLen + n ≤ sCap) :
    (Builtin.append_ #[ts, tx] ty #[.slice none sLen sCap, x']).run P W = .ok (.slice none (sLen + n) sCap) W := by
  obtain ⟨i, hi, hs, hb, hzi⟩ := T.inf_ok e te hte
  have hf0 := hf W rfl
  rw [← hs] at hf0
  cases dx <;> first | (cases hdx; done) | (simp [Builtin.append_, T.run_und hts, T.run_und htx, sizeOf, run_typeInfo hi, hl, h, hf0])

theorem run_app_room {a : Addr} {sLen sCap : Nat} {W' : World} (h : sLen + n ≤ sCap) (hst : (storeCells (a.add (sLen * te.size)) ys).run P W = .ok () W') :
    (Builtin.append_ #[ts, tx] ty #[.slice (some a) sLen sCap, x']).run P W = .ok (.slice (some a) (sLen + n) sCap) W' := by
  obtain ⟨i, hi, hs, hb, hzi⟩ := T.inf_ok e te hte
  have hf0 := hf W rfl
  rw [← hs] at hf0 hst
  cases dx <;> first | (cases hdx; done) | (simp [Builtin.append_, T.run_und hts, T.run_und htx, sizeOf, run_typeInfo hi, hl, h, hf0, hst])

include hz in
theorem run_app_grow {base : Option Addr} {sLen sCap : Nat} {os : List Value} (h : sCap < sLen + n) (hfit : (sLen + n) * te.bytes ≤ 140737488355328) (h63 : sLen + n ≤ 9223372036854775807)
    (ho : ∀ W', W'.heap = W.heap → (Builtin.firstCells te.size sLen (.slice base sLen sCap)).run P W' = .ok ⟨os⟩ W') :
    ∃ nc, sLen + n ≤ nc ∧ (Builtin.append_ #[ts, tx] ty #[.slice base sLen sCap, x']).run P W =
      .ok (.slice (some ⟨W.heap.size, 0, none⟩) (sLen + n) nc) (W.drew.alloc (.cells ⟨os ++ ys ++ (Builtin.zeroCells z.cells (nc - (sLen + n))).toList⟩ e)) := by
  obtain ⟨i, hi, hs, hb, hzi⟩ := T.inf_ok e te hte
  have hn : ¬ (sLen + n ≤ sCap) := by omega
  have hfit' := growslice_fits h (by rw [hb]; exact hfit : (sLen + n) * i.bytes ≤ 140737488355328)
  have h48' : ¬ (281474976710656 < Builtin.nextslicecap (sLen + n) sCap * i.bytes) := by omega
  have h63' : ¬ (9223372036854775807 < ((sLen : Int) + (n : Int))) := by omega
  have hf0 := hf W.drew rfl
  have ho0 := ho W.drew rfl
  rw [← hs] at hf0 ho0
  have hz' : i.zero = some z := by rw [hzi]; exact hz
  refine ⟨grownCap W (sLen + n) sCap e, grownCap_ge _ _ _ _, ?_⟩
  cases dx <;> first
    | (cases hdx; done)
    | (simp [Builtin.append_, T.run_und hts, T.run_und htx, sizeOf, zeroValue, run_typeInfo hi, hz', hl, hn, h48', h63', hf0, ho0, Question.forced, newRow, grownCap]
       congr 2
       apply Array.ext'
       simp)
end run

theorem evAppend_ok {n₀ : Nat} {R : Type} {X : Ans P n₀ R} {T : Tab P} {ts tx ty : TypeId} {s s' x x' : Value} {m : Mem} {k : Value → Mem → R} (h : X.holds (evAppend X T ts tx s x m k)) {c : Ctx} {g₀ g : List (Option GB)} {W : World}
    (hr : Rel P c (g₀ ++ g) m W) (hs : VR (g₀ ++ g) s s') (hx : VR (g₀ ++ g) x x') :
    ∃ v w m' W' g', (Builtin.append_ #[ts, tx] ty #[s', x']).run P W = .ok w W' ∧ Rel P c (g₀ ++ (g ++ g')) m' W' ∧ VR (g₀ ++ (g ++ g')) v w ∧ X.holds (k v m') := by
  unfold evAppend at h
  split at h
  case h_2 => exact absurd h X.fl_ok
  rename_i e dx hts htx
  split at h
  case isTrue => exact absurd h X.fl_ok
  rename_i hdx
  replace hdx : isSrcD dx = true := by simpa using hdx
  split at h
  case h_2 => exact absurd h X.fl_ok
  rename_i te hte
  split at h
  case h_2 => exact absurd h X.fl_ok
  rename_i z hz
  split at h
  case isTrue => exact absurd h X.fl_ok
  rename_i hzl
  replace hzl : z.cells.size = te.size := by simpa using hzl
  split at h
  case h_2 => exact absurd h X.fl_ok
  rename_i n cnd xs hsrc
  obtain ⟨hcnd, h⟩ := X.nd_ok _ _ h
  obtain ⟨ys, hl, hf, hxy, hxn⟩ := srcA_ok hsrc hcnd hr hx
  have hce := T.cellsOf hte
  have fresh : ∀ (m1 : Mem) (os ps : List Value) (len nc : Nat), Rel P c (g₀ ++ g) m1 W → F2 (SR (g₀ ++ g)) os ps → os.length = len * te.size → len + n ≤ nc →
      Rel P c (g₀ ++ (g ++ [some ⟨W.heap.size, nc - (len + n)⟩])) (m1 ++ [grownBlk e (os ++ xs)]) (W.drew.alloc (.cells ⟨ps ++ ys ++ (Builtin.zeroCells z.cells (nc - (len + n))).toList⟩ e)) := by
    intro m1 os ps len nc hr1 hop hol hnc
    rw [← List.append_assoc g₀]
    refine hr1.drew.alloc e (nc - (len + n)) false (fun h => by cases h) ?_ ?_
    · rw [List.take_left' (by rw [(hop.append hxy).length])]
      exact hop.append hxy
    · rw [hce]
      have := (hop.append hxy).length
      have hzc : (Builtin.zeroCells z.cells (nc - (len + n))).toList.length = (nc - (len + n)) * te.size := by rw [Array.length_toList, size_zeroCells, hzl]
      rw [List.length_append (as := ps ++ ys), ← this, hzc]
      exact Nat.le_refl _
  split at h
  · cases hs with
    | a hs => cases hs with
      | s hs => cases hs with
        | slice0 =>
          obtain ⟨h1, h2⟩ := X.br_ok _ _ _ h
          by_cases hn : n = 0
          · subst hn
            refine ⟨_, _, m, W, [], run_app_room0 T hts htx hdx hte hl hf (by omega), by simpa using hr, .s (by simpa using SR.slice0), h1 rfl⟩
          · have h := h2 (by simpa using hn)
            obtain ⟨hc, h⟩ := X.nd_ok _ _ h
            obtain ⟨hc1, hc2⟩ := of_decide_eq_true hc
            obtain ⟨nc, hnc, hrun⟩ := run_app_grow (ty := ty) T hts htx hdx hte hz hl hf (base := none) (sLen := 0) (sCap := 0) (os := []) (by omega) (by simpa using hc1) (by omega) (fun W' _ => by simp [Builtin.firstCells])
            have hrel := fresh m [] [] 0 nc hr .nil (by simp) hnc
            refine ⟨_, _, _, _, _, hrun, hrel, .s ?_, h⟩
            have e2 : nc = n + (nc - n) := by omega
            have := SR.slice (g := g₀ ++ (g ++ [some ⟨W.heap.size, nc - (0 + n)⟩])) m.length 0 n n ⟨W.heap.size, nc - (0 + n)⟩ (by rw [← List.append_assoc]; exact last_app hr.len)
            simp only [Nat.zero_add] at this ⊢
            rw [← e2] at this
            exact this
  · rename_i j off len cap h
    split at h
    case h_2 => exact absurd h X.fl_ok
    rename_i b hj
    cases hs with
    | a hs => cases hs with
      | s hs => cases hs with
        | slice _ _ _ _ gb hg =>
          obtain ⟨h1, h2⟩ := X.br_ok _ _ _ h
          clear h
          by_cases hroom : len + n ≤ cap
          · have h := h1 (by simpa using hroom)
            split at h
            case isFalse => exact absurd h X.fl_ok
            rename_i hrw
            obtain ⟨hc, h⟩ := X.nd_ok _ _ h
            have hc := of_decide_eq_true hc
            obtain ⟨W', hst, hrel⟩ := hr.storeCells xs ys 0 m W j b gb (off + len * te.size) hj hg hrw (by rw [hxn]; omega) hxy
            refine ⟨_, _, _, W', [], run_app_room T hts htx hdx hte hl hf (by omega) (by rw [Addr.add_lit]; exact hst), by simpa using hrel, .s ?_, h⟩
            simpa using SR.slice j off (len + n) cap gb hg
          · have hB := h2 (by simpa using hroom)
            clear h1 h2
            split at hB
            · rename_i hrw
              split at hB
              case isFalse => exact absurd hB X.fl_ok
              rename_i hbe
              simp only [Bool.and_eq_true, beq_iff_eq] at hbe
              obtain ⟨hbe, rfl⟩ := hbe
              obtain ⟨hc, hB⟩ := X.nd_ok _ _ hB
              obtain ⟨hc1, hc2, hc3, hc4⟩ := of_decide_eq_true hc
              by_cases hin : len + n ≤ cap + gb.extra
              · obtain ⟨W', hst, hrel⟩ := hr.growIn (len := len) (n := n) (cap := cap) hj hg hrw (by rw [hbe]; exact hce) hc1 hc2 hin hxy hxn
                rw [hbe] at hrel
                refine ⟨_, _, _, W', [_], run_app_room T hts htx hdx hte hl hf hin (by rw [Addr.add_lit, Nat.zero_add]; exact hst), by rw [← List.append_assoc]; exact hrel, .s ?_, hB⟩
                have := SR.slice (g := g₀ ++ (g ++ [some ⟨gb.b, cap + gb.extra - (len + n)⟩])) m.length 0 (len + n) (len + n) ⟨gb.b, cap + gb.extra - (len + n)⟩ (by rw [← List.append_assoc]; exact last_app hr.len)
                rw [show len + n + (cap + gb.extra - (len + n)) = cap + gb.extra from by omega] at this
                exact this
              · have hll : len * te.size ≤ cap * te.size := Nat.mul_le_mul_right _ hc2
                obtain ⟨os, hos, hcell⟩ := hr.cellsAt hj hg (off := 0) (n := len * te.size) (by omega)
                simp only [List.drop_zero] at hos
                have hol : (b.cells.take (len * te.size)).length = len * te.size := by simp; omega
                obtain ⟨nc, hnc, hrun⟩ := run_app_grow (ty := ty) T hts htx hdx hte hz hl hf (base := some ⟨gb.b, 0, none⟩) (sLen := len) (sCap := cap + gb.extra) (os := os) (by omega) hc3 hc4
                  (fun W' hW => run_firstCells_some (P := P) W' te.size len ⟨gb.b, 0, none⟩ len (cap + gb.extra) os (by rw [← hos.length, hol]) fun k v hk => by rw [cell?_heap hW]; exact hcell k v hk)
                have hrel := fresh (m.set j none) (b.cells.take (len * te.size)) os len nc (hr.kill j) hos hol hnc
                refine ⟨_, _, _, _, _, hrun, hrel, .s ?_, hB⟩
                have := SR.slice (g := g₀ ++ (g ++ [some ⟨W.heap.size, nc - (len + n)⟩])) m.length 0 (len + n) (len + n) ⟨W.heap.size, nc - (len + n)⟩ (by rw [← List.append_assoc]; exact last_app hr.len)
                rw [show len + n + (nc - (len + n)) = nc from by omega] at this
                exact this
            · rename_i hrw
              obtain ⟨hc, hB⟩ := X.nd_ok _ _ hB
              rw [Bool.and_eq_true] at hc
              obtain ⟨hc1, hc3, hc4⟩ := of_decide_eq_true hc.2
              obtain ⟨cs, fr, _, _, _, _, hex⟩ := hr.blk j b gb hj hg
              have hex := hex hc.1
              obtain ⟨os, hos, hcell⟩ := hr.cellsAt hj hg (off := off) (n := len * te.size) hc1
              have hol : ((b.cells.drop off).take (len * te.size)).length = len * te.size := by simp; omega
              obtain ⟨nc, hnc, hrun⟩ := run_app_grow (ty := ty) T hts htx hdx hte hz hl hf (base := some ⟨gb.b, off, none⟩) (sLen := len) (sCap := cap + gb.extra) (os := os) (by omega) hc3 hc4
                (fun W' hW => run_firstCells_some (P := P) W' te.size len ⟨gb.b, off, none⟩ len (cap + gb.extra) os (by rw [← hos.length, hol]) fun k v hk => by rw [cell?_heap hW]; exact hcell k v hk)
              have hrel := fresh m ((b.cells.drop off).take (len * te.size)) os len nc hr hos hol hnc
              refine ⟨_, _, _, _, _, hrun, hrel, .s ?_, hB⟩
              have := SR.slice (g := g₀ ++ (g ++ [some ⟨W.heap.size, nc - (len + n)⟩])) m.length 0 (len + n) (len + n) ⟨W.heap.size, nc - (len + n)⟩ (by rw [← List.append_assoc]; exact last_app hr.len)
              rw [show len + n + (nc - (len + n)) = nc from by omega] at this
              exact this
  · exact absurd h X.fl_ok
end Go.AE
namespace Go.AE
variable {P : Program}

/-- A part of a slice. -/
def evSlice {R : Type} (X : Ops R) (T : Tab P) (t : TypeId) (x : Value) (lo hi : Option Value) (m : Mem) (k : Value → R) : R :=
  match T.und t, x with
  | some .string, .string _ =>
    match sliceStrA T t x lo hi with
    | some (cs, v) => cs.foldr X.nd (k v)
    | none => X.fl
  | some (.slice e), .slice (some ⟨j, off, none⟩) len cap =>
    match T.inf e, boundA lo 0, boundA hi len, m[j]? with
    | some te, some l, some h, some (some b) =>
      X.nd (decide (0 ≤ h ∧ h ≤ cap ∧ 0 ≤ l ∧ l ≤ h))
        (if b.ex then X.br (decide (l = cap)) (k (.slice (some ⟨j, off, none⟩) 0 0)) (k (.slice (some ⟨j, off + l.toNat * te.size, none⟩) (h.toNat - l.toNat) (cap - l.toNat)))
        else X.nd (decide (l < cap ∨ l = 0)) (k (.slice (some ⟨j, off + l.toNat * te.size, none⟩) (h.toNat - l.toNat) (cap - l.toNat))))
    | _, _, _, _ => X.fl
  | some (.slice e), .slice none 0 0 =>
    match T.inf e, boundA lo 0, boundA hi 0 with
    | some _, some l, some h => X.nd (decide (l = 0 ∧ h = 0)) (k (.slice none 0 0))
    | _, _, _ => X.fl
  | some (.array n e), .pointer (some ⟨j, off, none⟩) =>
    match T.inf e, boundA lo 0, boundA hi n, m[j]? with
    | some te, some l, some h, some (some b) =>
      X.nd (b.ex && decide (0 ≤ h ∧ h ≤ n ∧ 0 ≤ l ∧ l ≤ h ∧ l < n)) (k (.slice (some ⟨j, off + l.toNat * te.size, none⟩) (h.toNat - l.toNat) (n - l.toNat)))
    | _, _, _, _ => X.fl
  | _, _ => X.fl

theorem foldr_nd {n₀ : Nat} {R : Type} {X : Ans P n₀ R} : ∀ (cs : List Bool) (r : R), X.holds (cs.foldr X.nd r) → (∀ c ∈ cs, c = true) ∧ X.holds r
  | [], r, h => ⟨fun c hc => (by cases hc), h⟩
  | c :: cs, r, h => by
    obtain ⟨h1, h2⟩ := X.nd_ok c _ h
    obtain ⟨h3, h4⟩ := foldr_nd cs r h2
    refine ⟨fun c' hc' => ?_, h4⟩
    cases hc' with
    | head => exact h1
    | tail _ hc' => exact h3 c' hc'

theorem evSlice_ok {n₀ : Nat} {R : Type} {X : Ans P n₀ R} {T : Tab P} {t : TypeId} {x x' : Value} {lo hi lo' hi' : Option Value} {m : Mem} {k : Value → R} (h : X.holds (evSlice X T t x lo hi m k)) {c : Ctx} {g : List (Option GB)} {W : World}
    (hr : Rel P c g m W) (hx : VR g x x') (hl : ∀ v, lo = some v → ∃ w, lo' = some w ∧ VR g v w) (hln : lo = none → lo' = none) (hh : ∀ v, hi = some v → ∃ w, hi' = some w ∧ VR g v w) (hhn : hi = none → hi' = none) :
    ∃ v w, (Instr.sliceAt t x' lo' hi' none).run P W = .ok w W ∧ VR g v w ∧ X.holds (k v) := by
  unfold evSlice at h
  split at h
  · split at h
    case h_2 => exact absurd h X.fl_ok
    rename_i cs v hs
    obtain ⟨hc, h⟩ := foldr_nd _ _ h
    have := sliceStrA_ok hs hc hx hl hln hh hhn W
    exact ⟨v, v, this.1, this.2, h⟩
  · rename_i e j off len cap hd
    split at h
    case h_2 => exact absurd h X.fl_ok
    rename_i te l hb b hte h1 h2 hj
    obtain ⟨hc, h⟩ := X.nd_ok _ _ h
    obtain ⟨c1, c2, c3, c4⟩ := of_decide_eq_true hc
    cases hx with
    | a hx => cases hx with
      | s hx => cases hx with
        | slice _ _ _ _ gb hg =>
          have run : (Instr.sliceAt t (.slice (some ⟨gb.b, off, none⟩) len (cap + gb.extra)) lo' hi' none).run P W =
              .ok (.slice (if cap + gb.extra = l.toNat then some ⟨gb.b, off, none⟩ else some ⟨gb.b, off + l.toNat * te.size, none⟩) (hb.toNat - l.toNat) (cap + gb.extra - l.toNat)) W := by
            have c2' : hb ≤ ((cap + gb.extra : Nat) : Int) := by omega
            have c2'' : hb ≤ (cap : Int) + (gb.extra : Int) := by omega
            rcases bound_ok h1 hl hln with ⟨_, rfl, rfl⟩ | ⟨k1, rfl⟩ <;> rcases bound_ok h2 hh hhn with ⟨_, rfl, rfl⟩ | ⟨k2, rfl⟩
            · simp [Instr.sliceAt, T.run_und hd, Instr.slice, Instr.sliceBounds, T.run_size hte, Addr.add_lit]
            · simp [Instr.sliceAt, T.run_und hd, Instr.slice, Instr.sliceBounds, Instr.sliceBound, asIntOf, c1, c2'', T.run_size hte, Addr.add_lit]
            · simp [Instr.sliceAt, T.run_und hd, Instr.slice, Instr.sliceBounds, Instr.sliceBound, asIntOf, c3, c4, T.run_size hte, Addr.add_lit]
            · have c4' : ¬ (hb < l) := by omega
              simp [Instr.sliceAt, T.run_und hd, Instr.slice, Instr.sliceBounds, Instr.sliceBound, asIntOf, c1, c2'', c3, T.run_size hte, Addr.add_lit]
              intro hm; exfalso; omega
          split at h
          · rename_i hrw
            obtain ⟨cs, fr, _, _, _, _, hex⟩ := hr.blk j b gb hj hg
            have hex := hex hrw
            obtain ⟨h3, h4⟩ := X.br_ok _ _ _ h
            by_cases h0 : l = cap
            · have h := h3 (by simpa using h0)
              refine ⟨_, _, run, ?_, h⟩
              have e1 : hb.toNat - l.toNat = 0 := by omega
              have e2 : cap + gb.extra - l.toNat = 0 := by omega
              have e3 : cap + gb.extra = l.toNat := by omega
              rw [if_pos e3, e1, e2]
              have := SR.slice (g := g) j off 0 0 gb hg
              rw [hex] at this
              exact .s this
            · have h := h4 (by simpa using h0)
              refine ⟨_, _, run, ?_, h⟩
              rw [if_neg (by omega)]
              have := SR.slice (g := g) j (off + l.toNat * te.size) (hb.toNat - l.toNat) (cap - l.toNat) gb hg
              rw [show cap - l.toNat + gb.extra = cap + gb.extra - l.toNat from by omega] at this
              exact .s this
          · obtain ⟨hc, h⟩ := X.nd_ok _ _ h
            have hc := of_decide_eq_true hc
            refine ⟨_, _, run, ?_, h⟩
            by_cases h0 : cap + gb.extra = l.toNat
            · have hl0 : l = 0 := by omega
              subst hl0
              simp only [Int.toNat_zero, Nat.zero_mul, Nat.add_zero, Nat.sub_zero, ite_self]
              exact .s (.slice _ _ _ _ _ hg)
            · rw [if_neg h0]
              have := SR.slice (g := g) j (off + l.toNat * te.size) (hb.toNat - l.toNat) (cap - l.toNat) gb hg
              rw [show cap - l.toNat + gb.extra = cap + gb.extra - l.toNat from by omega] at this
              exact .s this
  · rename_i e hd
    split at h
    case h_2 => exact absurd h X.fl_ok
    rename_i te l hb hte h1 h2
    obtain ⟨hc, h'⟩ := X.nd_ok _ _ h
    obtain ⟨rfl, rfl⟩ := of_decide_eq_true hc
    cases hx with
    | a hx => cases hx with
      | s hx => cases hx with
        | slice0 =>
          refine ⟨_, .slice none 0 0, ?_, .s .slice0, h'⟩
          rcases bound_ok h1 hl hln with ⟨_, rfl, _⟩ | ⟨k1, rfl⟩ <;> rcases bound_ok h2 hh hhn with ⟨_, rfl, _⟩ | ⟨k2, rfl⟩ <;>
            simp [Instr.sliceAt, T.run_und hd, Instr.slice, Instr.sliceBounds, Instr.sliceBound, asIntOf, T.run_size hte]
  · rename_i n e j off hd
    split at h
    case h_2 => exact absurd h X.fl_ok
    rename_i te l hb b hte h1 h2 hj
    obtain ⟨hc, h'⟩ := X.nd_ok _ _ h
    rw [Bool.and_eq_true] at hc
    obtain ⟨c1, c2, c3, c4, c5⟩ := of_decide_eq_true hc.2
    cases hx with
    | a hx => cases hx with
      | s hx => cases hx with
        | ptr _ _ gb hg =>
          obtain ⟨cs, fr, _, _, _, _, hex⟩ := hr.blk j b gb hj hg
          have hex := hex hc.1
          have run : (Instr.sliceAt t (.pointer (some ⟨gb.b, off, none⟩)) lo' hi' none).run P W =
              .ok (.slice (if n = l.toNat then some ⟨gb.b, off, none⟩ else some ⟨gb.b, off + l.toNat * te.size, none⟩) (hb.toNat - l.toNat) (n - l.toNat)) W := by
            rcases bound_ok h1 hl hln with ⟨_, rfl, rfl⟩ | ⟨k1, rfl⟩ <;> rcases bound_ok h2 hh hhn with ⟨_, rfl, rfl⟩ | ⟨k2, rfl⟩
            · simp [Instr.sliceAt, T.run_und hd, Instr.sureAddr, Instr.sliceBounds, T.run_size hte, Addr.add_lit, apply_ite]
            · simp [Instr.sliceAt, T.run_und hd, Instr.sureAddr, Instr.sliceBounds, Instr.sliceBound, asIntOf, c1, c2, T.run_size hte, Addr.add_lit, apply_ite]
            · simp [Instr.sliceAt, T.run_und hd, Instr.sureAddr, Instr.sliceBounds, Instr.sliceBound, asIntOf, c3, c4, T.run_size hte, Addr.add_lit, apply_ite]
            · have c4' : l ≤ max hb 0 := by omega
              simp [Instr.sliceAt, T.run_und hd, Instr.sureAddr, Instr.sliceBounds, Instr.sliceBound, asIntOf, c1, c2, c3, c4', T.run_size hte, Addr.add_lit, apply_ite]
          refine ⟨_, _, run, ?_, h'⟩
          rw [if_neg (by omega)]
          have := SR.slice (g := g) j (off + l.toNat * te.size) (hb.toNat - l.toNat) (n - l.toNat) gb hg
          rw [hex] at this
          exact .s this
  · exact absurd h X.fl_ok
end Go.AE
namespace Go.AE
set_option linter.unusedSimpArgs false
variable {P : Program}

/-- A slice literal. -/
def buildSliceA (T : Tab P) (t : TypeId) (len : Nat) (parts : List (Nat × Value)) : Option (TypeId × List Value) :=
  match T.und t with
  | some (.slice e) =>
    match T.inf e with
    | some te =>
      match te.zero with
      | some z =>
        let init := (List.range (len * te.size)).map fun i => z.cells[i % z.cells.size]!
        if len * te.size > 2 ^ 24 || len * te.size == 0 || !init.all plainS || !parts.all (fun p => cellsOk p.2) then none
        else (fillL (fun i => some (i * te.size, te.size)) init parts).map fun cs => (e, cs)
      | none => none
    | none => none
  | _ => none

theorem buildSliceA_ok {T : Tab P} {t e : TypeId} {len : Nat} {ps qs : List (Nat × Value)} {cs : List Value} {g : List (Option GB)} (h : buildSliceA T t len ps = some (e, cs)) (hp : F2 (fun p q => p.1 = q.1 ∧ VR g p.2 q.2) ps qs) (W : World) :
    ∃ ds, (Instr.buildSlice t len ⟨qs⟩).run P W = .ok (.slice (some ⟨W.heap.size, 0, none⟩) len len) (W.alloc (.cells ⟨ds⟩ e)) ∧ F2 (SR g) cs ds := by
  unfold buildSliceA at h
  split at h
  case h_2 => cases h
  rename_i e' hd
  split at h
  case h_2 => cases h
  rename_i te hte
  split at h
  case h_2 => cases h
  rename_i z hz
  simp only at h
  split at h
  case isTrue => cases h
  rename_i hc
  simp only [Bool.or_eq_true, not_or, decide_eq_true_eq, beq_iff_eq, Bool.not_eq_true', Bool.not_eq_false] at hc
  obtain ⟨⟨⟨c1, c2⟩, c3⟩, c4⟩ := hc
  cases hf : fillL (fun i => some (i * te.size, te.size)) ((List.range (len * te.size)).map fun i => z.cells[i % z.cells.size]!) ps with
  | none => rw [hf] at h; cases h
  | some r =>
    rw [hf] at h
    simp only [Option.map_some, Option.some.injEq, Prod.mk.injEq] at h
    obtain ⟨rfl, rfl⟩ := h
    have hin : F2 (SR g) ((List.range (len * te.size)).map fun i => z.cells[i % z.cells.size]!) ((Array.range (len * te.size)).map fun i => z.cells[i % z.cells.size]!).toList := by
      rw [Array.toList_map, Array.toList_range]
      exact F2.refl _ fun x hx => SR.plain g (List.all_eq_true.1 c3 x hx)
    obtain ⟨r', hr', hrr⟩ := fill_ok ps qs _ _ r hp c4 hin hf
    refine ⟨r'.toList, ?_, hrr⟩
    have c1' : ¬ 16777216 < len * te.size := by omega
    unfold Instr.buildSlice
    simp only [Sem.run_bind, T.run_und hd, Result.andThen_ok, T.run_size hte]
    rw [if_neg (by omega), if_neg c2]
    simp only [pure_bind, Sem.run_bind, T.run_zero hte hz, Result.andThen_ok]
    rw [hr']
    rfl

def pairs (ρ : Operand → Value) (ps : List (Nat × Operand)) : List (Nat × Value) := ps.map fun p => (p.1, ρ p.2)

/-- A cell that holds a byte; the byte. -/
def isByte : Value → Bool
  | .int .u8 _ => true
  | _ => false
def byteOf : Value → UInt8
  | .int _ n => UInt8.ofNat n.toNat
  | _ => 0
def evPick {R : Type} (X : Ops R) (t va vb : Value) (m : Mem) (k : Value → Mem → R) : R :=
  match t with
  | .bool t =>
    match va, vb with
    | .bool p, .bool q => k (.bool (cond t p q)) m
    | .int ka p, .int kb q => if ka = kb then k (.int ka (cond t p q)) m else X.fl
    | .string p, .string q => k (.string (cond t p q)) m
    | va, vb => X.br t (k va m) (k vb m)
  | _ => X.fl
def evAlloc {R : Type} (X : Ops R) (T : Tab P) (e : TypeId) (m : Mem) (k : Value → Mem → R) : R :=
  match T.inf e with
  | some te =>
    match te.zero with
    | some z => if plainC z && cellsOk z then k (.pointer (some ⟨m.length, 0, none⟩)) (m ++ [newBlk e z.cells.toList]) else X.fl
    | none => X.fl
  | none => X.fl
def evOpt {R : Type} (X : Ops R) (o : Option Value) (m : Mem) (k : Value → Mem → R) : R :=
  match o with
  | some v => k v m
  | none => X.fl
def evCond {R : Type} (X : Ops R) (o : Option (List Bool × Value)) (m : Mem) (k : Value → Mem → R) : R :=
  match o with
  | some (cs, v) => cs.foldr X.nd (k v m)
  | none => X.fl
def evBuildSlice {R : Type} (X : Ops R) (o : Option (TypeId × List Value)) (len : Nat) (m : Mem) (k : Value → Mem → R) : R :=
  match o with
  | some (e, cs) => k (.slice (some ⟨m.length, 0, none⟩) len len) (m ++ [newBlk e cs])
  | none => X.fl
def evNil {R : Type} (X : Ops R) (v : Value) (m : Mem) (k : Value → Mem → R) : R :=
  match v with
  | .pointer (some a) => k (.pointer (some a)) m
  | _ => X.fl
def evExtract {R : Type} (X : Ops R) (v : Value) (i : Nat) (m : Mem) (k : Value → Mem → R) : R :=
  match v with
  | .tuple ⟨vs⟩ => X.ld (vs[i]?) fun v => k v m
  | _ => X.fl
def evBuiltin {R : Type} (X : Ops R) (T : Tab P) (b : Builtin) (ts : List TypeId) (xs : List Operand) (ρ : Operand → Value) (m : Mem) (k : Value → Mem → R) : R :=
  match b with
  | .len =>
    match ts, xs with
    | [t], [x] =>
      match lenA (T.und t) (ρ x) with
      | some v => k v m
      | none => X.fl
    | _, _ => X.fl
  | .append =>
    match ts, xs with
    | [ts, tx], [s, x] => evAppend X T ts tx (ρ s) (ρ x) m k
    | _, _ => X.fl
  | .min =>
    match xs with
    | [x, y] =>
      match ρ x, ρ y with
      | .int ka p, .int _ q => k (.int ka (if q < p then q else p)) m
      | _, _ => X.fl
    | _ => X.fl
  | .max =>
    match xs with
    | [x, y] =>
      match ρ x, ρ y with
      | .int ka p, .int _ q => k (.int ka (if q > p then q else p)) m
      | _, _ => X.fl
    | _ => X.fl
  | _ => X.fl
/-- A conversion: of bytes to a string it reads memory. -/
def evConv {R : Type} (X : Ops R) (T : Tab P) (s d : TypeId) (x : Value) (m : Mem) (k : Value → Mem → R) : R :=
  match x with
  | .slice (some ⟨j, off, none⟩) n _ =>
    match T.und s, T.und d with
    | some (.slice e), some .string =>
      match T.und e, m[j]? with
      | some (.int .u8), some (some b) => X.nd (decide (off + n ≤ b.cells.length) && ((b.cells.drop off).take n).all isByte) (k (S (((b.cells.drop off).take n).map byteOf)) m)
      | _, _ => X.fl
    | _, _ => X.fl
  | .slice none _ _ =>
    match T.und s, T.und d with
    | some (.slice e), some .string =>
      match T.und e with
      | some (.int .u8) => k (S []) m
      | _ => X.fl
    | _, _ => X.fl
  | x => evOpt X (aConv (T.und s) (T.und d) x) m k
def evCall {R : Type} (X : Ops R) (T : Tab P) (c : Call) (ρ : Operand → Value) (m : Mem) (k : Value → Mem → R) : R :=
  match c.callee with
  | .value f =>
    match ρ f with
    | .func (.func n) ⟨[]⟩ ⟨[]⟩ => if T.fn n then X.call n (c.args.toList.map ρ) m k else X.fl
    | _ => X.fl
  | .builtin b => evBuiltin X T b c.argTypes.toList c.args.toList ρ m k
  | _ => X.fl

/-- One operation. -/
def evOp {R : Type} (X : Ops R) (T : Tab P) (o : Op) (ρ : Operand → Value) (m : Mem) (k : Value → Mem → R) : R :=
  match o with
  | .move x => k (ρ x) m
  | .assign x => k (ρ x) m
  | .pick c a b => evPick X (ρ c) (ρ a) (ρ b) m k
  | .alloc e => evAlloc X T e m k
  | .box e x => if cellsOk (ρ x) then k (.pointer (some ⟨m.length, 0, none⟩)) (m ++ [newBlk e (ρ x).cells.toList]) else X.fl
  | .build t parts => evOpt X (buildA T t (pairs ρ parts.toList)) m k
  | .buildSlice t len parts => evBuildSlice X (buildSliceA T t len (pairs ρ parts.toList)) len m k
  | .load t a => evLoad X T t (ρ a) m fun v => k v m
  | .store t a x => evStore X T t (ρ a) (ρ x) m fun m' => k undef m'
  | .nilCheck x => evNil X (ρ x) m k
  | .binOp op t x y _ => evCond X (aBinT T op t (ρ x) (ρ y)) m k
  | .unOp op _ x => evOpt X (aUn op (ρ x)) m k
  | .convert s d x => evConv X T s d (ρ x) m k
  | .slice t x lo hi none => evSlice X T t (ρ x) (lo.map ρ) (hi.map ρ) m fun v => k v m
  | .fieldAddr t x f => evOpt X (fieldAddrA T t (ρ x) f) m k
  | .field t x f => evOpt X (fieldA T t (ρ x) f) m k
  | .indexAddr t x i => evCond X (indexAddrA T t (ρ x) (ρ i)) m k
  | .index t x i => evCond X (indexA T t (ρ x) (ρ i)) m k
  | .extract x i => evExtract X (ρ x) i m k
  | .call c => evCall X T c ρ m k
  | _ => X.fl

theorem F2_pairs {g : List (Option GB)} {ρ ρ' : Operand → Value} (h : ∀ x, VR g (ρ x) (ρ' x)) : ∀ ps : List (Nat × Operand), F2 (fun p q => p.1 = q.1 ∧ VR g p.2 q.2) (pairs ρ ps) (pairs ρ' ps)
  | [] => .nil
  | p :: ps => .cons ⟨rfl, h p.2⟩ (F2_pairs h ps)
theorem F2_args {g : List (Option GB)} {ρ ρ' : Operand → Value} (h : ∀ x, VR g (ρ x) (ρ' x)) : ∀ xs : List Operand, F2 (VR g) (xs.map ρ) (xs.map ρ')
  | [] => .nil
  | x :: xs => .cons (h x) (F2_args h xs)
theorem arr_pairs (ρ : Operand → Value) (ps : Array (Nat × Operand)) : (ps.map fun (i, x) => (i, ρ x)) = ⟨pairs ρ ps.toList⟩ := by
  apply Array.ext'
  simp [pairs]
theorem arr_args (ρ : Operand → Value) (xs : Array Operand) : xs.map ρ = ⟨xs.toList.map ρ⟩ := by
  apply Array.ext'
  simp
theorem arr_of_toList {α : Type} {xs : Array α} {l : List α} (h : xs.toList = l) : xs = ⟨l⟩ := by
  apply Array.ext'
  simpa using h

/-- What stays as it is. -/
theorem OpDone.same {c : Ctx} {g₀ g : List (Option GB)} {N : Value → Mem → Prop} {m : Mem} {W : World} {r : Result Next} {v w : Value} (hr : Rel P c (g₀ ++ g) m W) (e : r = .ok (.value w) W) (hv : VR (g₀ ++ g) v w) (hn : N v m) : OpDone P c g₀ g N r := by
  subst e
  exact ⟨v, m, [], hn, by simpa using hr, by simpa using hv⟩
theorem OpDone.made {c : Ctx} {g₀ g : List (Option GB)} {N : Value → Mem → Prop} {m : Mem} {W : World} {r : Result Next} (hr : Rel P c (g₀ ++ g) m W) {v w : Value} {xs ys : List Value} {e : TypeId} (hf : F2 (SR (g₀ ++ g)) xs ys)
    (he : r = .ok (.value w) (W.alloc (.cells ⟨ys⟩ e))) (hv : ∀ g' : List (Option GB), g'[m.length]? = some (some ⟨W.heap.size, 0⟩) → VR g' v w) (hn : N v (m ++ [newBlk e xs])) : OpDone P c g₀ g N r := by
  subst he
  refine ⟨v, _, [some ⟨W.heap.size, 0⟩], hn, by rw [← List.append_assoc]; exact hr.newRow hf e, hv _ (by rw [← List.append_assoc]; exact last_app hr.len)⟩

theorem execOp_val {ρ : Operand → Value} {o : Oper} {s : Sem Value} {w : Value} {W W' : World} (he : execOp ρ o = (do pure (.value (← s)) : Sem Next)) (hs : s.run P W = .ok w W') : (execOp ρ o).run P W = .ok (.value w) W' := by
  rw [he]; simp [hs]

theorem bytes_cells {g : List (Option GB)} : ∀ {xs ys : List Value}, F2 (SR g) xs ys → xs.all isByte = true → ys = xs
  | [], [], _, _ => rfl
  | x :: xs, y :: ys, .cons hr hf, h => by
    simp only [List.all_cons, Bool.and_eq_true] at h
    rw [bytes_cells hf h.2]
    congr 1
    cases x <;> first | (cases h.1; done) | (cases hr; rfl)
theorem bytes_of : ∀ {xs : List Value}, xs.all isByte = true → ∃ ns : List Int, xs = ns.map fun n => .int .u8 n
  | [], _ => ⟨[], rfl⟩
  | x :: xs, h => by
    simp only [List.all_cons, Bool.and_eq_true] at h
    obtain ⟨ns, rfl⟩ := bytes_of h.2
    cases x with
    | int k n => cases k <;> first | exact ⟨n :: ns, rfl⟩ | cases h.1
    | _ => cases h.1

theorem foldl_push : ∀ (ns : List Int) (s : ByteArray), ns.foldl (fun r n => r.push (UInt8.ofNat n.toNat)) s = ⟨⟨bl s ++ ns.map fun n => UInt8.ofNat n.toNat⟩⟩
  | [], s => by simp
  | n :: ns, s => by
    rw [List.foldl_cons, foldl_push ns]
    have : bl (s.push (UInt8.ofNat n.toNat)) = bl s ++ [UInt8.ofNat n.toNat] := by
      show (s.data.push _).toList = _
      simp
    rw [this]
    simp

theorem evConv_ok {n₀ : Nat} {R : Type} {X : Ans P n₀ R} {T : Tab P} {s d : TypeId} {x x' : Value} {m : Mem} {k : Value → Mem → R} (h : X.holds (evConv X T s d x m k)) {c : Ctx} {g : List (Option GB)} {W : World} (hr : Rel P c g m W) (hx : VR g x x') :
    ∃ v w, (convert s d x').run P W = .ok w W ∧ VR g v w ∧ X.holds (k v m) := by
  unfold evConv at h
  split at h
  · rename_i j off n cap
    split at h
    case h_2 => exact absurd h X.fl_ok
    rename_i e hs hd
    split at h
    case h_2 => exact absurd h X.fl_ok
    rename_i b he hj
    obtain ⟨hc, h⟩ := X.nd_ok _ _ h
    rw [Bool.and_eq_true] at hc
    cases hx with
    | a hx => cases hx with
      | s hx => cases hx with
        | slice _ _ _ _ gb hg =>
          obtain ⟨ys, hys, hf⟩ := hr.loadCells hj hg (of_decide_eq_true hc.1)
          have hyx := bytes_cells hf hc.2
          obtain ⟨ns, hns⟩ := bytes_of hc.2
          refine ⟨_, S (((b.cells.drop off).take n).map byteOf), ?_, .s (.str _), h⟩
          rw [run_convert_bytes_string W s d e _ n _ (T.und_ok _ _ hs) (T.und_ok _ _ he) (T.und_ok _ _ hd)]
          rw [hyx, hns] at hys
          have := run_bytesToString (P := P) W ⟨gb.b, off, none⟩ n (cap + gb.extra) ns hys
          rw [this, hns, foldl_push]
          simp only [bl, List.map_map]
          rfl
  · rename_i n cap
    split at h
    case h_2 => exact absurd h X.fl_ok
    rename_i e hs hd
    split at h
    case h_2 => exact absurd h X.fl_ok
    rename_i he
    cases hx with
    | a hx => cases hx with
      | s hx => cases hx with
        | slice0 =>
          refine ⟨_, S [], ?_, .s (.str _), h⟩
          rw [run_convert_bytes_string W s d e _ _ _ (T.und_ok _ _ hs) (T.und_ok _ _ he) (T.und_ok _ _ hd)]
          rfl
  · simp only [evOpt] at h
    split at h
    case h_2 => exact absurd h X.fl_ok
    rename_i v hb
    have := aConv_ok hb hx W
    exact ⟨v, v, this.1, this.2, h⟩

theorem evOp_ok {n₀ : Nat} {R : Type} {X : Ans P n₀ R} {T : Tab P} {o : Oper} {ρ ρ' : Operand → Value} {m : Mem} {k : Value → Mem → R} (h : X.holds (evOp X T o.op ρ m k)) {c : Ctx} {g₀ g : List (Option GB)} {W : World} (hr : Rel P c (g₀ ++ g) m W)
    (hv : ∀ x, VR (g₀ ++ g) (ρ x) (ρ' x)) : OpDone P c g₀ g (fun v m' => X.holds (k v m')) ((execOp ρ' o).run P W) := by
  obtain ⟨dst, op, type, pos, after, guard⟩ := o
  cases op with
  | move x => exact .same hr rfl (hv x) h
  | assign x => exact .same hr rfl (hv x) h
  | pick cd a b =>
    simp only [evOp, evPick, evAlloc, evOpt, evCond, evBuildSlice, evNil, evExtract, evBuiltin, evCall] at h
    split at h
    case h_2 => exact absurd h X.fl_ok
    rename_i t ht
    have hc := hv cd
    rw [ht] at hc
    have hc := SR.inv_bool hc
    have e : (execOp ρ' ⟨dst, .pick cd a b, type, pos, after, guard⟩).run P W = .ok (.value (if t then ρ' a else ρ' b)) W := by
      simp only [execOp, hc, asBool]
      cases t <;> rfl
    have ha := hv a
    have hb := hv b
    split at h
    · rename_i p q hp hq
      rw [hp] at ha; rw [hq] at hb
      exact .same hr (by rw [e, SR.inv_bool ha, SR.inv_bool hb]) (v := .bool (cond t p q)) (by cases t <;> exact .s (.bool _)) h
    · rename_i ka p kb q hp hq
      rw [hp] at ha; rw [hq] at hb
      split at h
      case isFalse => exact absurd h X.fl_ok
      rename_i hk; subst hk
      exact .same hr (by rw [e, SR.inv_int ha, SR.inv_int hb]) (v := .int ka (cond t p q)) (by cases t <;> exact .s (.int _ _)) h
    · rename_i p q hp hq
      rw [hp] at ha; rw [hq] at hb
      exact .same hr (by rw [e, SR.inv_str ha, SR.inv_str hb]) (v := .string (cond t p q)) (by cases t <;> exact .s (.str _)) h
    · obtain ⟨h1, h2⟩ := X.br_ok _ _ _ h
      cases t with
      | true => exact .same hr (by rw [e]; rfl) ha (h1 rfl)
      | false => exact .same hr (by rw [e]; rfl) hb (h2 rfl)
  | alloc e =>
    simp only [evOp, evPick, evAlloc, evOpt, evCond, evBuildSlice, evNil, evExtract, evBuiltin, evCall] at h
    split at h
    case h_2 => exact absurd h X.fl_ok
    rename_i te hte
    split at h
    case h_2 => exact absurd h X.fl_ok
    rename_i z hz
    split at h
    case isFalse => exact absurd h X.fl_ok
    rename_i hp
    rw [Bool.and_eq_true] at hp
    refine .made hr ((VR.plain (g₀ ++ g) hp.1).cells hp.2) (w := .pointer (some ⟨W.heap.size, 0, none⟩)) ?_ (fun g' hg' => .s (.ptr _ _ _ hg')) h
    refine execOp_val rfl ?_
    simp only [Instr.alloc, Sem.run_bind, T.run_zero hte hz, Result.andThen_ok]
    rfl
  | box e x =>
    simp only [evOp, evPick, evAlloc, evOpt, evCond, evBuildSlice, evNil, evExtract, evBuiltin, evCall] at h
    split at h
    case isFalse => exact absurd h X.fl_ok
    rename_i hp
    refine .made hr ((hv x).cells hp) (w := .pointer (some ⟨W.heap.size, 0, none⟩)) ?_ (fun g' hg' => .s (.ptr _ _ _ hg')) h
    exact execOp_val rfl rfl
  | build t parts =>
    simp only [evOp, evPick, evAlloc, evOpt, evCond, evBuildSlice, evNil, evExtract, evBuiltin, evCall] at h
    split at h
    case h_2 => exact absurd h X.fl_ok
    rename_i v hb
    obtain ⟨w, hw, hvw⟩ := buildA_ok hb (F2_pairs hv _) W
    exact .same hr (execOp_val rfl (by rw [arr_pairs]; exact hw)) hvw h
  | buildSlice t len parts =>
    simp only [evOp, evPick, evAlloc, evOpt, evCond, evBuildSlice, evNil, evExtract, evBuiltin, evCall] at h
    split at h
    case h_2 => exact absurd h X.fl_ok
    rename_i e cs hb
    obtain ⟨ds, hd, hf⟩ := buildSliceA_ok hb (F2_pairs hv _) W
    refine .made hr hf (execOp_val rfl (by rw [arr_pairs]; exact hd)) (fun g' hg' => .s ?_) h
    exact SR.slice _ _ _ _ _ hg'
  | load t a =>
    simp only [evOp, evPick, evAlloc, evOpt, evCond, evBuildSlice, evNil, evExtract, evBuiltin, evCall] at h
    obtain ⟨v, w, hw, hvw, hk⟩ := evLoad_ok h hr (hv a)
    exact .same hr (execOp_val rfl hw) hvw hk
  | store t a x =>
    simp only [evOp, evPick, evAlloc, evOpt, evCond, evBuildSlice, evNil, evExtract, evBuiltin, evCall] at h
    obtain ⟨W', m', hw, hr', hk⟩ := evStore_ok h hr (hv a) (hv x)
    have e : (execOp ρ' ⟨dst, .store t a x, type, pos, after, guard⟩).run P W = .ok .skip W' := by
      simp only [execOp, Sem.run_bind, hw, Result.andThen_ok, Sem.run_pure]
    rw [e]
    exact ⟨m', [], hk, by simpa using hr'⟩
  | nilCheck x =>
    simp only [evOp, evPick, evAlloc, evOpt, evCond, evBuildSlice, evNil, evExtract, evBuiltin, evCall] at h
    split at h
    case h_2 => exact absurd h X.fl_ok
    rename_i a ha
    have hx := hv x
    rw [ha] at hx
    have hx' := hx
    generalize hw : ρ' x = w at hx hx'
    cases hx with
    | a hx => cases hx with
      | s hx => cases hx with
        | ptr j off gb hg =>
          refine .same hr ?_ hx' h
          simp only [execOp, hw]; rfl
  | binOp op t x y ty =>
    simp only [evOp, evPick, evAlloc, evOpt, evCond, evBuildSlice, evNil, evExtract, evBuiltin, evCall] at h
    split at h
    case h_2 => exact absurd h X.fl_ok
    rename_i cs v hb
    obtain ⟨hc, hk⟩ := foldr_nd _ _ h
    have := aBinT_ok hb hc (hv x) (hv y) x y W
    exact .same hr (execOp_val rfl this.1) this.2 hk
  | unOp op t x =>
    simp only [evOp, evPick, evAlloc, evOpt, evCond, evBuildSlice, evNil, evExtract, evBuiltin, evCall] at h
    split at h
    case h_2 => exact absurd h X.fl_ok
    rename_i v hb
    have := aUn_ok (P := P) hb (hv x) W
    exact .same hr (execOp_val rfl this.1) this.2 h
  | convert s d x =>
    simp only [evOp] at h
    obtain ⟨v, w, hw, hvw, hk⟩ := evConv_ok h hr (hv x)
    exact .same hr (execOp_val rfl hw) hvw hk
  | slice t x lo hi mx =>
    cases mx with
    | some _ => exact absurd h X.fl_ok
    | none =>
      simp only [evOp, evPick, evAlloc, evOpt, evCond, evBuildSlice, evNil, evExtract, evBuiltin, evCall] at h
      obtain ⟨v, w, hw, hvw, hk⟩ := evSlice_ok (lo' := lo.map ρ') (hi' := hi.map ρ') h hr (hv x) (fun v e => by cases lo <;> simp at e ⊢; subst e; exact hv _) (fun e => by cases lo <;> simp at e ⊢) (fun v e => by cases hi <;> simp at e ⊢; subst e; exact hv _)
        (fun e => by cases hi <;> simp at e ⊢)
      exact .same hr (execOp_val rfl hw) hvw hk
  | fieldAddr t x f =>
    simp only [evOp, evPick, evAlloc, evOpt, evCond, evBuildSlice, evNil, evExtract, evBuiltin, evCall] at h
    split at h
    case h_2 => exact absurd h X.fl_ok
    rename_i v hb
    obtain ⟨w, hw, hvw⟩ := fieldAddrA_ok hb (hv x) W
    exact .same hr (execOp_val rfl hw) hvw h
  | field t x f =>
    simp only [evOp, evPick, evAlloc, evOpt, evCond, evBuildSlice, evNil, evExtract, evBuiltin, evCall] at h
    split at h
    case h_2 => exact absurd h X.fl_ok
    rename_i v hb
    obtain ⟨w, hw, hvw⟩ := fieldA_ok hb (hv x) W
    exact .same hr (execOp_val rfl hw) hvw h
  | indexAddr t x i =>
    simp only [evOp, evPick, evAlloc, evOpt, evCond, evBuildSlice, evNil, evExtract, evBuiltin, evCall] at h
    split at h
    case h_2 => exact absurd h X.fl_ok
    rename_i cs v hb
    obtain ⟨hc, hk⟩ := foldr_nd _ _ h
    obtain ⟨w, hw, hvw⟩ := indexAddrA_ok hb hc (hv x) (hv i) W
    exact .same hr (execOp_val rfl hw) hvw hk
  | index t x i =>
    simp only [evOp, evPick, evAlloc, evOpt, evCond, evBuildSlice, evNil, evExtract, evBuiltin, evCall] at h
    split at h
    case h_2 => exact absurd h X.fl_ok
    rename_i cs v hb
    obtain ⟨hc, hk⟩ := foldr_nd _ _ h
    obtain ⟨w, hw, hvw⟩ := indexA_ok hb hc (hv x) (hv i) W
    exact .same hr (execOp_val rfl hw) hvw hk
  | extract x i =>
    simp only [evOp, evPick, evAlloc, evOpt, evCond, evBuildSlice, evNil, evExtract, evBuiltin, evCall] at h
    split at h
    case h_2 => exact absurd h X.fl_ok
    rename_i vs hb
    obtain ⟨v, hvs, hk⟩ := X.ld_ok _ _ h
    have hx := hv x
    rw [hb] at hx
    generalize hw0 : ρ' x = w0 at hx
    cases hx with
    | a hx => cases hx with
      | s hx => cases hx
    | tup hx =>
      rename_i ys
      obtain ⟨w, hw, hvw⟩ := hx.get i v hvs
      refine .same hr (w := w) (execOp_val rfl ?_) (.a hvw) hk
      rw [hw0]
      have : (⟨ys⟩ : Array Value)[i]? = some w := by simpa using hw
      simp [Instr.extract, this]
  | call cl =>
    obtain ⟨callee, args, argTypes⟩ := cl
    cases callee with
    | invoke _ _ => exact absurd h X.fl_ok
    | value f =>
      simp only [evOp, evPick, evAlloc, evOpt, evCond, evBuildSlice, evNil, evExtract, evBuiltin, evCall] at h
      split at h
      case h_2 => exact absurd h X.fl_ok
      rename_i n hf
      split at h
      case isFalse => exact absurd h X.fl_ok
      rename_i hfn
      have hc := X.call_ok _ _ _ _ h
      have hff := hv f
      rw [hf] at hff
      have hff' : ρ' f = .func (.func n) #[] #[] := by
        generalize ρ' f = w at hff
        cases hff with
        | a h => cases h with
          | s h => cases h; rfl
      obtain ⟨d, code, hd, hname, hbody⟩ := T.fn_ok n hfn
      have e : (execOp ρ' ⟨dst, .call ⟨.value f, args, argTypes⟩, type, pos, after, guard⟩).run P W = .ok (.enter n ⟨args.toList.map ρ'⟩) W := by
        have hb : d.body ≠ none := by rw [hbody]; simp
        have hname' : d.name ≠ "runtime.NumGoroutine" := by simpa using hname
        simp [execOp, resolve, hff', Deferred.ofValue, invoke, callFunc, program, Sem.run, bind, Sem.bind, pure, hd, hname', hb]
        exact arr_args ρ' args
      rw [e]
      refine (hc c (g₀ ++ g) W _ hr (F2_args hv _)).mono ?_
      rintro e' W' ⟨v, v', m', g', he, hk, hr', hvv⟩
      exact ⟨v, v', m', g', he, hk, by rw [← List.append_assoc]; exact hr', by rw [← List.append_assoc]; exact hvv⟩
    | builtin b =>
      cases b with
      | len =>
        simp only [evOp, evPick, evAlloc, evOpt, evCond, evBuildSlice, evNil, evExtract, evBuiltin, evCall] at h
        split at h
        case h_2 => exact absurd h X.fl_ok
        rename_i t x ht hx
        split at h
        case h_2 => exact absurd h X.fl_ok
        rename_i v hl
        obtain rfl := arr_of_toList ht
        obtain rfl := arr_of_toList hx
        have := lenA_ok (ts := ⟨[t]⟩) (ty := type) (xs := []) (by simp) hl (hv x) W
        refine .same hr ?_ this.2 h
        simp only [execOp, resolve]
        simp [invoke, builtin, this.1]
      | append =>
        simp only [evOp, evPick, evAlloc, evOpt, evCond, evBuildSlice, evNil, evExtract, evBuiltin, evCall] at h
        split at h
        case h_2 => exact absurd h X.fl_ok
        rename_i ts tx s x ht hx
        obtain rfl := arr_of_toList ht
        obtain rfl := arr_of_toList hx
        obtain ⟨v, w, m', W', g', hw, hr', hvw, hk⟩ := evAppend_ok (ty := type) h hr (hv s) (hv x)
        have e : (execOp ρ' ⟨dst, .call ⟨.builtin .append, ⟨[s, x]⟩, ⟨[ts, tx]⟩⟩, type, pos, after, guard⟩).run P W = .ok (.value w) W' := by
          simp only [execOp, resolve]
          simp [invoke, builtin, hw]
        rw [e]
        exact ⟨v, m', g', hk, hr', hvw⟩
      | min =>
        simp only [evOp, evPick, evAlloc, evOpt, evCond, evBuildSlice, evNil, evExtract, evBuiltin, evCall] at h
        split at h
        case h_2 => exact absurd h X.fl_ok
        rename_i x y hx
        split at h
        case h_2 => exact absurd h X.fl_ok
        rename_i ka p kb q hp hq
        obtain rfl := arr_of_toList hx
        have h1 := hv x; rw [hp] at h1; have h1 := SR.inv_int h1
        have h2 := hv y; rw [hq] at h2; have h2 := SR.inv_int h2
        refine .same hr (w := .int ka (if q < p then q else p)) ?_ (.s (.int _ _)) h
        simp only [execOp, resolve]
        simp [invoke, builtin, Builtin.min_, Builtin.min2, h1, h2]
      | max =>
        simp only [evOp, evPick, evAlloc, evOpt, evCond, evBuildSlice, evNil, evExtract, evBuiltin, evCall] at h
        split at h
        case h_2 => exact absurd h X.fl_ok
        rename_i x y hx
        split at h
        case h_2 => exact absurd h X.fl_ok
        rename_i ka p kb q hp hq
        obtain rfl := arr_of_toList hx
        have h1 := hv x; rw [hp] at h1; have h1 := SR.inv_int h1
        have h2 := hv y; rw [hq] at h2; have h2 := SR.inv_int h2
        refine .same hr (w := .int ka (if q > p then q else p)) ?_ (.s (.int _ _)) h
        simp only [execOp, resolve]
        simp [invoke, builtin, Builtin.max_, Builtin.max2, h1, h2]
      | _ => exact absurd h X.fl_ok
  | _ => exact absurd h X.fl_ok
end Go.AE
namespace Go.AE
variable {P : Program}

/-- A result stored. -/
def putA (a : List Value) (dst : Option Tmp) (v : Value) : List Value :=
  match dst with
  | some d => a.set d v
  | none => a

/-- A list, a value, a memory, laid out before they are handed on. -/
def forceL {α R : Type} : List α → (List α → R) → R
  | [], k => k []
  | x :: xs, k => forceL xs fun ys => k (x :: ys)
theorem forceL_eq {α R : Type} : ∀ (l : List α) (k : List α → R), forceL l k = k l
  | [], _ => rfl
  | x :: xs, k => forceL_eq xs fun ys => k (x :: ys)
def forceV {R : Type} (v : Value) (k : Value → R) : R :=
  match v with
  | .bool b => k (.bool b)
  | .int i n => k (.int i n)
  | .string s => k (.string s)
  | .pointer none => k (.pointer none)
  | .pointer (some ⟨b, o, s⟩) => k (.pointer (some ⟨b, o, s⟩))
  | .slice none n c => k (.slice none n c)
  | .slice (some ⟨b, o, s⟩) n c => k (.slice (some ⟨b, o, s⟩) n c)
  | .agg ⟨l⟩ => forceL l fun l => k (.agg ⟨l⟩)
  | .tuple ⟨l⟩ => forceL l fun l => k (.tuple ⟨l⟩)
  | v => k v
theorem forceV_eq {R : Type} (v : Value) (k : Value → R) : forceV v k = k v := by
  unfold forceV
  split <;> first | rfl | exact forceL_eq _ _
def forceM {R : Type} : Mem → (Mem → R) → R
  | [], k => k []
  | none :: m, k => forceM m fun m' => k (none :: m')
  | some ⟨c, e, r, x⟩ :: m, k => forceM m fun m' => k (some ⟨c, e, r, x⟩ :: m')
theorem forceM_eq {R : Type} : ∀ (m : Mem) (k : Mem → R), forceM m k = k m
  | [], _ => rfl
  | none :: m, k => forceM_eq m fun m' => k (none :: m')
  | some ⟨_, _, _, _⟩ :: m, k => forceM_eq m fun m' => k (some _ :: m')
/-- What follows an operation. -/
def laid {R : Type} (a : List Value) (dst : Option Tmp) (v : Value) (m : Mem) (k : List Value → Mem → R) : R :=
  forceV v fun v => k (putA a dst v) m
theorem laid_eq {R : Type} (a : List Value) (dst : Option Tmp) (v : Value) (m : Mem) (k : List Value → Mem → R) : laid a dst v m k = k (putA a dst v) m := by
  unfold laid
  rw [forceV_eq]

/-- The operations of a region, in the order of the text. -/
def evOps {R : Type} (X : Ops R) (T : Tab P) (all : List Oper) : List Oper → List Value → Mem → (List Value → Mem → R) → R
  | [], a, m, k => forceL a fun a => forceM m fun m => k a m
  | o :: rest, a, m, k =>
    match o.guard with
    | none => evOp X T o.op (aeval a) m fun v m' => laid a o.dst v m' fun a m => evOps X T all rest a m k
    | some (j, want) =>
      match ((all[j]?).bind (·.dst)).bind (a[·]?) with
      | some (.bool b) => X.br (b == want) (evOp X T o.op (aeval a) m fun v m' => laid a o.dst v m' fun a m => evOps X T all rest a m k) (laid a o.dst undef m fun a m => evOps X T all rest a m k)
      | some (.tuple _) => laid a o.dst undef m fun a m => evOps X T all rest a m k
      | _ => X.fl

theorem ARel.putA {g : List (Option GB)} {a : List Value} {A : Act} (h : ARel g a A) (dst : Option Tmp) {v w : Value} (hv : VR g v w) : ARel g (putA a dst v) (A.put dst w) := by
  cases dst with
  | none => exact h
  | some d => exact ⟨by simpa [Act.put, AE.putA] using h.tmps.set d hv, h.defers⟩

theorem OpDone.upon {c : Ctx} {g₀ g : List (Option GB)} {o : Oper} {a : List Value} {A : Act} {N : List Value → Mem → Prop} {next : Act → World → Prop} {Q : Exit → Act → World → Prop} {r : Result Next}
    (h : OpDone P c g₀ g (fun v m' => N (putA a o.dst v) m') r) (ha : ARel (g₀ ++ g) a A)
    (hn : ∀ a' m' g' A' W', N a' m' → Rel P c (g₀ ++ g') m' W' → ARel (g₀ ++ g') a' A' → next A' W') : o.upon P A next Q r := by
  unfold OpDone at h
  have app : ∀ g', ARel (g₀ ++ (g ++ g')) a A := fun g' => by rw [← List.append_assoc]; exact ha.app
  split at h
  · obtain ⟨v, m', g', hN, hr, hv⟩ := h
    exact hn _ _ _ _ _ hN hr ((app g').putA o.dst hv)
  · obtain ⟨m', g', hN, hr⟩ := h
    exact hn _ _ _ _ _ hN hr ((app g').putA o.dst (.undef _))
  · simp only [Oper.upon]
    refine h.mono ?_
    rintro e W'' ⟨v, w, m', g', rfl, hN, hr, hv⟩
    exact hn _ _ _ _ _ hN hr ((app g').putA o.dst hv)
  · exact h.elim

/-- The first of a row of operations. -/
theorem evOps_head {n₀ : Nat} {R : Type} {X : Ans P n₀ R} {T : Tab P} {all : List Oper} {c : Ctx} {g₀ : List (Option GB)} {Q : Exit → Act → World → Prop} {o : Oper} {rest : List Oper} {a : List Value} {m : Mem} {k : List Value → Mem → R}
    (h : X.holds (evOps X T all (o :: rest) a m k)) {g : List (Option GB)} {A : Act} {W : World} (hr : Rel P c (g₀ ++ g) m W) (ha : ARel (g₀ ++ g) a A) {K : Act → World → Prop}
    (hK : ∀ a' m' g' A' W', X.holds (evOps X T all rest a' m' k) → Rel P c (g₀ ++ g') m' W' → ARel (g₀ ++ g') a' A' → K A' W') :
    if Region.wanted o (yielded all.toArray A.tmps) then o.wp P A W K Q else K (A.put o.dst undef) W := by
  have main : X.holds (evOp X T o.op (aeval a) m fun v m' => laid a o.dst v m' fun a m => evOps X T all rest a m k) → o.wp P A W K Q := by
    intro h
    simp only [laid_eq] at h
    have := evOp_ok (o := o) h hr (fun x => ha.eval x)
    exact OpDone.upon (N := fun a' m' => X.holds (evOps X T all rest a' m' k)) this ha hK
  unfold evOps at h
  split at h
  · rename_i hg
    rw [if_pos (by simp [Region.wanted, hg])]
    exact main h
  · rename_i j want hg
    split at h
    case h_3 => exact absurd h X.fl_ok
    case h_2 =>
      rename_i xs hb
      rw [laid_eq] at h
      have hy : yielded all.toArray A.tmps j = none := by
        unfold yielded
        cases ho : all[j]? with
        | none => rw [ho] at hb; simp at hb
        | some oj =>
          rw [ho] at hb
          simp only [Option.bind_some] at hb
          cases hd : oj.dst with
          | none => rw [hd] at hb; simp at hb
          | some d =>
            rw [hd] at hb
            simp only [Option.bind_some] at hb
            obtain ⟨w, hw, hvw⟩ := ha.tmps.get d _ hb
            have hw' : A.tmps[d]? = some w := by rw [← Array.getElem?_toList]; exact hw
            have ho' : all.toArray[j]? = some oj := by simpa using ho
            rw [ho']
            cases hvw with
            | a hvw => cases hvw with
              | s hvw => cases hvw
            | tup _ => simp [hd, hw']
      rw [if_neg (by simp [Region.wanted, hg, hy])]
      exact hK _ _ _ _ _ h hr (ha.putA o.dst (.undef _))
    rename_i b hb
    obtain ⟨h1, h2⟩ := X.br_ok _ _ _ h
    rw [laid_eq] at h2
    have hy : yielded all.toArray A.tmps j = some b := by
      unfold yielded
      cases ho : all[j]? with
      | none => rw [ho] at hb; simp at hb
      | some oj =>
        rw [ho] at hb
        simp only [Option.bind_some] at hb
        cases hd : oj.dst with
        | none => rw [hd] at hb; simp at hb
        | some d =>
          rw [hd] at hb
          simp only [Option.bind_some] at hb
          obtain ⟨w, hw, hvw⟩ := ha.tmps.get d _ hb
          obtain rfl := SR.inv_bool hvw
          have hw' : A.tmps[d]? = some (.bool b) := by rw [← Array.getElem?_toList]; exact hw
          have ho' : all.toArray[j]? = some oj := by simpa using ho
          rw [ho']
          simp [hd, hw']
    by_cases hbw : b = want
    · subst hbw
      rw [if_pos (by simp [Region.wanted, hg, hy])]
      exact main (h1 (by simp))
    · rw [if_neg (by simp [Region.wanted, hg, hy, hbw])]
      exact hK _ _ _ _ _ (h2 (by simpa using hbw)) hr (ha.putA o.dst (.undef _))

theorem evOps_ok {n₀ : Nat} {R : Type} {X : Ans P n₀ R} {T : Tab P} {all : List Oper} {c : Ctx} {g₀ : List (Option GB)} {K : Exit → List Value → Mem → Prop} : ∀ (l : List Oper) (a : List Value) (m : Mem) (k : List Value → Mem → R),
    X.holds (evOps X T all l a m k) → (∀ a m, X.holds (k a m) → K .normal a m) → ∀ (g : List (Option GB)) (A : Act) (W : World), Rel P c (g₀ ++ g) m W → ARel (g₀ ++ g) a A → wpList P all.toArray (Post P c g₀ K) l A W
  | [], a, m, _, h, hk, g, _, _, hr, ha => by
    simp only [evOps, forceL_eq, forceM_eq] at h
    exact ⟨a, m, g, hk _ _ h, hr, ha⟩
  | _ :: rest, _, _, k, h, hk, _, _, _, hr, ha =>
    wpList_step fun _ hK' => evOps_head h hr ha fun a' m' g' A' W' hN hr' ha' => hK' _ _ (evOps_ok rest a' m' k hN hk g' A' W' hr' ha')

/-- The propositions themselves. -/
def propA (P : Program) (n₀ : Nat) : Ans P n₀ Prop where
  holds p := p
  br c t e := (c = true → t) ∧ (c = false → e)
  nd c r := c = true ∧ r
  fl := False
  ld o k := ∃ v, o = some v ∧ k v
  call f as m k := ACall P f as m k
  code x a m k := AWp P n₀ x k a m
  pcall f as m k := ∃ v nb, ACall P f as m (fun v' m' => v' = v ∧ m' = m ++ nb.toList.map some) ∧ k v nb
  br_ok _ _ _ h := h
  nd_ok _ _ h := h
  fl_ok h := h
  ld_ok _ _ h := h
  call_ok _ _ _ _ h := h
  code_ok _ _ _ _ h := h
  pcall_ok f as m k h := by
    obtain ⟨v, nb, hc, hk⟩ := h
    exact ⟨v, nb, hc.mono fun v' m' ⟨h1, h2⟩ => ⟨h1, by rw [h2]; simp, by rw [h2]; simp⟩, hk⟩
end Go.AE
namespace Go.AE
variable {P : Program}

/-- Blocks numbered anew, in a scalar, in a value. -/
def renS (ρ : Nat → Nat) : Value → Value
  | .pointer (some ⟨j, o, s⟩) => .pointer (some ⟨ρ j, o, s⟩)
  | .slice (some ⟨j, o, s⟩) n c => .slice (some ⟨ρ j, o, s⟩) n c
  | v => v
def ren1 (ρ : Nat → Nat) : Value → Value
  | .agg ⟨l⟩ => .agg ⟨l.map (renS ρ)⟩
  | v => renS ρ v
def ren (ρ : Nat → Nat) : Value → Value
  | .tuple ⟨l⟩ => .tuple ⟨l.map (ren1 ρ)⟩
  | v => ren1 ρ v

theorem SR.ren {g g' : List (Option GB)} {ρ : Nat → Nat} (h : ∀ (i : Nat) (gb : GB), g[i]? = some (some gb) → g'[ρ i]? = some (some gb)) {v w : Value} (hv : SR g v w) : SR g' (renS ρ v) w := by
  cases hv with
  | top _ h => exact .top _ h
  | ptr j off gb hg => exact .ptr _ off gb (h j gb hg)
  | slice j off len cap gb hg => exact .slice _ off len cap gb (h j gb hg)
  | bool => exact .bool _
  | int => exact .int _ _
  | str => exact .str _
  | ptr0 => exact .ptr0
  | slice0 => exact .slice0
  | nilFunc => exact .nilFunc
  | nilIface => exact .nilIface
  | func => exact .func _
theorem ren1_scalar {ρ : Nat → Nat} {v : Value} (h : scalarV v = true) : ren1 ρ v = renS ρ v := by
  cases v <;> first | rfl | cases h
theorem AR.ren {g g' : List (Option GB)} {ρ : Nat → Nat} (h : ∀ (i : Nat) (gb : GB), g[i]? = some (some gb) → g'[ρ i]? = some (some gb)) {v w : Value} (hv : AR g v w) : AR g' (ren1 ρ v) w := by
  cases hv with
  | s hs => rw [ren1_scalar hs.scalar.1]; exact .s (hs.ren h)
  | agg hf => exact .agg (by
      have := hf.map (S := SR g') (f := renS ρ) (f' := id) fun _ _ h' => h'.ren h
      simpa using this)
theorem ren_scalar {ρ : Nat → Nat} {v : Value} (h : scalarV v = true) : ren ρ v = renS ρ v := by
  cases v <;> first | rfl | cases h
theorem VR.ren {g g' : List (Option GB)} {ρ : Nat → Nat} (h : ∀ (i : Nat) (gb : GB), g[i]? = some (some gb) → g'[ρ i]? = some (some gb)) {v w : Value} (hv : VR g v w) : VR g' (AE.ren ρ v) w := by
  cases hv with
  | a ha =>
    have : AE.ren ρ v = ren1 ρ v := by
      cases ha with
      | s hs => rw [ren_scalar hs.scalar.1, ren1_scalar hs.scalar.1]
      | agg _ => rfl
    rw [this]
    exact .a (ha.ren h)
  | tup hf => exact .tup (by
      have := hf.map (S := AR g') (f := ren1 ρ) (f' := id) fun _ _ h' => h'.ren h
      simpa using this)
  | top => exact .top _

/-- The blocks that a value names lie below n. -/
def lowS (n : Nat) : Value → Bool
  | .pointer (some ⟨j, _, _⟩) => decide (j < n)
  | .slice (some ⟨j, _, _⟩) _ _ => decide (j < n)
  | _ => true
def low1 (n : Nat) : Value → Bool
  | .agg ⟨l⟩ => l.all (lowS n)
  | v => lowS n v
def low (n : Nat) : Value → Bool
  | .tuple ⟨l⟩ => l.all (low1 n)
  | v => low1 n v

theorem SR.back {g g' : List (Option GB)} {ρ : Nat → Nat} {n : Nat} (h : ∀ (i : Nat) (gb : GB), i < n → g[ρ i]? = some (some gb) → g'[i]? = some (some gb)) : ∀ {v w : Value}, lowS n v = true → SR g (renS ρ v) w → SR g' v w := by
  intro v w hl hv
  unfold renS at hv
  split at hv
  · cases hv with
    | ptr _ _ gb hg => exact .ptr _ _ gb (h _ gb (by simpa [lowS] using hl) hg)
  · cases hv with
    | slice _ _ _ _ gb hg => exact .slice _ _ _ _ gb (h _ gb (by simpa [lowS] using hl) hg)
  · rename_i h1 h2
    cases hv with
    | top _ h => exact .top _ h
    | ptr j off gb hg => exact absurd rfl (h1 j off none)
    | slice j off len cap gb hg => exact absurd rfl (h2 j off none len cap)
    | bool => exact .bool _
    | int => exact .int _ _
    | str => exact .str _
    | ptr0 => exact .ptr0
    | slice0 => exact .slice0
    | nilFunc => exact .nilFunc
    | nilIface => exact .nilIface
    | func => exact .func _

theorem F2.back {R : Value → Value → Prop} {S : Value → Value → Prop} {f : Value → Value} {p : Value → Bool} (h : ∀ v w, p v = true → R (f v) w → S v w) : ∀ {l : List Value} {l' : List Value}, l.all p = true → F2 R (l.map f) l' → F2 S l l'
  | [], [], _, _ => .nil
  | v :: l, w :: l', hp, .cons hr hf => by
    simp only [List.all_cons, Bool.and_eq_true] at hp
    exact .cons (h v w hp.1 hr) (F2.back h hp.2 hf)

theorem AR.back {g g' : List (Option GB)} {ρ : Nat → Nat} {n : Nat} (h : ∀ (i : Nat) (gb : GB), i < n → g[ρ i]? = some (some gb) → g'[i]? = some (some gb)) {v w : Value} (hl : low1 n v = true) (hv : AR g (ren1 ρ v) w) : AR g' v w := by
  unfold ren1 at hv
  split at hv
  · rename_i l
    cases hv with
    | s hs => cases hs
    | agg hf => exact .agg (F2.back (p := lowS n) (fun v w hp hr => SR.back h hp hr) hl hf)
  · rename_i hne
    have hl' : lowS n v = true := by
      unfold low1 at hl
      split at hl
      · exact absurd rfl (hne _)
      · exact hl
    generalize he : renS ρ v = u at hv
    cases hv with
    | s hs => exact .s (SR.back h hl' (by rw [he]; exact hs))
    | agg hf =>
      exfalso
      unfold renS at he
      split at he
      · cases he
      · cases he
      · exact hne _ he

theorem VR.back {g g' : List (Option GB)} {ρ : Nat → Nat} {n : Nat} (h : ∀ (i : Nat) (gb : GB), i < n → g[ρ i]? = some (some gb) → g'[i]? = some (some gb)) {v w : Value} (hl : low n v = true) (hv : VR g (AE.ren ρ v) w) : VR g' v w := by
  unfold AE.ren at hv
  split at hv
  · rename_i l
    cases hv with
    | a ha => cases ha with
      | s hs => cases hs
    | tup hf => exact .tup (F2.back (p := low1 n) (fun v w hp hr => AR.back h hp hr) hl hf)
  · rename_i hne
    have hl' : low1 n v = true := by
      unfold low at hl
      split at hl
      · exact absurd rfl (hne _)
      · exact hl
    generalize he : ren1 ρ v = u at hv
    cases hv with
    | a ha => exact .a (AR.back h hl' (by rw [he]; exact ha))
    | tup hf =>
      exfalso
      unfold ren1 at he
      split at he
      · cases he
      · unfold renS at he
        split at he
        · cases he
        · cases he
        · exact hne _ he
    | top _ =>
      have : v = topV := by
        unfold ren1 at he
        split at he
        · cases he
        · unfold renS at he
          split at he
          · cases he
          · cases he
          · exact he
      rw [this]; exact .top _

/-- A block that is handed on for reading. -/
def roBlk (b : ABlk) : ABlk := { b with rw := false }
def renBlk (ρ : Nat → Nat) (b : ABlk) : ABlk := { b with cells := b.cells.map (renS ρ) }

/-- The local memory 'm0' shows the caller's blocks 'js', for reading. -/
def Shows (m : Mem) (js : List Nat) (m0 : Mem) : Prop :=
  m0.length = js.length ∧ ∀ (i : Nat) (b : ABlk), m0[i]? = some (some b) → ∃ j b', js[i]? = some j ∧ m[j]? = some (some b') ∧ b'.cells = b.cells.map (renS fun i => js.getD i 0) ∧ b'.elem = b.elem ∧ (b.ex = true → b'.ex = true) ∧ b.rw = false ∧ b.cells.all (lowS js.length) = true

/-- Where the callee's blocks lie. -/
def place (js : List Nat) (n : Nat) (i : Nat) : Nat := if i < js.length then js.getD i 0 else n + (i - js.length)

theorem ACall.frame {f : FuncId} {as : List Value} {m0 : Mem} {K : Value → Mem → Prop} (h : ACall P f as m0 fun v m1 => ∃ nb : List ABlk, m1 = m0 ++ nb.map some ∧ nb.all (·.rw) = true ∧ K v (nb.map some)) (m : Mem) (js : List Nat) (hs : Shows m js m0) (hjs : ∀ j ∈ js, j < m.length)
    (has : as.all (low js.length) = true) :
    ACall P f (as.map (ren (place js m.length))) m fun v m' => ∃ (v0 : Value) (nb : List ABlk), K v0 (nb.map some) ∧ v = ren (place js m.length) v0 ∧ m' = m ++ nb.map fun b => some (renBlk (place js m.length) b) := by
  intro c g W args' hr hargs
  have hg0 : ∀ (i : Nat) (gb : GB), i < js.length → g[place js m.length i]? = some (some gb) → (js.map fun j => g.getD j none)[i]? = some (some gb) := by
    intro i gb hi hgb
    simp only [place, if_pos hi] at hgb
    rw [List.getElem?_map, List.getElem?_eq_getElem hi]
    simp only [Option.map_some, Option.some.injEq]
    rw [List.getD_eq_getElem?_getD, List.getElem?_eq_getElem hi] at hgb
    simp only [Option.getD_some] at hgb
    rw [List.getD_eq_getElem?_getD, hgb]; rfl
  have hget : ∀ (i : Nat) (gb : GB), (js.map fun j => g.getD j none)[i]? = some (some gb) → ∃ j, js[i]? = some j ∧ g[j]? = some (some gb) := by
    intro i gb hi
    rw [List.getElem?_map] at hi
    cases hj : js[i]? with
    | none => rw [hj] at hi; cases hi
    | some j =>
      rw [hj] at hi
      simp only [Option.map_some, Option.some.injEq] at hi
      have hlt := hjs j (List.mem_of_getElem? hj)
      rw [← hr.len] at hlt
      refine ⟨j, rfl, ?_⟩
      rw [List.getD_eq_getElem?_getD, List.getElem?_eq_getElem hlt] at hi
      rw [List.getElem?_eq_getElem hlt, ← hi]; rfl
  have hr0 : Rel P ⟨W, fun _ => False, hr.good⟩ (js.map fun j => g.getD j none) m0 W := by
    refine ⟨by simp [hs.1], ?_, ?_, fun _ _ _ => rfl, Nat.le_refl _, rfl, rfl, rfl⟩
    · intro i b gb hb hgb
      obtain ⟨j, b', hj, hmj, hcells, helem, hex, hro, hlow⟩ := hs.2 i b hb
      obtain ⟨j', hj', hgj⟩ := hget i gb hgb
      obtain rfl : j = j' := by rw [hj] at hj'; exact Option.some.inj hj'
      obtain ⟨cs, fr, hh, hf, hsz, _, hx⟩ := hr.blk j b' gb hmj hgj
      refine ⟨cs, fr, by rw [← helem]; exact hh, ?_, ?_, ?_, fun h => hx (hex h)⟩
      · rw [hcells, List.length_map] at hf
        refine F2.back (p := lowS js.length) (fun v w hp hr => SR.back (n := js.length) (fun i gb hi h => ?_) hp hr) hlow hf
        exact hg0 i gb hi (by simp only [place, if_pos hi]; exact h)
      · rw [hcells, List.length_map, helem] at hsz; exact hsz
      · intro h; rw [hro] at h; cases h
    · intro i j bi bj gi gj _ hbi _ hrw
      obtain ⟨_, _, _, _, _, _, _, hro, _⟩ := hs.2 i bi hbi
      rw [hro] at hrw; cases hrw
  have hargs0 : F2 (VR (js.map fun j => g.getD j none)) as args' := F2.back (p := low js.length) (fun v w hp hv => VR.back (n := js.length) hg0 hp hv) has hargs
  refine (h ⟨W, fun _ => False, hr.good⟩ _ W args' hr0 hargs0).mono ?_
  rintro e W' ⟨v0, v', m1, g', rfl, ⟨nb, rfl, hnb, hK⟩, hr1, hv⟩
  have hlen1 := hr1.len
  simp only [List.length_append, List.length_map] at hlen1
  have hg'l : g'.length = nb.length := by have := hs.1; omega
  have hρ : ∀ (i : Nat) (gb : GB), ((js.map fun j => g.getD j none) ++ g')[i]? = some (some gb) → (g ++ g')[place js m.length i]? = some (some gb) := by
    intro i gb hi
    by_cases hlt : i < js.length
    · rw [List.getElem?_append_left (by simpa using hlt)] at hi
      obtain ⟨j, hj, hgj⟩ := hget i gb hi
      simp only [place, if_pos hlt]
      rw [List.getD_eq_getElem?_getD, hj]
      exact getElem?_app hgj
    · rw [List.getElem?_append_right (by simpa using Nat.le_of_not_lt hlt)] at hi
      simp only [List.length_map] at hi
      simp only [place, if_neg hlt]
      rw [List.getElem?_append_right (by rw [hr.len]; omega), hr.len, show m.length + (i - js.length) - m.length = i - js.length from by omega]
      exact hi
  have hold : ∀ k, k < W.heap.size → W'.heap[k]? = W.heap[k]? := fun k hk => hr1.frame k hk (fun h => h)
  have hlt : ∀ (j : Nat) (b : ABlk) (gb : GB), m[j]? = some (some b) → g[j]? = some (some gb) → gb.b < W.heap.size := by
    intro j b gb hj hg
    obtain ⟨cs, fr, hh, _⟩ := hr.blk j b gb hj hg
    rcases Nat.lt_or_ge gb.b W.heap.size with h' | h'
    · exact h'
    · rw [Array.getElem?_eq_none h'] at hh; cases hh
  have split : ∀ (j : Nat) (b : ABlk) (gb : GB), (m ++ nb.map fun b => some (renBlk (place js m.length) b))[j]? = some (some b) → (g ++ g')[j]? = some (some gb) →
      (m[j]? = some (some b) ∧ g[j]? = some (some gb)) ∨ ∃ b0, b = renBlk (place js m.length) b0 ∧ m.length ≤ j ∧ (m0 ++ nb.map some)[js.length + (j - m.length)]? = some (some b0) ∧ ((js.map fun j => g.getD j none) ++ g')[js.length + (j - m.length)]? = some (some gb) ∧ b0.rw = true := by
    intro j b gb hj hgb
    rcases Nat.lt_or_ge j m.length with hl | hl
    · rw [List.getElem?_append_left hl] at hj
      rw [List.getElem?_append_left (by rw [hr.len]; exact hl)] at hgb
      exact .inl ⟨hj, hgb⟩
    · rw [List.getElem?_append_right hl, List.getElem?_map] at hj
      rw [List.getElem?_append_right (by rw [hr.len]; exact hl), hr.len] at hgb
      cases hb0 : nb[j - m.length]? with
      | none => rw [hb0] at hj; cases hj
      | some b0 =>
        rw [hb0] at hj
        simp only [Option.map_some, Option.some.injEq] at hj
        refine .inr ⟨b0, hj.symm, hl, ?_, ?_, List.all_eq_true.1 hnb b0 (List.mem_of_getElem? hb0)⟩
        · rw [List.getElem?_append_right (by rw [hs.1]; omega), hs.1, show js.length + (j - m.length) - js.length = j - m.length from by omega, List.getElem?_map, hb0]; rfl
        · rw [List.getElem?_append_right (by simp), List.length_map, show js.length + (j - m.length) - js.length = j - m.length from by omega]; exact hgb
  refine ⟨ren (place js m.length) v0, v', _, g', rfl, ⟨v0, nb, hK, rfl, rfl⟩, ?_, hv.ren hρ⟩
  refine ⟨by simp [hr.len, hg'l], ?_, ?_, ?_, Nat.le_trans hr.size hr1.size, hr1.os.trans hr.os, hr1.tape.trans hr.tape, hr1.output.trans hr.output⟩
  · intro j b gb hj hgb
    rcases split j b gb hj hgb with ⟨hj, hgb⟩ | ⟨b0, rfl, hl, hb0, hgb0, hrw0⟩
    · obtain ⟨cs, fr, hh, hf, rest⟩ := hr.blk j b gb hj hgb
      exact ⟨cs, fr, by rw [hold _ (hlt j b gb hj hgb)]; exact hh, hf.imp fun _ _ h => h.app, rest⟩
    · obtain ⟨cs, fr, hh, hf, hsz, hown, hex⟩ := hr1.blk _ b0 gb hb0 hgb0
      refine ⟨cs, fr, hh, ?_, by simpa [renBlk] using hsz, fun h => ?_, hex⟩
      · simp only [renBlk, List.length_map]
        have := hf.map (S := SR (g ++ g')) (f := renS (place js m.length)) (f' := id) fun _ _ h' => h'.ren hρ
        simpa using this
      · obtain ⟨h1, h2⟩ := hown hrw0
        refine ⟨h1, .inl ?_⟩
        rcases h2 with h2 | h2
        · exact Nat.le_trans hr.size h2
        · exact h2.elim
  · intro p q bp bq gp gq hne hp hq hrwp hgp hgq
    have above : ∀ (j : Nat) (b0 : ABlk) (gb : GB), (m0 ++ nb.map some)[j]? = some (some b0) → ((js.map fun j => g.getD j none) ++ g')[j]? = some (some gb) → b0.rw = true → W.heap.size ≤ gb.b := by
      intro j b0 gb hb hg hrw
      obtain ⟨_, _, _, _, _, hown, _⟩ := hr1.blk j b0 gb hb hg
      rcases (hown hrw).2 with h | h
      · exact h
      · exact h.elim
    rcases split p bp gp hp hgp with ⟨hp, hgp⟩ | ⟨b0, rfl, hl, hb0, hgb0, hrw0⟩ <;> rcases split q bq gq hq hgq with ⟨hq, hgq⟩ | ⟨b1, rfl, hl1, hb1, hgb1, hrw1⟩
    · exact hr.inj p q bp bq gp gq hne hp hq hrwp hgp hgq
    · have h1 := hlt p bp gp hp hgp
      have h2 := above _ b1 gq hb1 hgb1 hrw1
      omega
    · have h1 := hlt q bq gq hq hgq
      have h2 := above _ b0 gp hb0 hgb0 hrw0
      omega
    · exact hr1.inj _ _ b0 b1 gp gq (by omega) hb0 hb1 hrw0 hgb0 hgb1
  · intro k hk hF
    rw [hold k (Nat.lt_of_lt_of_le hk hr.size), hr.frame k hk hF]
end Go.AE
