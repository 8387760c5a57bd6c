/-
  slices.Sort and slices.Compact at the names of all operations; what must be whatever is asked of opcodes. Conditions: none.
-/
import Derived.Test.YtciemdpcllpdkaaDoorOpI
import Derived.Test.YtciemdpcllpdkaaDoorDf
import Derived.Test.YtciemdpcllpdkaaDoorShelfB
import Derived.Sort.KeysCollected
import Derived.Lib.SlicesCompact
set_option linter.unusedSectionVars false
set_option linter.unusedVariables false
set_option linter.unusedSimpArgs false
namespace Go.Proofs.YtciemdpcllpdkaaDoor
open Go Go.AE Go.SX Go.RowKit Go.Sort
set_option maxRecDepth 1000000
/-- A block that may be written holds other cells now. -/
theorem setRow_rel {c : Ctx} {g : List (Option GB)} {m : Mem} {W W' : World} (h : Rel Tryd.prog c g m W) {j : Nat} {b : ABlk} {gb : GB} (hj : m[j]? = some (some b)) (hg : g[j]? = some (some gb)) (hrw : b.rw = true)
    {cs cs' : Array Value} {el : TypeId} {fr : Nat × Nat} (hh : W.heap[gb.b]? = some (.cells cs el fr)) (hh' : W'.heap[gb.b]? = some (.cells cs' el fr)) (hsz : cs'.size = cs.size) (hoth : ∀ k, k ≠ gb.b → k < W.heap.size → W'.heap[k]? = W.heap[k]?)
    (hs : W.heap.size ≤ W'.heap.size) (ho : W'.os = W.os) (ht : W'.tape = W.tape) (hu : W'.output = W.output) {nc : List Value} (hnl : nc.length = b.cells.length) (hf : F2 (SR g) nc (cs'.toList.take nc.length)) :
    Rel Tryd.prog c g (m.set j (some { b with cells := nc })) W' := by
  obtain ⟨cs0, fr0, hh0, hf0, hsz0, hr, hnr⟩ := h.blk j b gb hj hg
  obtain ⟨f1, f2⟩ := fr0
  rw [hh] at hh0
  simp only [Option.some.injEq, Obj.cells.injEq] at hh0
  obtain ⟨rfl, rfl, rfl⟩ := hh0
  obtain ⟨hfr, hown, hbase, hszz⟩ := hr hrw
  have hjl : j < m.length := lt_of_getElem? hj
  have lt_ : ∀ {k : Nat} {o : Obj}, W.heap[k]? = some o → k < W.heap.size := fun {k} {o} hk => (Array.getElem?_eq_some_iff.1 hk).1
  refine ⟨by simp [h.len], ?_, ?_, ?_, ?_, ho.trans h.os, ht.trans h.tape, hu.trans h.output, ?_, ?_⟩
  rotate_right
  · intro j' b' gb' hj' hg' h1 h2
    rw [List.getElem?_set] at hj'
    by_cases e : j = j'
    · subst e
      rw [if_pos rfl, if_pos hjl] at hj'
      simp only [Option.some.injEq] at hj'
      subst hj'
      exact h.ro j b gb' hj hg' h1 h2
    · rw [if_neg e] at hj'
      exact h.ro j' b' gb' hj' hg' h1 h2
  rotate_right
  · refine h.objs.keep h.size hs ?_ ?_
    · intro j' b' gb' hj' hg'
      rw [List.getElem?_set] at hj'
      by_cases e : j = j'
      · subst e
        rw [if_pos rfl, if_pos hjl] at hj'
        simp only [Option.some.injEq] at hj'
        subst hj'
        exact .inl ⟨b, hj, rfl, rfl, hg'⟩
      · rw [if_neg e] at hj'
        exact .inl ⟨b', hj', rfl, rfl, hg'⟩
    · intro k hk
      by_cases e : k = gb.b
      · exact .inr ⟨e ▸ hown, j, b, gb, hj, h.noOb hj hg hrw, hg, e.symm⟩
      · exact .inl (hoth k e hk)
  · intro j' b' gb' hj' hg'
    rw [List.getElem?_set] at hj'
    by_cases e : j = j'
    · subst e
      rw [if_pos rfl, if_pos hjl] at hj'
      simp only [Option.some.injEq] at hj'
      subst hj'
      obtain rfl : gb = gb' := by rw [hg] at hg'; exact Option.some.inj (Option.some.inj hg')
      refine ⟨cs', (el, fr), hh', ?_, ?_, fun _ => ⟨hfr, hown, hbase, ?_⟩, hnr⟩
      · rw [hbase, List.drop_zero]; exact hf
      · show gb.base + nc.length ≤ cs'.size
        rw [hsz, hnl]; exact hsz0
      · show nc.length + _ ≤ cs'.size
        rw [hsz, hnl]; exact hszz
    · rw [if_neg e] at hj'
      obtain ⟨cs2, fr2, hh2, rest⟩ := h.blk j' b' gb' hj' hg'
      refine ⟨cs2, fr2, ?_, rest⟩
      rw [hoth _ (Ne.symm (h.inj j j' b b' gb gb' e hj hj' hrw hg hg')) (lt_ hh2), hh2]
  · intro p q bp bq gp gq hne hp hq hrwp hgp hgq
    have get : ∀ (k : Nat) (bk : ABlk), (m.set j (some { b with cells := nc }))[k]? = some (some bk) → ∃ bk' : ABlk, m[k]? = some (some bk') ∧ bk'.rw = bk.rw := by
      intro k bk hk
      rw [List.getElem?_set] at hk
      by_cases e : j = k
      · subst e
        rw [if_pos rfl, if_pos hjl] at hk
        simp only [Option.some.injEq] at hk
        subst hk
        exact ⟨b, hj, rfl⟩
      · rw [if_neg e] at hk
        exact ⟨bk, hk, rfl⟩
    obtain ⟨bp', hp', ep⟩ := get p bp hp
    obtain ⟨bq', hq', _⟩ := get q bq hq
    exact h.inj p q bp' bq' gp gq hne hp' hq' (ep ▸ hrwp) hgp hgq
  · intro k hk hF
    rw [hoth k ?_ (Nat.lt_of_lt_of_le hk h.size), h.frame k hk hF]
    intro e
    subst e
    rcases hown with h1 | h1
    · omega
    · exact hF h1
  · exact Nat.le_trans h.size hs

section
variable [Fam]
/-- Cells of strings. -/
def strCs (ss : List (List UInt8)) : List SS := ss.map fun s => .z (.s (.s s))
theorem strCs_den (e : En) (ss : List (List UInt8)) : (strCs ss).map (SS.den e) = ss.map encStr := by
  unfold strCs
  rw [List.map_map]
  exact List.map_congr_left fun _ _ => rfl
def strsC : List SS → Option (List (List UInt8))
  | [] => some []
  | .z (.s (.s s)) :: l => (strsC l).map (s :: ·)
  | _ => none
theorem strsC_den (e : En) : ∀ {l : List SS} {ss : List (List UInt8)}, strsC l = some ss → l.map (SS.den e) = ss.map encStr
  | [], _, h => by cases h; rfl
  | .z (.s (.s s)) :: l, _, h => by
    obtain ⟨w, hw, rfl⟩ := map_some h
    rw [List.map_cons, List.map_cons, strsC_den e hw]; rfl
theorem enc_sr (g : List (Option GB)) : ∀ ss : List (List UInt8), F2 (SR g) (ss.map encStr) (ss.map encStr)
  | [] => .nil
  | s :: ss => .cons (.str _) (enc_sr g ss)
def eqSs : List (List UInt8) → List (List UInt8) → Bool
  | [], [] => true
  | a :: l, b :: m => eqBs a b && eqSs l m
  | _, _ => false
theorem eqSs_eq : ∀ {a b : List (List UInt8)}, eqSs a b = true → a = b
  | [], [], _ => rfl
  | a :: l, b :: m, h => by
    simp only [eqSs, Bool.and_eq_true] at h
    rw [eqBs_eq h.1, eqSs_eq h.2]
  | [], _ :: _, h => by cases h
  | _ :: _, [], h => by cases h
/-- What a row of strings holds, seen in the world. -/
theorem holds_of {c : Ctx} {g : List (Option GB)} {m : Mem} {W : World} (hr : Rel Tryd.prog c g m W) {j : Nat} {b : ABlk} {gb : GB} (hj : m[j]? = some (some b)) (hg : g[j]? = some (some gb)) (hrw : b.rw = true) {ss : List (List UInt8)} (hc : b.cells = ss.map encStr) :
    Holds encStr W gb.b 0 ss.toArray ∧ ∃ cs, W.heap[gb.b]? = some (.cells cs b.elem (0, 0)) ∧ ss.length ≤ cs.size := by
  obtain ⟨cs, fr, hh, hf, hsz, hw, _⟩ := hr.blk j b gb hj hg
  obtain ⟨hfr, _, hbase, _⟩ := hw hrw
  obtain ⟨f1, f2⟩ := fr
  cases hfr
  have hl : ss.length ≤ cs.size := by rw [hc, List.length_map, hbase] at hsz; omega
  refine ⟨fun k hk => ⟨?_, ?_⟩, cs, hh, hl⟩
  · have hk' : k < ss.length := by simpa using hk
    have hci : b.cells[k]? = some (encStr ss[k]) := by rw [hc, List.getElem?_map, List.getElem?_eq_getElem hk']; rfl
    obtain ⟨w, hw1, hw2⟩ := hr.cell hj hg hci
    rw [hbase] at hw1
    rw [hw1, SR.plain_eq rfl hw2]
    simp [hk']
  · have := hr.frozen hj hg hrw (0 + k)
    exact this
theorem putRow_at {W : World} {blk : Nat} {cs : Array Value} {el : TypeId} {fr : Nat × Nat} (hh : W.heap[blk]? = some (.cells cs el fr)) (ss : List (List UInt8)) (k : Nat) :
    (putRow encStr W blk 0 ss.toArray).heap[k]? = if blk = k then some (.cells (putCells encStr 0 ss.toArray cs) el fr) else W.heap[k]? := by
  simp only [putRow, mapBlock, Array.getElem?_modify]
  split
  · rename_i e; subst e; rw [hh]; rfl
  · rfl
theorem putCells_take {cs : Array Value} {ss : List (List UInt8)} (hl : ss.length ≤ cs.size) : (putCells encStr 0 ss.toArray cs).toList.take ss.length = ss.map encStr := by
  apply List.ext_getElem?
  intro k
  rw [List.getElem?_take]
  split
  · rename_i hk
    rw [Array.getElem?_toList]
    simp only [putCells, Array.getElem?_mapIdx]
    have h1 : k < cs.size := by omega
    rw [Array.getElem?_eq_getElem h1, List.getElem?_map, List.getElem?_eq_getElem hk]
    simp [hk]
  · rename_i hk
    rw [List.getElem?_eq_none (by rw [List.length_map]; omega)]
/-- The world behind a row that is written anew. -/
theorem put_rel {c : Ctx} {g : List (Option GB)} {m : Mem} {W W1 W2 : World} (hr : Rel Tryd.prog c g m W) {j : Nat} {b : ABlk} {gb : GB} (hj : m[j]? = some (some b)) (hg : g[j]? = some (some gb)) (hrw : b.rw = true) {ss : List (List UInt8)} (hlen : ss.length = b.cells.length) {cs : Array Value} (hh : W.heap[gb.b]? = some (.cells cs b.elem (0, 0))) (hl : ss.length ≤ cs.size)
    (h1 : W1.heap = W.heap ∧ W1.os = W.os ∧ W1.tape = W.tape ∧ W1.output = W.output) {os : Array Obj} (h2 : W2.heap = (putRow encStr W1 gb.b 0 ss.toArray).heap ++ os ∧ W2.os = W1.os ∧ W2.tape = W1.tape ∧ W2.output = W1.output) :
    Rel Tryd.prog c g (m.set j (some { b with cells := ss.map encStr })) W2 := by
  obtain ⟨e1, e2, e3, e4⟩ := h1
  have hh1 : W1.heap[gb.b]? = some (.cells cs b.elem (0, 0)) := by rw [e1]; exact hh
  have hsz : (putRow encStr W1 gb.b 0 ss.toArray).heap.size = W.heap.size := by
    simp only [putRow, mapBlock, Array.size_modify, e1]
  have hgt : gb.b < W.heap.size := (Array.getElem?_eq_some_iff.1 hh).1
  have hat : ∀ k, k < W.heap.size → W2.heap[k]? = (putRow encStr W1 gb.b 0 ss.toArray).heap[k]? := by
    intro k hk
    rw [h2.1, Array.getElem?_append_left (by rw [hsz]; exact hk)]
  refine setRow_rel hr hj hg hrw (cs := cs) (cs' := putCells encStr 0 ss.toArray cs) hh ?_ ?_ ?_ ?_ ?_ ?_ ?_ ?_ ?_
  · rw [hat _ hgt, putRow_at hh1, if_pos rfl]
  · simp [putCells]
  · intro k hne hk
    rw [hat _ hk, putRow_at hh1, if_neg (Ne.symm hne), e1]
  · rw [h2.1, Array.size_append, hsz]; omega
  · exact h2.2.1.trans e2
  · exact h2.2.2.1.trans e3
  · exact h2.2.2.2.trans e4
  · rw [List.length_map]; exact hlen
  · rw [List.length_map, putCells_take hl]; exact enc_sr _ _
/-! slices.Sort. -/
def conSortAt (s0 s1 : List (List UInt8)) : ConF := fun g args m => match args with
  | [.a (.s (.z (.sl j (.i o) w c (.i n) cap)))] => (match m[j]? with
    | some (some b) => (match b.c with
      | .cs l => (match strsC l with
        | some ss => bif b.w && (Nat.beq (o.toNat * w + c) 0 && (Nat.beq ss.length n.toNat && eqSs ss s0)) then some ([], .tu [], m.set j (some { b with c := .cs (strCs s1) })) else none
        | none => none)
      | _ => none)
    | _ => none)
  | _ => none
theorem conSortAt_ok {s0 s1 : List (List UInt8)} (hs : (s0.mergeSort fun x y => decide (x ≤ y)) = s1) (hb : s0.length ≤ 100000) (h0 : 0 < s0.length) : Con Tryd.prog 72 (conSortAt s0 s1) := by
  intro g args m ns v m' e hf hg hn
  unfold conSortAt at hf
  split at hf
  case h_2 => cases hf
  rename_i j o w c n cap
  split at hf
  case h_2 => cases hf
  rename_i b hb'
  split at hf
  case h_2 => cases hf
  rename_i l hbc
  split at hf
  case h_2 => cases hf
  rename_i ss hss
  cases hq : b.w && (Nat.beq (o.toNat * w + c) 0 && (Nat.beq ss.length n.toNat && eqSs ss s0)) with
  | false => rw [hq] at hf; cases hf
  | true =>
    rw [hq] at hf
    cases hf
    simp only [Bool.and_eq_true] at hq
    obtain ⟨hw, hoff, hlen, heq⟩ := hq
    have hoff := Nat.eq_of_beq_eq_true hoff
    have hlen := Nat.eq_of_beq_eq_true hlen
    obtain rfl := eqSs_eq heq
    have hbm := denM_get (e := e) hb'
    have hcells : (b.den e).cells = ss.map encStr := by show b.c.den e = _; rw [hbc]; exact strsC_den e hss
    have hl1 : s1.length = ss.length := by rw [← hs]; exact List.length_mergeSort ss
    have hm2 : denM e (m.set j (some { b with c := .cs (strCs s1) })) = (denM e m).set j (some { b.den e with cells := s1.map encStr }) := by
      unfold denM
      rw [List.map_set]
      have h1 : (SC.cs (strCs s1)).den e = s1.map encStr := strCs_den e s1
      have h2 : b.c.obj e = none := by rw [hbc]; rfl
      show (m.map _).set j (some (ABlk.mk ((SC.cs (strCs s1)).den e) b.elem b.w b.ex none)) = (m.map _).set j (some (ABlk.mk (s1.map encStr) b.elem b.w b.ex (b.c.obj e)))
      rw [h1, h2]
    rw [hm2]
    intro cx g' W args' hr ha
    cases ha with | cons h1 h2 => cases h2 with
    | nil =>
      rename_i y1
      have h1 : VR g' (.slice (some ⟨j, o.toNat * w + c, none⟩) n.toNat (cap.I e).toNat) y1 := h1
      rw [hoff, ← hlen] at h1
      cases h1 with
      | a h1 => cases h1 with
        | s h1 =>
          generalize hk : ss.length = kk at h1
          generalize hc0 : (cap.I e).toNat = cc at h1
          cases h1 with
          | slice _ _ _ _ gb hgb =>
            subst hk
            obtain ⟨hH, cs, hh, hl⟩ := holds_of hr hbm hgb hw hcells
            have hgt : gb.b < W.heap.size := (Array.getElem?_eq_some_iff.1 hh).1
            have hbase := hr.base0 hbm hgb hw
            have key := Tryd.slices_Sort_string gb.b 0 (cc + gb.extra) ss W hH hgt (by omega)
            rw [hs] at key
            have e0 : gb.base + 0 = 0 := by omega
            show Calls _ _ #[.slice (some ⟨gb.b, gb.base + 0, none⟩) ss.length (cc + gb.extra)] W _
            rw [e0]
            refine key.mono ?_
            rintro e' W' ⟨rfl, nn, os, rfl⟩
            refine ⟨.tuple ⟨[]⟩, _, _, [], rfl, ⟨rfl, rfl⟩, ?_, .tup .nil⟩
            rw [List.append_nil]
            exact put_rel (W1 := Sort.ahead W nn) hr hbm hgb hw (by rw [hl1, hcells, List.length_map]) hh (by rw [hl1]; exact hl) ⟨rfl, rfl, rfl, rfl⟩ (os := os) ⟨rfl, rfl, rfl, rfl⟩
          | nilS _ _ a hj => omega
/-! slices.Compact. -/
def conCompAt (s0 s1 : List (List UInt8)) : ConF := fun g args m => match args with
  | [.a (.s (.z (.sl j (.i o) w c (.i n) cap)))] => (match m[j]? with
    | some (some b) => (match b.c with
      | .cs l => (match strsC l with
        | some ss => bif b.w && (Nat.beq (o.toNat * w + c) 0 && (Nat.beq ss.length n.toNat && eqSs ss s0)) then some ([mkNot (mkLt g cap (.i n))], .z (.sl j (.i 0) 0 0 (.i (s1.length : Nat)) cap), m.set j (some { b with c := .cs (strCs (s1 ++ List.replicate (s0.length - s1.length) [])) })) else none
        | none => none)
      | _ => none)
    | _ => none)
  | _ => none
theorem conCompAt_ok {s0 s1 : List (List UInt8)} (hs : Lib.compact s0 = s1) (hb : s0.length ≤ 100000) (h0 : 0 < s0.length) : Con Tryd.prog 73 (conCompAt s0 s1) := by
  intro g args m ns v m' e hf hg hn
  unfold conCompAt at hf
  split at hf
  case h_2 => cases hf
  rename_i j o w c n cap
  split at hf
  case h_2 => cases hf
  rename_i b hb'
  split at hf
  case h_2 => cases hf
  rename_i l hbc
  split at hf
  case h_2 => cases hf
  rename_i ss hss
  cases hq : b.w && (Nat.beq (o.toNat * w + c) 0 && (Nat.beq ss.length n.toNat && eqSs ss s0)) with
  | false => rw [hq] at hf; cases hf
  | true =>
    rw [hq] at hf
    cases hf
    simp only [Bool.and_eq_true] at hq
    obtain ⟨hw, hoff, hlen, heq⟩ := hq
    have hoff := Nat.eq_of_beq_eq_true hoff
    have hlen := Nat.eq_of_beq_eq_true hlen
    obtain rfl := eqSs_eq heq
    simp only [allB_cons, mkNot_B, mkLt_B hg, Bool.not_eq_true', decide_eq_false_iff_not] at hn
    have hcap : ¬ cap.I e < n := hn.1
    have hbm := denM_get (e := e) hb'
    have hcells : (b.den e).cells = ss.map encStr := by show b.c.den e = _; rw [hbc]; exact strsC_den e hss
    have hle := Lib.compact_length_le ss
    rw [hs] at hle
    obtain ⟨t, ht⟩ : ∃ t, s1 ++ List.replicate (ss.length - s1.length) [] = t := ⟨_, rfl⟩
    have htl : t.length = ss.length := by rw [← ht]; simp; omega
    have hm2 : denM e (m.set j (some { b with c := .cs (strCs (s1 ++ List.replicate (ss.length - s1.length) [])) })) = (denM e m).set j (some { b.den e with cells := t.map encStr }) := by
      rw [ht]
      unfold denM
      rw [List.map_set]
      have h1 : (SC.cs (strCs t)).den e = t.map encStr := strCs_den e t
      have h2 : b.c.obj e = none := by rw [hbc]; rfl
      show (m.map _).set j (some (ABlk.mk ((SC.cs (strCs t)).den e) b.elem b.w b.ex none)) = (m.map _).set j (some (ABlk.mk (t.map encStr) b.elem b.w b.ex (b.c.obj e)))
      rw [h1, h2]
    rw [hm2]
    intro cx g' W args' hr ha
    cases ha with | cons h1 h2 => cases h2 with
    | nil =>
      rename_i y1
      have h1 : VR g' (.slice (some ⟨j, o.toNat * w + c, none⟩) n.toNat (cap.I e).toNat) y1 := h1
      rw [hoff, ← hlen] at h1
      have hcn : ss.length ≤ (cap.I e).toNat := by omega
      cases h1 with
      | a h1 => cases h1 with
        | s h1 =>
          generalize hk : ss.length = kk at h1
          generalize hc0 : (cap.I e).toNat = cc at h1 hcn
          cases h1 with
          | slice _ _ _ _ gb hgb =>
            subst hk
            obtain ⟨hH, cs, hh, hl⟩ := holds_of hr hbm hgb hw hcells
            have hbase := hr.base0 hbm hgb hw
            have key := Tryd.slices_Compact_string gb.b 0 (cc + gb.extra) ss W hH (by omega) (by omega)
            rw [hs, ht] at key
            have e0 : gb.base + 0 = 0 := by omega
            show Calls _ _ #[.slice (some ⟨gb.b, gb.base + 0, none⟩) ss.length (cc + gb.extra)] W _
            rw [e0]
            refine key.mono ?_
            rintro e' W' ⟨rfl, nn, rfl⟩
            refine ⟨.slice (some ⟨j, 0, none⟩) s1.length cc, _, _, [], rfl, ⟨?_, rfl⟩, ?_, ?_⟩
            · subst hc0; rfl
            · rw [List.append_nil]
              exact put_rel (W1 := Sort.ahead W nn) (os := #[]) hr hbm hgb hw (by rw [htl, hcells, List.length_map]) hh (by rw [htl]; exact hl) ⟨rfl, rfl, rfl, rfl⟩ ⟨Array.append_empty.symm, rfl, rfl, rfl⟩
            · rw [List.append_nil]
              have := SR.slice (g := g') j 0 s1.length cc gb hgb
              rw [e0] at this
              exact .s this
          | nilS _ _ a hj => omega
end
/-- The names of all known bytes, sorted. -/
def sortedN : List (List UInt8) := [
  [65, 68, 67], [65, 68, 67], [65, 68, 67], [65, 68, 67], [65, 68, 67], [65, 68, 67], [65, 68, 67], [65, 68, 67], [65, 68, 67], [65, 78, 68], [65, 78, 68], [65, 78, 68], [65, 78, 68], [65, 78, 68],
  [65, 78, 68], [65, 78, 68], [65, 78, 68], [65, 78, 68], [65, 83, 76], [65, 83, 76], [65, 83, 76], [65, 83, 76], [65, 83, 76], [66, 66, 82, 48], [66, 66, 82, 49], [66, 66, 82, 50], [66, 66, 82, 51],
  [66, 66, 82, 52], [66, 66, 82, 53], [66, 66, 82, 54], [66, 66, 82, 55], [66, 66, 83, 48], [66, 66, 83, 49], [66, 66, 83, 50], [66, 66, 83, 51], [66, 66, 83, 52], [66, 66, 83, 53], [66, 66, 83, 54],
  [66, 66, 83, 55], [66, 67, 67], [66, 67, 83], [66, 69, 81], [66, 73, 84], [66, 73, 84], [66, 73, 84], [66, 73, 84], [66, 73, 84], [66, 77, 73], [66, 78, 69], [66, 80, 76], [66, 82, 65],
  [66, 82, 75], [66, 83, 82], [66, 86, 67], [66, 86, 83], [67, 76, 65], [67, 76, 67], [67, 76, 68], [67, 76, 73], [67, 76, 86], [67, 76, 88], [67, 76, 89], [67, 77, 80], [67, 77, 80], [67, 77, 80],
  [67, 77, 80], [67, 77, 80], [67, 77, 80], [67, 77, 80], [67, 77, 80], [67, 77, 80], [67, 80, 88], [67, 80, 88], [67, 80, 88], [67, 80, 89], [67, 80, 89], [67, 80, 89], [67, 83, 72], [67, 83, 76],
  [68, 69, 67], [68, 69, 67], [68, 69, 67], [68, 69, 67], [68, 69, 67], [68, 69, 88], [68, 69, 89], [69, 79, 82], [69, 79, 82], [69, 79, 82], [69, 79, 82], [69, 79, 82], [69, 79, 82], [69, 79, 82],
  [69, 79, 82], [69, 79, 82], [73, 78, 67], [73, 78, 67], [73, 78, 67], [73, 78, 67], [73, 78, 67], [73, 78, 88], [73, 78, 89], [74, 77, 80], [74, 77, 80], [74, 77, 80], [74, 83, 82], [76, 68, 65],
  [76, 68, 65], [76, 68, 65], [76, 68, 65], [76, 68, 65], [76, 68, 65], [76, 68, 65], [76, 68, 65], [76, 68, 65], [76, 68, 88], [76, 68, 88], [76, 68, 88], [76, 68, 88], [76, 68, 88], [76, 68, 89],
  [76, 68, 89], [76, 68, 89], [76, 68, 89], [76, 68, 89], [76, 83, 82], [76, 83, 82], [76, 83, 82], [76, 83, 82], [76, 83, 82], [78, 79, 80], [79, 82, 65], [79, 82, 65], [79, 82, 65], [79, 82, 65],
  [79, 82, 65], [79, 82, 65], [79, 82, 65], [79, 82, 65], [79, 82, 65], [80, 72, 65], [80, 72, 80], [80, 72, 88], [80, 72, 89], [80, 76, 65], [80, 76, 80], [80, 76, 88], [80, 76, 89],
  [82, 77, 66, 48], [82, 77, 66, 49], [82, 77, 66, 50], [82, 77, 66, 51], [82, 77, 66, 52], [82, 77, 66, 53], [82, 77, 66, 54], [82, 77, 66, 55], [82, 79, 76], [82, 79, 76], [82, 79, 76],
  [82, 79, 76], [82, 79, 76], [82, 79, 82], [82, 79, 82], [82, 79, 82], [82, 79, 82], [82, 79, 82], [82, 84, 73], [82, 84, 83], [83, 65, 88], [83, 65, 89], [83, 66, 67], [83, 66, 67], [83, 66, 67],
  [83, 66, 67], [83, 66, 67], [83, 66, 67], [83, 66, 67], [83, 66, 67], [83, 66, 67], [83, 69, 67], [83, 69, 68], [83, 69, 73], [83, 69, 84], [83, 77, 66, 48], [83, 77, 66, 49], [83, 77, 66, 50],
  [83, 77, 66, 51], [83, 77, 66, 52], [83, 77, 66, 53], [83, 77, 66, 54], [83, 77, 66, 55], [83, 84, 48], [83, 84, 49], [83, 84, 50], [83, 84, 65], [83, 84, 65], [83, 84, 65], [83, 84, 65],
  [83, 84, 65], [83, 84, 65], [83, 84, 65], [83, 84, 65], [83, 84, 88], [83, 84, 88], [83, 84, 88], [83, 84, 89], [83, 84, 89], [83, 84, 89], [83, 84, 90], [83, 84, 90], [83, 84, 90], [83, 84, 90],
  [83, 88, 89], [84, 65, 73], [84, 65, 77], [84, 65, 88], [84, 65, 89], [84, 68, 68], [84, 73, 65], [84, 73, 73], [84, 73, 78], [84, 77, 65], [84, 82, 66], [84, 82, 66], [84, 83, 66], [84, 83, 66],
  [84, 83, 84], [84, 83, 84], [84, 83, 84], [84, 83, 84], [84, 83, 88], [84, 88, 65], [84, 88, 83], [84, 89, 65]]
/-- Each once. -/
def namesL : List (List UInt8) := [
  [65, 68, 67], [65, 78, 68], [65, 83, 76], [66, 66, 82, 48], [66, 66, 82, 49], [66, 66, 82, 50], [66, 66, 82, 51], [66, 66, 82, 52], [66, 66, 82, 53], [66, 66, 82, 54], [66, 66, 82, 55],
  [66, 66, 83, 48], [66, 66, 83, 49], [66, 66, 83, 50], [66, 66, 83, 51], [66, 66, 83, 52], [66, 66, 83, 53], [66, 66, 83, 54], [66, 66, 83, 55], [66, 67, 67], [66, 67, 83], [66, 69, 81],
  [66, 73, 84], [66, 77, 73], [66, 78, 69], [66, 80, 76], [66, 82, 65], [66, 82, 75], [66, 83, 82], [66, 86, 67], [66, 86, 83], [67, 76, 65], [67, 76, 67], [67, 76, 68], [67, 76, 73], [67, 76, 86],
  [67, 76, 88], [67, 76, 89], [67, 77, 80], [67, 80, 88], [67, 80, 89], [67, 83, 72], [67, 83, 76], [68, 69, 67], [68, 69, 88], [68, 69, 89], [69, 79, 82], [73, 78, 67], [73, 78, 88], [73, 78, 89],
  [74, 77, 80], [74, 83, 82], [76, 68, 65], [76, 68, 88], [76, 68, 89], [76, 83, 82], [78, 79, 80], [79, 82, 65], [80, 72, 65], [80, 72, 80], [80, 72, 88], [80, 72, 89], [80, 76, 65], [80, 76, 80],
  [80, 76, 88], [80, 76, 89], [82, 77, 66, 48], [82, 77, 66, 49], [82, 77, 66, 50], [82, 77, 66, 51], [82, 77, 66, 52], [82, 77, 66, 53], [82, 77, 66, 54], [82, 77, 66, 55], [82, 79, 76],
  [82, 79, 82], [82, 84, 73], [82, 84, 83], [83, 65, 88], [83, 65, 89], [83, 66, 67], [83, 69, 67], [83, 69, 68], [83, 69, 73], [83, 69, 84], [83, 77, 66, 48], [83, 77, 66, 49], [83, 77, 66, 50],
  [83, 77, 66, 51], [83, 77, 66, 52], [83, 77, 66, 53], [83, 77, 66, 54], [83, 77, 66, 55], [83, 84, 48], [83, 84, 49], [83, 84, 50], [83, 84, 65], [83, 84, 88], [83, 84, 89], [83, 84, 90],
  [83, 88, 89], [84, 65, 73], [84, 65, 77], [84, 65, 88], [84, 65, 89], [84, 68, 68], [84, 73, 65], [84, 73, 73], [84, 73, 78], [84, 77, 65], [84, 82, 66], [84, 83, 66], [84, 83, 84], [84, 83, 88],
  [84, 88, 65], [84, 88, 83], [84, 89, 65]]
def namesB : List (List UInt8) := (uptoB 256).map fun b => (opR b).name
def chain : List (List UInt8) → Bool
  | [] => true
  | x :: l => match l with
    | [] => true
    | y :: _ => leB x y && chain l
theorem leB_trans {a b c : List UInt8} (h1 : leB a b = true) (h2 : leB b c = true) : leB a c = true := by
  simp only [leB, decide_eq_true_eq] at *
  exact List.le_trans h1 h2
theorem chain_pair : ∀ l : List (List UInt8), chain l = true → l.Pairwise fun a b => leB a b = true
  | [], _ => .nil
  | [x], _ => List.pairwise_cons.2 ⟨fun y hy => (by cases hy), .nil⟩
  | x :: y :: l, h => by
    simp only [chain, Bool.and_eq_true] at h
    have ih := chain_pair (y :: l) h.2
    refine List.pairwise_cons.2 ⟨fun z hz => ?_, ih⟩
    rcases List.mem_cons.1 hz with rfl | hz
    · exact h.1
    · exact leB_trans h.1 ((List.pairwise_cons.1 ih).1 z hz)
theorem chainN : chain sortedN = true := by kernel_rfl
theorem permN : namesB.isPerm sortedN = true := by kernel_rfl
theorem compactN : Lib.compact sortedN = namesL := by kernel_rfl
theorem sortN : (namesB.mergeSort fun x y => decide (x ≤ y)) = sortedN := by
  have h1 : namesB.mergeSort leB = sortedN.mergeSort leB := mergeSort_of_perm (List.isPerm_iff.1 permN)
  have h2 : sortedN.mergeSort leB = sortedN := List.mergeSort_of_pairwise (chain_pair _ chainN)
  exact h1.trans h2
theorem namesB_len : namesB.length = 234 := by kernel_rfl
theorem sortedN_len : sortedN.length = 234 := by kernel_rfl
noncomputable def TO : Tab Tryd.prog := { T with
  it := fun n => bif Nat.beq n 45 then some allL else none
  it_ok := fun f vs h => by
      cases hq : Nat.beq f 45 with
      | true => (rw [hq] at h; cases h; rw [Nat.eq_of_beq_eq_true hq]; exact all_ok)
      | false => (rw [hq] at h; cases h) }
section
variable [Fam]
theorem conSrt : Con Tryd.prog 72 (conSortAt namesB sortedN) := conSortAt_ok sortN (by rw [namesB_len]; omega) (by rw [namesB_len]; omega)
theorem conCmp : Con Tryd.prog 73 (conCompAt sortedN namesL) := conCompAt_ok compactN (by rw [sortedN_len]; omega) (by rw [sortedN_len]; omega)
end
end Go.Proofs.YtciemdpcllpdkaaDoor
