/-
  What the names stand for, for the law on lines of a trace; the library's contracts. Conditions: those of the library's contracts.
-/
import Derived.Test.YtciemdpcllpdkaaDoorTlP
import Derived.Test.YtciemdpcllpdkaaDoorBase
import Derived.Test.YtciemdpcllpdkaaDoorShelfB
set_option linter.unusedSectionVars false
set_option linter.unusedVariables false
set_option linter.unusedSimpArgs false
namespace Go.Proofs.YtciemdpcllpdkaaDoor
open Go Go.AE Go.SX Go.RowKit Go.Shelf
set_option maxRecDepth 1000000
def rgL : Nat → List Bool → Rg
  | 100, [false] => ⟨some 0, some 999999999999999999⟩
  | 100, [true] => ⟨some 0, some 4⟩
  | 101, [false] => ⟨some 0, some 4294967295⟩
  | 101, [true] => ⟨some 0, some 4⟩
  | 102, [false] => ⟨some 0, some 2097151⟩
  | 102, [true] => ⟨some 0, some 3⟩
  | 105, [] => ⟨some (-1), some 8⟩
  | 112, [] => ⟨some 0, some 1⟩
  | _, _ => .top
def shL : Nat → Sh
  | 105 => .p .x .x
  | 106 => .p .i (.p .i (.p .i (.p .x .i)))
  | 108 => .i
  | _ => .x
def rdT (r : Int × Int × Int × Bool × Int × Int) : D := .p (.i r.1) (.p (.i r.2.1) (.p (.i r.2.2.1) (.p (.b r.2.2.2.1) (.p (.i r.2.2.2.2.1) (.i r.2.2.2.2.2)))))
open Classical in
noncomputable def phiL : Nat → D → D
  | 100, d => .p (.i (numI d.toS)) (.i (numE d.toS))
  | 101, d => .p (.i (hexI d.toS)) (.i (hexE d.toS))
  | 102, d => .p (.i (phI d.toS)) (.i (phE d.toS))
  | 103, d => .r (rowsS (Lib.split d.toS [32]))
  | 104, d => .r (rowsS (wordsF d.toS))
  | 105, d => .i (min (Lib.index ltF d.snd.toS) 8)
  | 106, d => .s (lnF d.fst.toI d.snd.fst.toI d.snd.snd.fst.toI d.snd.snd.snd.fst.toB d.snd.snd.snd.snd.toI)
  | 107, d => rdT (rdP d.toS)
  | 108, d => .s (decF d.toI.toNat)
  | 109, d => rdT (rdD d.toS)
  | 120, d => .s (hex2 d.toI)
  | 121, d => .s (hex4 d.toI)
  | 112, d => .i (if sharpB d.toS = true then 1 else 0)
  | 113, d => .s d.toS.reverse
  | 114, d => .b (decide (DcP d.fst.toI d.snd.fst.toB d.snd.snd.fst.toI d.snd.snd.snd.toS))
  | 115, d => .b (decide (RvP d.fst.toS d.snd.fst.toS d.snd.snd.fst.toI d.snd.snd.snd.toI))
  | 116, d => .b (decide (DdP d.fst.toI d.snd.fst.toI d.snd.snd.toS))
  | 117, d => .b (decide (NuP d.fst.toS d.snd.fst.toI d.snd.snd.toI))
  | 118, d => .b (decide (HxP d.fst.toS d.snd.fst.toI d.snd.snd.toI))
  | 119, d => .b (decide (WdP d.fst.toS d.snd.fst.toI d.snd.snd.fst.toI d.snd.snd.snd.toR))
  | _, _ => .u
theorem numI_rg2 (s : List UInt8) : 0 ≤ numI s ∧ numI s ≤ 999999999999999999 := by
  refine ⟨numI_rg s, ?_⟩
  unfold numI
  split
  · rename_i h
    unfold numOk at h
    simp only [Bool.and_eq_true] at h
    obtain ⟨⟨h1, h2⟩, h3, h4⟩ := h
    have h2 := Nat.le_of_ble_eq_true h2
    have := numV_lt s h4
    have := Nat.pow_le_pow_right (n := 10) (by omega) h2
    have e : (10 : Nat) ^ 18 = 1000000000000000000 := by decide
    omega
  · omega
theorem numE_rg (s : List UInt8) : 0 ≤ numE s ∧ numE s ≤ 4 := by unfold numE; repeat' split
                                                                 all_goals omega
theorem hexE_rg (s : List UInt8) : 0 ≤ hexE s ∧ hexE s ≤ 4 := by unfold hexE; repeat' split
                                                                 all_goals omega
theorem phE_rg (s : List UInt8) : 0 ≤ phE s ∧ phE s ≤ 3 := by unfold phE; split <;> omega
theorem hexI_lt (s : List UInt8) (k : Nat) (h : s.length ≤ k) : hexI s < 16 ^ k := by
  have hp : (0 : Int) < 16 ^ k := Int.pow_pos (by omega)
  unfold hexI
  split
  · rename_i hq
    unfold hexOk at hq
    simp only [Bool.and_eq_true] at hq
    have := (hexV_rg s hq.2).2
    have h2 := Nat.pow_le_pow_right (n := 16) (by omega) h
    have e1 : ((16 ^ s.length : Nat) : Int) = 16 ^ s.length := by push_cast; rfl
    have e2 : ((16 ^ k : Nat) : Int) = 16 ^ k := by push_cast; rfl
    omega
  · exact hp
theorem hexI_rg2 (s : List UInt8) : 0 ≤ hexI s ∧ hexI s ≤ 4294967295 := by
  refine ⟨hexI_rg s, ?_⟩
  by_cases h : s.length ≤ 8
  · have := hexI_lt s 8 h
    have e : (16 : Int) ^ 8 = 4294967296 := by decide
    omega
  · unfold hexI
    rw [if_neg]
    · omega
    · intro q
      unfold hexOk at q
      simp only [Bool.and_eq_true] at q
      exact h (Nat.le_of_ble_eq_true q.1.2)
theorem phI_rg2 (s : List UInt8) : 0 ≤ phI s ∧ phI s ≤ 2097151 := by
  refine ⟨phI_rg s, ?_⟩
  unfold phI
  split
  · rename_i h
    unfold phOk at h
    simp only [Bool.and_eq_true, decide_eq_true_eq] at h
    have := hexI_lt (s.take 2) 2 (by rw [List.length_take]; omega)
    have e : (16 : Int) ^ 2 = 256 := by decide
    omega
  · omega
theorem ix_rg (w : List UInt8) : -1 ≤ min (Lib.index ltF w) 8 := by
  have : -1 ≤ Lib.index ltF w := by
    rcases Lib.indexB_cases ⟨⟨ltF⟩⟩ ⟨⟨w⟩⟩ with h | ⟨i, h, _⟩
    · have h : Lib.index ltF w = -1 := h
      omega
    · have h : Lib.index ltF w = i := h
      omega
  omega
theorem phiL_ok : ∀ f p d, (rgL f p).has ((phiL f d).proj p).toI := by
  intro f p d
  unfold rgL
  split
  · have := numI_rg2 d.toS; exact hasM this.1 this.2
  · have := numE_rg d.toS; exact hasM this.1 this.2
  · have := hexI_rg2 d.toS; exact hasM this.1 this.2
  · have := hexE_rg d.toS; exact hasM this.1 this.2
  · have := phI_rg2 d.toS; exact hasM this.1 this.2
  · have := phE_rg d.toS; exact hasM this.1 this.2
  · have := ix_rg d.snd.toS; exact hasM this (Int.min_le_right _ _)
  · show (⟨some 0, some 1⟩ : Rg).has (if sharpB d.toS = true then 1 else 0)
    split
    · exact hasM (by omega) (by omega)
    · exact hasM (by omega) (by omega)
  · exact hasT _
theorem phiL_sh : ∀ f d d', (shL f).like d d' → phiL f d = phiL f d' := by
  intro f d d' hl
  unfold shL at hl
  split at hl
  · obtain ⟨h1, h2⟩ : d.fst = d'.fst ∧ d.snd = d'.snd := hl
    show D.i (min (Lib.index ltF d.snd.toS) 8) = .i (min (Lib.index ltF d'.snd.toS) 8)
    rw [h2]
  · obtain ⟨h1, h2, h3, h4, h5⟩ : d.fst.toI = d'.fst.toI ∧ d.snd.fst.toI = d'.snd.fst.toI ∧ d.snd.snd.fst.toI = d'.snd.snd.fst.toI ∧ d.snd.snd.snd.fst = d'.snd.snd.snd.fst ∧ d.snd.snd.snd.snd.toI = d'.snd.snd.snd.snd.toI := hl
    show D.s (lnF d.fst.toI d.snd.fst.toI d.snd.snd.fst.toI d.snd.snd.snd.fst.toB d.snd.snd.snd.snd.toI) = .s (lnF d'.fst.toI d'.snd.fst.toI d'.snd.snd.fst.toI d'.snd.snd.snd.fst.toB d'.snd.snd.snd.snd.toI)
    rw [h1, h2, h3, h4, h5]
  · have h : d.toI = d'.toI := hl
    show D.s (decF d.toI.toNat) = .s (decF d'.toI.toNat)
    rw [h]
  · have h : d = d' := hl
    rw [h]
noncomputable instance famL : Fam := ⟨phiL, fun _ _ => noOb, rgL, phiL_ok, fun _ => false, fun _ _ h => (by cases h), fun _ => [], shL, phiL_sh⟩
def spX (x : X) : X := .ap 103 x
noncomputable def conSplS : ConF := fun g args m => match args with
  | [.a (.s (.z (.s x))), .a (.s (.z (.s (.s [32]))))] => some ([mkNot (mkLt g (.i 4000000) (.u .len x))], .z (.sl m.length (.i 0) 0 0 (.u .rlen (spX x)) (.u .rlen (spX x))), m ++ [some ⟨.rw [.s] (spX x), 9, true, true⟩])
  | _ => none
theorem split_cells (s : List UInt8) : (Lib.splitB ⟨⟨[32]⟩⟩ 0 (Lib.countB ⟨⟨s⟩⟩ ⟨⟨[32]⟩⟩) ⟨⟨s⟩⟩).map (·.data.toList) = Lib.split s [32] := by
  rw [Lib.splitB_data]; rfl
theorem rowsS_cells : ∀ l : List (List UInt8), (rowsS l).flatMap (rowV [.s]) = l.map fun s => Value.string ⟨⟨s⟩⟩
  | [] => rfl
  | s :: l => by
    show Value.string ⟨⟨s⟩⟩ :: (rowsS l).flatMap (rowV [.s]) = _
    rw [rowsS_cells l]; rfl
theorem conSplS_ok : Con Tryd.prog 29 conSplS := by
  intro g args m ns v m' e hf hg hn
  unfold conSplS at hf
  split at hf
  case h_2 => cases hf
  rename_i x
  cases hf
  simp only [allB_cons, mkNot_B, mkLt_B hg, Bool.not_eq_true', decide_eq_false_iff_not] at hn
  have h1 : ¬ (4000000 : Int) < (((x.S e).length : Nat) : Int) := hn.1
  intro cx g' W args' hr ha
  cases ha with | cons a1 a2 => cases a2 with | cons a2 a3 => cases a3 with
  | nil =>
  rename_i y1 y2
  obtain rfl := VR.plain_eq (v := .string ⟨⟨x.S e⟩⟩) rfl a1
  obtain rfl := VR.plain_eq (v := .string ⟨⟨[32]⟩⟩) rfl a2
  obtain ⟨_, n, hn⟩ := hr.good
  refine (Tryd.strings_Split ⟨⟨x.S e⟩⟩ ⟨⟨[32]⟩⟩ n W (by show (x.S e).length < _; omega) hn (by show 1 ≤ 1; omega)).mono ?_
  rintro e' W' ⟨rfl, rfl⟩
  have hR : (spX x).R e = rowsS (Lib.split (x.S e) [32]) := rfl
  have hC : (SC.rw [.s] (spX x)).den e = (Lib.split (x.S e) [32]).map fun s => Value.string ⟨⟨s⟩⟩ := by
    show ((spX x).R e).flatMap (rowV [.s]) = _
    rw [hR, rowsS_cells]
  have hcells : F2 (SR g') ((SC.rw [.s] (spX x)).den e) ((Lib.splitB ⟨⟨[32]⟩⟩ 0 (Lib.countB ⟨⟨x.S e⟩⟩ ⟨⟨[32]⟩⟩) ⟨⟨x.S e⟩⟩).map Value.string) := by
    rw [hC, ← split_cells, List.map_map]
    have : ∀ L : List ByteArray, F2 (SR g') (L.map ((fun s => Value.string ⟨⟨s⟩⟩) ∘ fun b : ByteArray => b.data.toList)) (L.map Value.string) := fun L => by
      induction L with
      | nil => exact .nil
      | cons b L ih => exact .cons (.str _) ih
    exact this _
  have hlen : (((spX x).R e).length : Nat) = Lib.countB ⟨⟨x.S e⟩⟩ ⟨⟨[32]⟩⟩ + 1 := by
    rw [hR]
    unfold rowsS
    rw [List.length_map, ← split_cells, List.length_map]
    exact Lib.splitB_all ⟨⟨[32]⟩⟩ (by show 1 ≤ 1; omega) 0 _ _ rfl
  have hr2 := hr.newRow hcells 9
  refine ⟨_, _, denM e (m ++ [some ⟨.rw [.s] (spX x), 9, true, true⟩]), [some ⟨W.heap.size, 0, 0⟩], rfl, ⟨rfl, rfl⟩, ?_, ?_⟩
  · rw [denM_app]
    exact hr2
  · have hl : (g' ++ [some (⟨W.heap.size, 0, 0⟩ : GB)])[m.length]? = some (some ⟨W.heap.size, 0, 0⟩) := by
      have := last_app (x := some (⟨W.heap.size, 0, 0⟩ : GB)) hr.len
      rwa [denM_len] at this
    have := SR.slice (g := g' ++ [some (⟨W.heap.size, 0, 0⟩ : GB)]) m.length 0 ((spX x).R e).length ((spX x).R e).length ⟨W.heap.size, 0, 0⟩ hl
    rw [hlen] at this
    refine .s ?_
    show SR _ (.slice (some ⟨m.length, 0, none⟩) ((((spX x).R e).length : Nat) : Int).toNat ((((spX x).R e).length : Nat) : Int).toNat) _
    rw [Int.toNat_natCast, hlen]
    exact this
noncomputable def conIdS : ConF := fun g args m => match args with
  | [.a (.s (.z (.s (.s l)))), .a (.s (.z (.s x)))] => bif eqBs l ltF then some ([], .z (.i .i64 (.ap 105 (.o .pair (.s l) x))), m) else none
  | _ => none
theorem lt_ix (w : List UInt8) : Lib.index ltF w ≤ 8 := by
  rcases Lib.indexB_cases ⟨⟨ltF⟩⟩ ⟨⟨w⟩⟩ with h | ⟨i, h, hi⟩
  · have h : Lib.index ltF w = -1 := h
    omega
  · have h : Lib.index ltF w = i := h
    have hi : i + w.length ≤ 8 := hi
    omega
theorem conIdS_ok : Con Tryd.prog 33 conIdS := by
  intro g args m ns v m' e hf hg hn
  unfold conIdS at hf
  split at hf
  case h_2 => cases hf
  rename_i l x
  cases hq : eqBs l ltF with
  | false => rw [hq] at hf; cases hf
  | true =>
    rw [hq] at hf
    cases hf
    obtain rfl := eqBs_eq hq
    have hv : (X.ap 105 (.o .pair (.s ltF) x)).I e = Lib.index ltF (x.S e) := by
      show min (Lib.index ltF (x.S e)) 8 = _
      have := lt_ix (x.S e)
      omega
    show ACall Tryd.prog _ [.string ⟨⟨ltF⟩⟩, .string ⟨⟨x.S e⟩⟩] (denM e m) fun w m2 => w = .int .i64 ((X.ap 105 (.o .pair (.s ltF) x)).I e) ∧ m2 = denM e m
    rw [hv]
    refine ACall.of_same rfl (fun g => .s (.int _ _)) fun W hg => ?_
    obtain ⟨_, n, hn⟩ := hg
    exact Tryd.strings_Index ⟨⟨ltF⟩⟩ ⟨⟨x.S e⟩⟩ n W (by show 8 < 4294967281; omega) hn
end Go.Proofs.YtciemdpcllpdkaaDoor
