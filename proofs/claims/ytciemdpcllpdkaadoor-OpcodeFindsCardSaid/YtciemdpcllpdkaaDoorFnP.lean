/-
  Finding opcodes by names and modes, in plain words. Conditions: none.
-/
import Derived.Test.YtciemdpcllpdkaaDoorOpN
set_option linter.unusedSectionVars false
set_option linter.unusedVariables false
set_option linter.unusedSimpArgs false
namespace Go.Proofs.YtciemdpcllpdkaaDoor
open Go Go.AE Go.SX Go.RowKit Go.Sort
set_option maxRecDepth 1000000
def bkN (k : Nat) : Nat := (uptoB 256).getD k 0
def hitM (nm : List UInt8) (mode : Int) (b : Nat) : Bool := ((opR b).name == nm) && decide ((((opR b).mode : Nat) : Int) = mode)
def nameB (nm : List UInt8) (b : Nat) : Bool := (opR b).known && ((opR b).name == nm)
/-- The byte of a name and a mode. -/
def fnB (nm : List UInt8) (mode : Int) : Option Nat := (uptoB 256).find? (hitM nm mode)
def moB (b : Nat) : UInt8 := UInt8.ofNat (opR b).mode
/-- The modes of a name, by bytes. -/
def rawK (nm : List UInt8) (i : Nat) : List UInt8 := (((uptoB 256).take i).filter fun b => (opR b).name == nm).map moB
def rawF (nm : List UInt8) : List UInt8 := rawK nm 234
def srtF (l : List UInt8) : List UInt8 := ((List.range 20).filter fun m => l.contains (UInt8.ofNat m)).map UInt8.ofNat
theorem uptoB_len : (uptoB 256).length = 234 := by kernel_rfl
theorem mem_upto {b n : Nat} : b ∈ uptoB n ↔ b < n ∧ (opR b).known = true := by
  unfold uptoB
  rw [List.mem_filter, List.mem_range]
theorem bkN_get {k : Nat} (h : k < 234) : (uptoB 256)[k]? = some (bkN k) := by
  have h' : k < (uptoB 256).length := by rw [uptoB_len]; exact h
  unfold bkN
  rw [List.getD_eq_getElem?_getD, List.getElem?_eq_getElem h']; rfl
theorem bkN_mem {k : Nat} (h : k < 234) : bkN k < 256 ∧ (opR (bkN k)).known = true := mem_upto.1 (List.mem_of_getElem? (bkN_get h))
theorem bkN_lt (k : Nat) : bkN k < 256 := by
  rcases Nat.lt_or_ge k 234 with h | h
  · exact (bkN_mem h).1
  · unfold bkN
    rw [List.getD_eq_getElem?_getD, List.getElem?_eq_none (by rw [uptoB_len]; exact h)]; decide
/-! Find. -/
def FdP (nm : List UInt8) (mode i : Int) : Prop := 0 ≤ i ∧ i ≤ 234 ∧ ∀ k : Nat, (k : Int) < i → hitM nm mode (bkN k) = false
theorem fd_next {nm : List UInt8} {mode i : Int} (h : FdP nm mode i) (hi : i < 234) (hn : hitM nm mode (bkN i.toNat) = false) : FdP nm mode (i + 1) := by
  obtain ⟨h0, h1, h2⟩ := h
  refine ⟨by omega, by omega, fun k hk => ?_⟩
  by_cases hq : (k : Int) < i
  · exact h2 k hq
  · obtain rfl : k = i.toNat := by omega
    exact hn
theorem fd_hit {nm : List UInt8} {mode i : Int} (h : FdP nm mode i) (hi : i < 234) (hn : hitM nm mode (bkN i.toNat) = true) : fnB nm mode = some (bkN i.toNat) := by
  obtain ⟨h0, h1, h2⟩ := h
  have hl : i.toNat < (uptoB 256).length := by rw [uptoB_len]; omega
  have hg : (uptoB 256)[i.toNat] = bkN i.toNat := by
    have := bkN_get (k := i.toNat) (by omega)
    rw [List.getElem?_eq_getElem hl] at this
    exact Option.some.inj this
  unfold fnB
  rw [List.find?_eq_some_iff_getElem]
  refine ⟨hn, i.toNat, hl, hg, fun j hj => ?_⟩
  have hjl : j < (uptoB 256).length := by omega
  have hgj : (uptoB 256)[j] = bkN j := by
    have := bkN_get (k := j) (by omega)
    rw [List.getElem?_eq_getElem hjl] at this
    exact Option.some.inj this
  have := h2 j (by omega)
  rw [← hgj] at this
  simp [this]
theorem fd_end {nm : List UInt8} {mode i : Int} (h : FdP nm mode i) (hi : ¬ i < 234) : fnB nm mode = none := by
  obtain ⟨h0, h1, h2⟩ := h
  unfold fnB
  rw [List.find?_eq_none]
  intro b hb
  obtain ⟨k, hk, hbk⟩ := List.getElem_of_mem hb
  have hk' : k < 234 := by rw [uptoB_len] at hk; exact hk
  have hg : b = bkN k := by
    have := bkN_get hk'
    rw [List.getElem?_eq_getElem hk, hbk] at this
    exact Option.some.inj this
  rw [hg, h2 k (by omega)]; decide
theorem fn_rg {nm : List UInt8} {mode : Int} {b : Nat} (h : fnB nm mode = some b) : b < 256 ∧ (opR b).known = true ∧ hitM nm mode b = true := by
  have h1 := List.mem_of_find?_eq_some h
  obtain ⟨h2, h3⟩ := mem_upto.1 h1
  exact ⟨h2, h3, List.find?_some h⟩
theorem find_own : ((uptoB 256).all fun b => match fnB (opR b).name (((opR b).mode : Nat) : Int) with | some c => Nat.beq c b | none => false) = true := by kernel_rfl
theorem hit_eq {nm : List UInt8} {mode : Int} {b : Nat} (h : hitM nm mode b = true) : nm = (opR b).name ∧ mode = (((opR b).mode : Nat) : Int) := by
  unfold hitM at h
  rw [Bool.and_eq_true] at h
  exact ⟨(eq_of_beq h.1).symm, (of_decide_eq_true h.2).symm⟩
theorem fn_of {nm : List UInt8} {mode : Int} {b : Nat} (hb : b < 256) (hk : (opR b).known = true) (h : hitM nm mode b = true) : fnB nm mode = some b := by
  obtain ⟨rfl, rfl⟩ := hit_eq h
  have := List.all_eq_true.1 find_own b (mem_upto.2 ⟨hb, hk⟩)
  revert this
  cases fnB (opR b).name (((opR b).mode : Nat) : Int) with
  | none => intro h; cases h
  | some c => intro h; rw [Nat.eq_of_beq_eq_true h]
/-! Modes. -/
def MoP (nm : List UInt8) (i : Int) (out : List UInt8) : Prop := 0 ≤ i ∧ i ≤ 234 ∧ out = rawK nm i.toNat
theorem raw_next {nm : List UInt8} {k : Nat} (h : k < 234) : rawK nm (k + 1) = rawK nm k ++ (if ((opR (bkN k)).name == nm) = true then [moB (bkN k)] else []) := by
  unfold rawK
  rw [List.take_add_one, bkN_get h]
  show ((_ ++ [bkN k]).filter _).map _ = _
  rw [List.filter_append, List.map_append]
  congr 1
  cases hq : (opR (bkN k)).name == nm with
  | true => simp [List.filter, hq]
  | false => simp [List.filter, hq]
theorem raw_len (nm : List UInt8) (k : Nat) : (rawK nm k).length ≤ k := by
  unfold rawK
  rw [List.length_map]
  exact Nat.le_trans (List.length_filter_le _ _) (by rw [List.length_take]; omega)
theorem mo_next {nm : List UInt8} {i : Int} {out : List UInt8} (h : MoP nm i out) (hi : i < 234) : MoP nm (i + 1) (out ++ (if ((opR (bkN i.toNat)).name == nm) = true then [moB (bkN i.toNat)] else [])) := by
  obtain ⟨h0, h1, rfl⟩ := h
  refine ⟨by omega, by omega, ?_⟩
  rw [show (i + 1).toNat = i.toNat + 1 from by omega, raw_next (by omega)]
theorem mo_end {nm : List UInt8} {i : Int} {out : List UInt8} (h : MoP nm i out) (hi : ¬ i < 234) : out = rawF nm := by
  obtain ⟨h0, h1, rfl⟩ := h
  rw [show i.toNat = 234 from by omega]; rfl
/-! The lists of modes that there are. -/
def rawLs : List (List UInt8) := [[], [0], [0, 2, 5, 3, 6], [1], [1, 2, 5], [1, 2, 5, 3, 6], [1, 2, 5, 4, 7], [2], [2, 0, 5, 3, 6], [2, 3, 5, 6], [2, 5], [2, 5, 3], [2, 5, 3, 6, 1], [2, 5, 4], [5], [5, 17, 18], [9, 2, 1, 5, 10, 8, 3, 7, 6], [9, 2, 5, 10, 8, 3, 7, 6], [11], [12], [13, 15, 14, 16], [19]]
theorem raw_known : (namesL.all fun nm => rawLs.any fun l => eqBs (rawF nm) l) = true := by kernel_rfl
theorem names_all : ((uptoB 256).all fun b => namesL.any fun nm => eqBs (opR b).name nm) = true := by kernel_rfl
theorem raw_in (nm : List UInt8) : rawF nm ∈ rawLs := by
  by_cases h : nm ∈ namesL
  · have := List.all_eq_true.1 raw_known nm h
    obtain ⟨l, hl, he⟩ := List.any_eq_true.1 this
    letI := fam0
    rw [eqBs_eq he]; exact hl
  · have : rawF nm = [] := by
      unfold rawF rawK
      rw [List.map_eq_nil_iff, List.filter_eq_nil_iff]
      intro b hb hq
      have hb := List.mem_of_mem_take hb
      obtain ⟨n, hn, he⟩ := List.any_eq_true.1 (List.all_eq_true.1 names_all b hb)
      have h1 : (opR b).name = nm := eq_of_beq hq
      letI := fam0
      rw [← h1, eqBs_eq he] at h
      exact h hn
    rw [this]
    exact .head _
theorem srt_len : (rawLs.all fun l => Nat.beq (srtF l).length l.length && Nat.ble l.length 9) = true := by kernel_rfl
theorem raw_srt (nm : List UInt8) : (srtF (rawF nm)).length = (rawF nm).length ∧ (rawF nm).length ≤ 9 := by
  have := List.all_eq_true.1 srt_len _ (raw_in nm)
  rw [Bool.and_eq_true] at this
  exact ⟨Nat.eq_of_beq_eq_true this.1, Nat.le_of_ble_eq_true this.2⟩
/-! The law's own loop: from 255 down. -/
def lwS (nm : List UInt8) (mode : Int) (b : Nat) (s : Int × Int × List (List A)) : Int × Int × List (List A) :=
  bif nameB nm b then ((if decide ((((opR b).mode : Nat) : Int) = mode) = true then s.1 + 1 else s.1), (if decide ((((opR b).mode : Nat) : Int) = mode) = true then ((b : Nat) : Int) else s.2.1), s.2.2.set (opR b).mode [.b true]) else s
def lwF (nm : List UInt8) (mode : Int) : Nat → Int × Int × List (List A)
  | 0 => (0, 0, List.replicate 20 [.b false])
  | j + 1 => lwS nm mode (255 - j) (lwF nm mode j)
def LwP (nm : List UInt8) (mode i n first : Int) (has : List (List A)) : Prop := -1 ≤ i ∧ i ≤ 255 ∧ (n, first, has) = lwF nm mode (255 - i).toNat
def hasB (has : List (List A)) (m : Nat) : Bool := ((has.getD m []).getD 0 (.i 0)).toB
theorem lw_has (nm : List UInt8) (mode : Int) : ∀ j, j ≤ 256 → (lwF nm mode j).2.2.length = 20 ∧ ∀ m, m < 20 → hasB (lwF nm mode j).2.2 m = ((List.range' (256 - j) j).any fun b => nameB nm b && Nat.beq (opR b).mode m)
  | 0, _ => ⟨rfl, fun m hm => by
    unfold hasB
    show ((((List.replicate 20 [A.b false]).getD m []).getD 0 (.i 0)).toB) = false
    have : (List.replicate 20 [A.b false]).getD m [] = [A.b false] := by rw [List.getD_eq_getElem?_getD, List.getElem?_replicate, if_pos hm]; rfl
    rw [this]; rfl⟩
  | j + 1, hj => by
    obtain ⟨ih1, ih2⟩ := lw_has nm mode j (by omega)
    have er : List.range' (256 - (j + 1)) (j + 1) = (255 - j) :: List.range' (256 - j) j := by
      rw [List.range'_succ, show 256 - (j + 1) = 255 - j from by omega, show 255 - j + 1 = 256 - j from by omega]
    show (lwS nm mode (255 - j) (lwF nm mode j)).2.2.length = 20 ∧ ∀ m, m < 20 → hasB (lwS nm mode (255 - j) (lwF nm mode j)).2.2 m = _
    unfold lwS
    cases hn : nameB nm (255 - j) with
    | false =>
      refine ⟨ih1, fun m hm => ?_⟩
      rw [er, List.any_cons, hn]
      show hasB (lwF nm mode j).2.2 m = _
      rw [ih2 m hm]; rfl
    | true =>
      refine ⟨by show ((lwF nm mode j).2.2.set _ _).length = 20; rw [List.length_set]; exact ih1, fun m hm => ?_⟩
      rw [er, List.any_cons, hn]
      show hasB ((lwF nm mode j).2.2.set (opR (255 - j)).mode [.b true]) m = _
      by_cases hq : (opR (255 - j)).mode = m
      · have e : ((lwF nm mode j).2.2.set (opR (255 - j)).mode [.b true]).getD m [] = [.b true] := by
          rw [List.getD_eq_getElem?_getD, List.getElem?_set, if_pos hq, if_pos (by omega)]; rfl
        unfold hasB
        rw [e, hq, Nat.beq_refl]; rfl
      · have e : ((lwF nm mode j).2.2.set (opR (255 - j)).mode [.b true]).getD m [] = (lwF nm mode j).2.2.getD m [] := by
          rw [List.getD_eq_getElem?_getD, List.getElem?_set, if_neg hq, ← List.getD_eq_getElem?_getD]
        have e2 : hasB ((lwF nm mode j).2.2.set (opR (255 - j)).mode [.b true]) m = hasB (lwF nm mode j).2.2 m := by unfold hasB; rw [e]
        rw [e2]
        have : Nat.beq (opR (255 - j)).mode m = false := by
          cases hb : Nat.beq (opR (255 - j)).mode m with
          | false => rfl
          | true => exact absurd (Nat.eq_of_beq_eq_true hb) hq
        rw [this]
        exact ih2 m hm
def hasF (nm : List UInt8) : List (List A) := (lwF nm (-1) 256).2.2
theorem lw_has_mode (nm : List UInt8) (mode mode' : Int) : ∀ j, (lwF nm mode j).2.2 = (lwF nm mode' j).2.2
  | 0 => rfl
  | j + 1 => by
    show (lwS nm mode (255 - j) (lwF nm mode j)).2.2 = (lwS nm mode' (255 - j) (lwF nm mode' j)).2.2
    unfold lwS
    cases nameB nm (255 - j) with
    | false => exact lw_has_mode nm mode mode' j
    | true => show (lwF nm mode j).2.2.set _ _ = (lwF nm mode' j).2.2.set _ _; rw [lw_has_mode nm mode mode' j]
theorem lw_cnt (nm : List UInt8) (mode : Int) (b0 : Nat) (hu : ∀ b, b < 256 → (nameB nm b && decide ((((opR b).mode : Nat) : Int) = mode)) = true → b = b0) (hb : b0 < 256) (h0 : (nameB nm b0 && decide ((((opR b0).mode : Nat) : Int) = mode)) = true) :
    ∀ j, j ≤ 256 → (lwF nm mode j).1 = (if 256 - j ≤ b0 then 1 else 0) ∧ (lwF nm mode j).2.1 = (if 256 - j ≤ b0 then ((b0 : Nat) : Int) else 0)
  | 0, _ => by rw [if_neg (by omega), if_neg (by omega)]; exact ⟨rfl, rfl⟩
  | j + 1, hj => by
    obtain ⟨i1, i2⟩ := lw_cnt nm mode b0 hu hb h0 j (by omega)
    show (lwS nm mode (255 - j) (lwF nm mode j)).1 = _ ∧ (lwS nm mode (255 - j) (lwF nm mode j)).2.1 = _
    by_cases hq : 255 - j = b0
    · rw [hq]
      rw [Bool.and_eq_true] at h0
      unfold lwS
      have e1 : ¬ 256 - j ≤ b0 := by omega
      have e2 : 256 - (j + 1) ≤ b0 := by omega
      rw [if_pos e2, if_pos e2, h0.1, cond_true, if_pos h0.2, if_pos h0.2, i1, if_neg e1]
      exact ⟨rfl, rfl⟩
    · have hn : (nameB nm (255 - j) && decide ((((opR (255 - j)).mode : Nat) : Int) = mode)) = false := by
        cases hc : (nameB nm (255 - j) && decide ((((opR (255 - j)).mode : Nat) : Int) = mode)) with
        | false => rfl
        | true => exact absurd (hu _ (by omega) hc) hq
      have e1 : (if 256 - (j + 1) ≤ b0 then (1 : Int) else 0) = if 256 - j ≤ b0 then 1 else 0 := by split <;> split <;> omega
      have e2 : (if 256 - (j + 1) ≤ b0 then ((b0 : Nat) : Int) else 0) = if 256 - j ≤ b0 then ((b0 : Nat) : Int) else 0 := by split <;> split <;> omega
      rw [e1, e2]
      unfold lwS
      cases hnm : nameB nm (255 - j) with
      | false => exact ⟨i1, i2⟩
      | true =>
        rw [hnm, Bool.true_and] at hn
        rw [cond_true, if_neg (by rw [hn]; decide), if_neg (by rw [hn]; decide)]
        exact ⟨i1, i2⟩
theorem lw_none (nm : List UInt8) (mode : Int) (hu : ∀ b, b < 256 → (nameB nm b && decide ((((opR b).mode : Nat) : Int) = mode)) = false) :
    ∀ j, j ≤ 256 → (lwF nm mode j).1 = 0 ∧ (lwF nm mode j).2.1 = 0
  | 0, _ => ⟨rfl, rfl⟩
  | j + 1, hj => by
    obtain ⟨i1, i2⟩ := lw_none nm mode hu j (by omega)
    have hn := hu (255 - j) (by omega)
    show (lwS nm mode (255 - j) (lwF nm mode j)).1 = _ ∧ (lwS nm mode (255 - j) (lwF nm mode j)).2.1 = _
    unfold lwS
    cases hnm : nameB nm (255 - j) with
    | false => exact ⟨i1, i2⟩
    | true =>
      rw [hnm, Bool.true_and] at hn
      rw [cond_true, if_neg (by rw [hn]; decide), if_neg (by rw [hn]; decide)]
      exact ⟨i1, i2⟩
/-- The end of the loop: how many, which, as Find tells. -/
theorem lw_end (nm : List UInt8) (mode : Int) : (lwF nm mode 256).1 = (match fnB nm mode with | some _ => 1 | none => 0) ∧ (lwF nm mode 256).2.1 = (match fnB nm mode with | some b => ((b : Nat) : Int) | none => 0) := by
  have hsplit : ∀ b, (nameB nm b && decide ((((opR b).mode : Nat) : Int) = mode)) = ((opR b).known && hitM nm mode b) := fun b => by unfold nameB hitM; rw [Bool.and_assoc]
  cases hf : fnB nm mode with
  | some b0 =>
    obtain ⟨h1, h2, h3⟩ := fn_rg hf
    have := lw_cnt nm mode b0 (fun b hb h => by
      rw [hsplit, Bool.and_eq_true] at h
      have := fn_of hb h.1 h.2
      rw [hf] at this
      exact (Option.some.inj this).symm) h1 (by rw [hsplit, h2, h3]; rfl) 256 (Nat.le_refl _)
    rw [if_pos (by omega), if_pos (by omega)] at this
    exact this
  | none =>
    exact lw_none nm mode (fun b hb => by
      rw [hsplit]
      cases hk : (opR b).known with
      | false => rfl
      | true =>
        cases hh : hitM nm mode b with
        | false => rfl
        | true => rw [fn_of hb hk hh] at hf; cases hf) 256 (Nat.le_refl _)
/-! What is wanted. -/
def wtK (has : List (List A)) (i : Nat) : List UInt8 := ((List.range i).filter (hasB has)).map UInt8.ofNat
def WtP (has : List (List A)) (i : Int) (out : List UInt8) : Prop := 0 ≤ i ∧ i ≤ 20 ∧ out = wtK has i.toNat
theorem wt_next {has : List (List A)} {i : Int} {out : List UInt8} (h : WtP has i out) (hi : i < 20) : WtP has (i + 1) (out ++ (if hasB has i.toNat = true then [UInt8.ofNat i.toNat] else [])) := by
  obtain ⟨h0, h1, rfl⟩ := h
  refine ⟨by omega, by omega, ?_⟩
  rw [show (i + 1).toNat = i.toNat + 1 from by omega]
  unfold wtK
  rw [List.range_succ, List.filter_append, List.map_append]
  congr 1
  cases hq : hasB has i.toNat with
  | true => simp [List.filter, hq]
  | false => simp [List.filter, hq]
theorem moB_mode (b : Nat) {m : Nat} (hm : m < 20) : moB b = UInt8.ofNat m ↔ (opR b).mode = m := by
  have := (op_rg b).1
  unfold moB
  constructor
  · intro h
    have h := congrArg UInt8.toNat h
    rw [UInt8.toNat_ofNat', UInt8.toNat_ofNat'] at h
    omega
  · rintro rfl; rfl
theorem has_raw (nm : List UInt8) {m : Nat} (hm : m < 20) : hasB (hasF nm) m = (rawF nm).contains (UInt8.ofNat m) := by
  unfold hasF
  rw [(lw_has nm (-1) 256 (Nat.le_refl _)).2 m hm, Bool.eq_iff_iff, List.any_eq_true, List.contains_iff_mem]
  unfold rawF rawK
  rw [List.mem_map]
  have ht : (uptoB 256).take 234 = uptoB 256 := List.take_of_length_le (by rw [uptoB_len]; omega)
  rw [ht]
  constructor
  · rintro ⟨b, hb, h⟩
    rw [Bool.and_eq_true] at h
    unfold nameB at h
    rw [Bool.and_eq_true] at h
    have hb : b < 256 := by have := List.mem_range'_1.1 hb; omega
    exact ⟨b, List.mem_filter.2 ⟨mem_upto.2 ⟨hb, h.1.1⟩, h.1.2⟩, (moB_mode b hm).2 (Nat.eq_of_beq_eq_true h.2)⟩
  · rintro ⟨b, hb, h⟩
    obtain ⟨h1, h2⟩ := List.mem_filter.1 hb
    obtain ⟨h3, h4⟩ := mem_upto.1 h1
    refine ⟨b, List.mem_range'_1.2 (by omega), ?_⟩
    unfold nameB
    rw [h4, h2, (moB_mode b hm).1 h, Nat.beq_refl]; rfl
theorem wt_end {nm : List UInt8} {i : Int} {out : List UInt8} (h : WtP (hasF nm) i out) (hi : ¬ i < 20) : out = srtF (rawF nm) := by
  obtain ⟨h0, h1, rfl⟩ := h
  rw [show i.toNat = 20 from by omega]
  unfold wtK srtF
  congr 1
  apply List.filter_congr
  intro m hm
  exact has_raw nm (List.mem_range.1 hm)
theorem hasF_at (nm : List UInt8) (mode : Int) : (lwF nm mode 256).2.2 = hasF nm := lw_has_mode nm mode (-1) 256
def WtQ (nm : List UInt8) (mode n first : Int) (has : List (List A)) (i : Int) (out : List UInt8) : Prop := (n, first, has) = lwF nm mode 256 ∧ WtP has i out
theorem lw_next {nm : List UInt8} {mode i n first : Int} {has : List (List A)} (h : LwP nm mode i n first has) (hi : 0 ≤ i) : LwP nm mode (i - 1) (lwS nm mode i.toNat (n, first, has)).1 (lwS nm mode i.toNat (n, first, has)).2.1 (lwS nm mode i.toNat (n, first, has)).2.2 := by
  obtain ⟨h0, h1, h2⟩ := h
  refine ⟨by omega, by omega, ?_⟩
  rw [show (255 - (i - 1)).toNat = (255 - i).toNat + 1 from by omega]
  show lwS nm mode i.toNat (n, first, has) = lwS nm mode (255 - (255 - i).toNat) (lwF nm mode (255 - i).toNat)
  rw [h2, show 255 - (255 - i).toNat = i.toNat from by omega]
theorem lw_rg (nm : List UInt8) (mode : Int) : ∀ j, 0 ≤ (lwF nm mode j).1 ∧ (lwF nm mode j).1 ≤ (j : Nat) ∧ 0 ≤ (lwF nm mode j).2.1 ∧ (lwF nm mode j).2.1 ≤ 255 ∧ (lwF nm mode j).2.2.length = 20
  | 0 => ⟨Int.le_refl _, Int.le_refl _, Int.le_refl _, by show (0 : Int) ≤ 255; omega, rfl⟩
  | j + 1 => by
    have ih := lw_rg nm mode j
    show 0 ≤ (lwS nm mode (255 - j) (lwF nm mode j)).1 ∧ (lwS nm mode (255 - j) (lwF nm mode j)).1 ≤ _ ∧ 0 ≤ (lwS nm mode (255 - j) (lwF nm mode j)).2.1 ∧ (lwS nm mode (255 - j) (lwF nm mode j)).2.1 ≤ 255 ∧ (lwS nm mode (255 - j) (lwF nm mode j)).2.2.length = 20
    unfold lwS
    cases nameB nm (255 - j) with
    | false => exact ⟨ih.1, by show (lwF nm mode j).1 ≤ _; omega, ih.2.2⟩
    | true =>
      rw [cond_true]
      have hl : ((lwF nm mode j).2.2.set (opR (255 - j)).mode [A.b true]).length = 20 := by rw [List.length_set]; exact ih.2.2.2.2
      generalize decide ((((opR (255 - j)).mode : Nat) : Int) = mode) = c
      cases c with
      | false => exact ⟨ih.1, by show (lwF nm mode j).1 ≤ ((j + 1 : Nat) : Int); omega, ih.2.2.1, ih.2.2.2.1, hl⟩
      | true => exact ⟨by show 0 ≤ (lwF nm mode j).1 + 1; omega, by show (lwF nm mode j).1 + 1 ≤ ((j + 1 : Nat) : Int); omega, by show (0 : Int) ≤ ((255 - j : Nat) : Int); omega, by show ((255 - j : Nat) : Int) ≤ 255; omega, hl⟩
theorem wt_len {has : List (List A)} {i : Int} {out : List UInt8} (h : WtP has i out) : ((out.length : Nat) : Int) ≤ i := by
  obtain ⟨h0, h1, rfl⟩ := h
  unfold wtK
  rw [List.length_map]
  have := List.length_filter_le (hasB has) (List.range i.toNat)
  rw [List.length_range] at this
  omega
end Go.Proofs.YtciemdpcllpdkaaDoor
