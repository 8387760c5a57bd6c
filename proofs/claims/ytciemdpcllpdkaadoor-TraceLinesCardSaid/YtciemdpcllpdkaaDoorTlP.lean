/-
  Where the loops stand that write and read lines, in plain words. Conditions: none.
-/
import Derived.Test.YtciemdpcllpdkaaDoorTlA
set_option linter.unusedSectionVars false
set_option linter.unusedVariables false
set_option linter.unusedSimpArgs false
namespace Go.Proofs.YtciemdpcllpdkaaDoor
open Go Go.AE Go.SX
def DcP (N : Int) (first : Bool) (n : Int) (out : List UInt8) : Prop := 0 ≤ N ∧ 0 ≤ n ∧ n ≤ N ∧ ((first = true ∧ n = N ∧ out = []) ∨ (first = false ∧ (if n = 0 then [] else decF n.toNat) ++ out.reverse = decF N.toNat))
theorem dg_of {n : Int} (h : 0 ≤ n) : UInt8.ofNat (n % 10 + 48).toNat = dg (n.toNat % 10) := by
  unfold dg
  congr 1; omega
theorem dec_step {n : Int} (h : 0 < n) : decF n.toNat = (if n / 10 = 0 then [] else decF (n / 10).toNat) ++ [dg (n.toNat % 10)] := by
  by_cases h1 : n.toNat < 10
  · rw [decF_lo h1, if_pos (by omega), List.nil_append]
    congr 2; omega
  · rw [decF_hi h1, if_neg (by omega)]
    congr 2; omega
theorem dc_next {N : Int} {first : Bool} {n : Int} {out : List UInt8} (h : DcP N first n out) (hc : first = true ∨ 0 < n) : DcP N false (n / 10) (out ++ [UInt8.ofNat (n % 10 + 48).toNat]) := by
  obtain ⟨h0, h1, h2, h3⟩ := h
  refine ⟨h0, by omega, by omega, .inr ⟨rfl, ?_⟩⟩
  rw [dg_of h1, List.reverse_append]
  show _ ++ (dg (n.toNat % 10) :: out.reverse) = _
  rcases h3 with ⟨rfl, rfl, rfl⟩ | ⟨rfl, h3⟩
  · by_cases hz : n = 0
    · subst hz
      rw [if_pos (by omega)]
      show [dg 0] = decF 0
      rw [decF_lo (by omega)]
    · rw [dec_step (n := n) (by omega)]; rfl
  · have hn : 0 < n := by rcases hc with h | h; (· cases h); exact h
    rw [if_neg (by omega), dec_step hn, List.append_assoc] at h3
    exact h3
theorem dc_end {N : Int} {n : Int} {out : List UInt8} (h : DcP N false n out) (hn : ¬ 0 < n) : out.reverse = decF N.toNat := by
  obtain ⟨h0, h1, h2, h3⟩ := h
  rcases h3 with ⟨h, _⟩ | ⟨_, h3⟩
  · cases h
  · rw [if_pos (by omega)] at h3; exact h3
theorem dc_len {N : Int} {first : Bool} {n : Int} {out : List UInt8} (h : DcP N first n out) (hN : N ≤ 1125899906842624) : out.length ≤ 18 ∧ (0 < n → out.length ≤ 17) := by
  obtain ⟨h0, h1, h2, h3⟩ := h
  have hl := dec_len 17 N.toNat (by omega)
  rcases h3 with ⟨_, _, rfl⟩ | ⟨_, h3⟩
  · exact ⟨by simp, fun _ => by simp⟩
  · have := congrArg List.length h3
    rw [List.length_append, List.length_reverse] at this
    refine ⟨by omega, fun hn => ?_⟩
    rw [if_neg (by omega)] at this
    have := List.length_pos_iff.2 (dec_ne n.toNat)
    omega
def RvP (s cur : List UInt8) (i j : Int) : Prop := cur.length = s.length ∧ 0 ≤ i ∧ j = (s.length : Nat) - 1 - i ∧ i ≤ j + 1 ∧ ∀ k : Nat, k < s.length → cur.getD k 0 = if (k : Int) < i ∨ j < (k : Int) then s.getD (s.length - 1 - k) 0 else s.getD k 0
theorem rv_next {s cur : List UInt8} {i j : Int} (h : RvP s cur i j) (hij : i < j) : RvP s ((cur.set i.toNat (cur.getD j.toNat 0)).set j.toNat (cur.getD i.toNat 0)) (i + 1) (j - 1) := by
  obtain ⟨h0, h1, h2, h3, h4⟩ := h
  refine ⟨by rw [List.length_set, List.length_set]; exact h0, by omega, by omega, by omega, fun k hk => ?_⟩
  have hi := h4 i.toNat (by omega)
  have hj := h4 j.toNat (by omega)
  rw [if_neg (by omega)] at hi hj
  rw [List.getD_eq_getElem?_getD, List.getElem?_set]
  by_cases e1 : j.toNat = k
  · rw [if_pos e1, if_pos (by rw [List.length_set]; omega)]
    show cur.getD i.toNat 0 = _
    rw [hi, if_pos (by omega)]
    congr 1; omega
  · rw [if_neg e1, List.getElem?_set]
    by_cases e2 : i.toNat = k
    · rw [if_pos e2, if_pos (by omega)]
      show cur.getD j.toNat 0 = _
      rw [hj, if_pos (by omega)]
      congr 1; omega
    · rw [if_neg e2, ← List.getD_eq_getElem?_getD, h4 k hk]
      by_cases hq : (k : Int) < i ∨ j < (k : Int)
      · rw [if_pos hq, if_pos (by omega)]
      · rw [if_neg hq, if_neg (by omega)]
theorem rv_end {s cur : List UInt8} {i j : Int} (h : RvP s cur i j) (hij : ¬ i < j) : cur = s.reverse := by
  obtain ⟨h0, h1, h2, h3, h4⟩ := h
  apply List.ext_getElem
  · rw [List.length_reverse]; exact h0
  · intro k hk1 hk2
    have hk : k < s.length := by omega
    have := h4 k hk
    rw [List.getD_eq_getElem?_getD, List.getElem?_eq_getElem hk1] at this
    have this : cur[k] = _ := this
    rw [this, List.getElem_reverse]
    have hg : s.getD (s.length - 1 - k) 0 = s[s.length - 1 - k] := by rw [List.getD_eq_getElem?_getD, List.getElem?_eq_getElem (by omega)]; rfl
    by_cases hq : (k : Int) < i ∨ j < (k : Int)
    · rw [if_pos hq, hg]
    · rw [if_neg hq, ← hg]
      congr 1; omega
theorem rv_0 (s : List UInt8) : RvP s s 0 ((s.length : Nat) - 1) := ⟨rfl, by omega, by omega, by omega, fun k hk => by rw [if_neg (by omega)]⟩
def DdP (N n : Int) (s : List UInt8) : Prop := 0 ≤ n ∧ n ≤ N ∧ (if n = 0 then [] else decF n.toNat) ++ s = decF N.toNat
theorem dd_next {N n : Int} {s : List UInt8} (h : DdP N n s) (hn : 0 < n) : DdP N (n / 10) (dg (n.toNat % 10) :: s) := by
  obtain ⟨h0, h1, h2⟩ := h
  refine ⟨by omega, by omega, ?_⟩
  rw [if_neg (by omega), dec_step hn, List.append_assoc] at h2
  exact h2
theorem dd_len {N n : Int} {s : List UInt8} (h : DdP N n s) (hN : N ≤ 1125899906842624) : s.length ≤ 18 ∧ (0 < n → s.length ≤ 17) := by
  obtain ⟨h0, h1, h2⟩ := h
  have hl := dec_len 17 N.toNat (by omega)
  have := congrArg List.length h2
  rw [List.length_append] at this
  refine ⟨by omega, fun hn => ?_⟩
  rw [if_neg (by omega)] at this
  have := List.length_pos_iff.2 (dec_ne n.toNat)
  omega
theorem dg_tab {n : Nat} (h : n < 10) : (([48, 49, 50, 51, 52, 53, 54, 55, 56, 57] : List UInt8).drop n).take 1 = [dg n] := by
  match n, h with
  | 0, _ | 1, _ | 2, _ | 3, _ | 4, _ | 5, _ | 6, _ | 7, _ | 8, _ | 9, _ => exact by decide
def cAt (s : List UInt8) (i : Int) : UInt8 := s.getD i.toNat 0
def NuP (s : List UInt8) (i n : Int) : Prop := 0 ≤ i ∧ i ≤ (s.length : Nat) ∧ (s.take i.toNat).all isDg = true ∧ n = ((numV (s.take i.toNat) : Nat) : Int)
theorem take_nx {α : Type} {l : List α} {i : Int} (h0 : 0 ≤ i) (h1 : i < (l.length : Nat)) (d : α) : l.take (i + 1).toNat = l.take i.toNat ++ [l.getD i.toNat d] := by
  have e : (i + 1).toNat = i.toNat + 1 := by omega
  have hl : i.toNat < l.length := by omega
  rw [e, List.take_add_one, List.getElem?_eq_getElem hl, List.getD_eq_getElem?_getD, List.getElem?_eq_getElem hl]
  rfl
theorem nu_next {s : List UInt8} {i n : Int} (h : NuP s i n) (hi : i < (s.length : Nat)) (hc : isDg (cAt s i) = true) : NuP s (i + 1) (n * 10 + (cAt s i).toNat - 48) := by
  obtain ⟨h0, h1, h2, rfl⟩ := h
  refine ⟨by omega, by omega, ?_, ?_⟩
  · rw [take_nx h0 hi 0, List.all_append, h2]
    show (isDg (cAt s i) && true) = true
    rw [hc]; rfl
  · rw [take_nx h0 hi 0, numV_snoc]
    have := isDg_iff.1 hc
    have e : dv (s.getD i.toNat 0) = (cAt s i).toNat - 48 := rfl
    rw [e]; omega
theorem numV_lt (s : List UInt8) (h : s.all isDg = true) : numV s < 10 ^ s.length := by
  have key : ∀ (s : List UInt8) (n k : Nat), s.all isDg = true → n < 10 ^ k → s.foldl (fun n c => n * 10 + dv c) n < 10 ^ (k + s.length) := by
    intro s
    induction s with
    | nil => intro n k _ h1; exact h1
    | cons c s ih =>
      intro n k ha h1
      rw [List.all_cons, Bool.and_eq_true] at ha
      have hc := isDg_iff.1 ha.1
      have := ih (n * 10 + dv c) (k + 1) ha.2 (by unfold dv; rw [Nat.pow_succ]; omega)
      rw [show k + (c :: s).length = k + 1 + s.length from by simp; omega]
      exact this
  have := key s 0 0 h (by decide)
  rw [Nat.zero_add] at this
  exact this
theorem nu_rg {s : List UInt8} {i n : Int} (h : NuP s i n) (hi : i < (s.length : Nat)) (hl : ¬ (18 : Int) < (s.length : Nat)) : 0 ≤ n ∧ n < 100000000000000000 := by
  obtain ⟨h0, h1, h2, rfl⟩ := h
  have h3 := numV_lt _ h2
  have h4 : (s.take i.toNat).length ≤ 17 := by rw [List.length_take]; omega
  have := Nat.pow_le_pow_right (n := 10) (by omega) h4
  have e : (10 : Nat) ^ 17 = 100000000000000000 := by decide
  omega
def leadB (s : List UInt8) : Bool := Nat.blt 1 s.length && (s.headD 0 == 48)
theorem num_bad {s : List UInt8} {i : Int} (h0 : 0 ≤ i) (hi : i < (s.length : Nat)) (hl : ¬ (18 : Int) < (s.length : Nat)) (hc : isDg (cAt s i) = false) : numI s = 0 ∧ numE s = 3 := by
  have hk : numOk s = false := by
    have : s.all isDg = false := by
      cases hq : s.all isDg with
      | false => rfl
      | true =>
        have hm : cAt s i ∈ s := by
          unfold cAt
          rw [List.getD_eq_getElem?_getD, List.getElem?_eq_getElem (by omega : i.toNat < s.length)]
          exact List.getElem_mem _
        have := List.all_eq_true.1 hq _ hm
        rw [hc] at this; cases this
    unfold numOk
    rw [this]; simp
  constructor
  · unfold numI; rw [hk]; rfl
  · unfold numE
    rw [hk, if_neg (by rintro rfl; simp at hi; omega), if_neg (by omega)]; rfl
theorem num_lead {s : List UInt8} (hn : s ≠ []) (hl : ¬ (18 : Int) < (s.length : Nat)) (hc : leadB s = true) : numI s = 0 ∧ numE s = 3 := by
  have hk : numOk s = false := by
    unfold numOk
    rw [show (Nat.blt 1 s.length && (s.headD 0 == 48)) = true from hc]; simp
  constructor
  · unfold numI; rw [hk]; rfl
  · unfold numE
    rw [hk, if_neg hn, if_neg (by omega)]; rfl
theorem num_end {s : List UInt8} {i n : Int} (h : NuP s i n) (hn : s ≠ []) (hi : ¬ i < (s.length : Nat)) (hl : ¬ (18 : Int) < (s.length : Nat)) (hc : leadB s = false) : numI s = n ∧ numE s = 0 := by
  obtain ⟨h0, h1, h2, rfl⟩ := h
  have ht : s.take i.toNat = s := List.take_of_length_le (by omega)
  rw [ht] at h2 ⊢
  have hk : numOk s = true := by
    unfold numOk
    rw [h2, show (Nat.blt 1 s.length && (s.headD 0 == 48)) = false from hc, Nat.ble_eq_true_of_le (by omega)]
    cases s with
    | nil => exact absurd rfl hn
    | cons => rfl
  constructor
  · unfold numI; rw [if_pos hk]
  · unfold numE
    rw [if_neg hn, if_neg (by omega), if_pos hk]
theorem num_long {s : List UInt8} (hl : (18 : Int) < (s.length : Nat)) : numI s = 0 ∧ numE s = 2 := by
  have hn : s ≠ [] := by rintro rfl; simp at hl
  constructor
  · unfold numI
    rw [if_neg]
    intro q
    unfold numOk at q
    simp only [Bool.and_eq_true] at q
    have := Nat.le_of_ble_eq_true q.1.2
    omega
  · unfold numE
    rw [if_neg hn, if_pos (by omega)]
def HxP (s : List UInt8) (i n : Int) : Prop := 0 ≤ i ∧ i ≤ (s.length : Nat) ∧ (s.take i.toNat).all isHx = true ∧ n = hexV (s.take i.toNat)
theorem hx_rg {s : List UInt8} {i n : Int} (h : HxP s i n) (hi : i < (s.length : Nat)) (hl : ¬ (8 : Int) < (s.length : Nat)) : 0 ≤ n ∧ n < 268435456 := by
  obtain ⟨h0, h1, h2, rfl⟩ := h
  obtain ⟨h3, h4⟩ := hexV_rg _ h2
  have h5 : (s.take i.toNat).length ≤ 7 := by rw [List.length_take]; omega
  have h6 := Nat.pow_le_pow_right (n := 16) (by omega) h5
  have e1 : ((16 ^ (s.take i.toNat).length : Nat) : Int) = 16 ^ (s.take i.toNat).length := by push_cast; rfl
  have e : (16 : Nat) ^ 7 = 268435456 := by decide
  omega
theorem hx_next {s : List UInt8} {i n : Int} (h : HxP s i n) (hi : i < (s.length : Nat)) (hl : ¬ (8 : Int) < (s.length : Nat)) (hc : 0 ≤ hv (cAt s i)) : HxP s (i + 1) ((n * 16 + hv (cAt s i)) % 4294967296) := by
  have hr := hx_rg h hi hl
  have hv' := hv_rg (cAt s i)
  obtain ⟨h0, h1, h2, h3⟩ := h
  refine ⟨by omega, by omega, ?_, ?_⟩
  · rw [take_nx h0 hi 0, List.all_append, h2]
    show (decide (0 ≤ hv (cAt s i)) && true) = true
    rw [decide_eq_true hc]; rfl
  · rw [take_nx h0 hi 0, hexV_snoc, ← h3]
    have e : hv (s.getD i.toNat 0) = hv (cAt s i) := rfl
    rw [e]; omega
theorem hex_bad {s : List UInt8} {i : Int} (h0 : 0 ≤ i) (hi : i < (s.length : Nat)) (hl : ¬ (8 : Int) < (s.length : Nat)) (hc : hv (cAt s i) < 0) : hexI s = 0 ∧ hexE s = 3 := by
  have hk : hexOk s = false := by
    have : s.all isHx = false := by
      cases hq : s.all isHx with
      | false => rfl
      | true =>
        have hm : cAt s i ∈ s := by
          unfold cAt
          rw [List.getD_eq_getElem?_getD, List.getElem?_eq_getElem (by omega : i.toNat < s.length)]
          exact List.getElem_mem _
        have := List.all_eq_true.1 hq _ hm
        unfold isHx at this
        have := of_decide_eq_true this
        omega
    unfold hexOk
    rw [this]; simp
  constructor
  · unfold hexI; rw [hk]; rfl
  · unfold hexE
    rw [hk, if_neg (by rintro rfl; simp at hi; omega), if_neg (by omega)]; rfl
theorem hex_end {s : List UInt8} {i n : Int} (h : HxP s i n) (hn : s ≠ []) (hi : ¬ i < (s.length : Nat)) (hl : ¬ (8 : Int) < (s.length : Nat)) : hexI s = n ∧ hexE s = 0 := by
  obtain ⟨h0, h1, h2, rfl⟩ := h
  have ht : s.take i.toNat = s := List.take_of_length_le (by omega)
  rw [ht] at h2 ⊢
  have hk : hexOk s = true := by
    unfold hexOk
    rw [h2, Nat.ble_eq_true_of_le (by omega)]
    cases s with
    | nil => exact absurd rfl hn
    | cons => rfl
  constructor
  · unfold hexI; rw [if_pos hk]
  · unfold hexE
    rw [if_neg hn, if_neg (by omega), if_pos hk]
theorem hex_long {s : List UInt8} (hl : (8 : Int) < (s.length : Nat)) : hexI s = 0 ∧ hexE s = 2 := by
  have hn : s ≠ [] := by rintro rfl; simp at hl
  constructor
  · unfold hexI
    rw [if_neg]
    intro q
    unfold hexOk at q
    simp only [Bool.and_eq_true] at q
    have := Nat.le_of_ble_eq_true q.1.2
    omega
  · unfold hexE
    rw [if_neg hn, if_pos (by omega)]
def rowsS (l : List (List UInt8)) : List (List A) := l.map fun w => [A.s w]
def curW (line : List UInt8) (i fr : Int) : List UInt8 := (line.drop fr.toNat).take (i - fr).toNat
def WdP (line : List UInt8) (i fr : Int) (rows : List (List A)) : Prop := 0 ≤ fr ∧ fr ≤ i ∧ i ≤ (line.length : Nat) + 1 ∧ (i ≤ (line.length : Nat) ∨ fr = i) ∧ ∃ out, rows = rowsS out ∧ ((out.length : Nat) : Int) ≤ i ∧ out ++ wdF (curW line i fr) (line.drop i.toNat) = wdF [] line
theorem wdF_ne : ∀ (l cur : List UInt8), ∀ w ∈ wdF cur l, w ≠ []
  | [], cur, w, hw => by
    unfold wdF at hw
    split at hw
    · cases hw
    · rename_i h; obtain rfl := List.mem_singleton.1 hw; exact h
  | c :: l, cur, w, hw => by
    unfold wdF at hw
    split at hw
    · split at hw
      · exact wdF_ne l [] w hw
      · rename_i h
        rcases List.mem_cons.1 hw with rfl | hw
        · exact h
        · exact wdF_ne l [] w hw
    · exact wdF_ne l _ w hw
theorem cur_len {line : List UInt8} {i fr : Int} (h0 : 0 ≤ fr) (h1 : fr ≤ i) (h2 : i ≤ (line.length : Nat)) : (curW line i fr).length = (i - fr).toNat := by
  unfold curW
  rw [List.length_take, List.length_drop]; omega
theorem cur_nil {line : List UInt8} {i fr : Int} (h1 : ¬ fr < i) : curW line i fr = [] := by
  unfold curW
  rw [show (i - fr).toNat = 0 from by omega]; rfl
theorem wd_skip {line : List UInt8} {i fr : Int} {rows : List (List A)} (h : WdP line i fr rows) (hi : i < (line.length : Nat)) (hc : cAt line i ≠ 32) : WdP line (i + 1) fr rows := by
  obtain ⟨h0, h1, h2, h3, out, h4, h5, h6⟩ := h
  refine ⟨h0, by omega, by omega, .inl (by omega), out, h4, by omega, ?_⟩
  have hd : line.drop i.toNat = cAt line i :: line.drop (i + 1).toNat := by
    rw [show (i + 1).toNat = i.toNat + 1 from by omega, List.drop_eq_getElem_cons (by omega : i.toNat < line.length)]
    unfold cAt
    rw [List.getD_eq_getElem?_getD, List.getElem?_eq_getElem (by omega : i.toNat < line.length)]; rfl
  have hcur : curW line (i + 1) fr = curW line i fr ++ [cAt line i] := by
    unfold curW
    have := take_nx (l := line.drop fr.toNat) (i := i - fr) (by omega) (by rw [List.length_drop]; omega) 0
    rw [show i + 1 - fr = i - fr + 1 from by omega, this]
    congr 2
    unfold cAt
    rw [List.getD_eq_getElem?_getD, List.getElem?_drop, ← List.getD_eq_getElem?_getD]
    congr 1; omega
  rw [hd] at h6
  rw [hcur]
  unfold wdF at h6
  rw [if_neg hc] at h6
  cases line with
  | nil => simp at hi; omega
  | cons a l => exact h6
theorem wd_cut {line : List UInt8} {i fr : Int} {rows : List (List A)} (h : WdP line i fr rows) (hi : i ≤ (line.length : Nat)) (hc : i < (line.length : Nat) → cAt line i = 32) :
    WdP line (i + 1) (i + 1) (if fr < i then rows ++ [[A.s (curW line i fr)]] else rows) := by
  obtain ⟨h0, h1, h2, h3, out, h4, h5, h6⟩ := h
  have hnil : curW line (i + 1) (i + 1) = [] := cur_nil (by omega)
  have key : (if fr < i then out ++ [curW line i fr] else out) ++ wdF [] (line.drop (i + 1).toNat) = wdF [] line := by
    rw [← h6]
    have hcl := cur_len h0 h1 hi
    by_cases hlt : i < (line.length : Nat)
    · have hd : line.drop i.toNat = cAt line i :: line.drop (i + 1).toNat := by
        rw [show (i + 1).toNat = i.toNat + 1 from by omega, List.drop_eq_getElem_cons (by omega : i.toNat < line.length)]
        unfold cAt
        rw [List.getD_eq_getElem?_getD, List.getElem?_eq_getElem (by omega : i.toNat < line.length)]; rfl
      rw [hd, hc hlt]
      have e : ∀ cur : List UInt8, wdF cur (32 :: line.drop (i + 1).toNat) = if cur = [] then wdF [] (line.drop (i + 1).toNat) else cur :: wdF [] (line.drop (i + 1).toNat) := fun cur => by rw [wdF, if_pos rfl]
      rw [e]
      by_cases hf : fr < i
      · rw [if_pos hf, if_neg (fun q => by rw [q] at hcl; simp at hcl; omega), List.append_assoc]; rfl
      · rw [if_neg hf, if_pos (cur_nil hf)]
    · have hd : line.drop i.toNat = [] := List.drop_eq_nil_of_le (by omega)
      have hd2 : line.drop (i + 1).toNat = [] := List.drop_eq_nil_of_le (by omega)
      rw [hd, hd2]
      have e : ∀ cur : List UInt8, wdF cur [] = if cur = [] then [] else [cur] := fun cur => by rw [wdF]
      rw [e, e, if_pos rfl]
      by_cases hf : fr < i
      · rw [if_pos hf, if_neg (fun q => by rw [q] at hcl; simp at hcl; omega), List.append_nil]
      · rw [if_neg hf, if_pos (cur_nil hf)]
  refine ⟨by omega, by omega, by omega, .inr rfl, (if fr < i then out ++ [curW line i fr] else out), ?_, ?_, by rw [hnil]; exact key⟩
  · by_cases hf : fr < i
    · rw [if_pos hf, if_pos hf, h4]; unfold rowsS; rw [List.map_append]; rfl
    · rw [if_neg hf, if_neg hf, h4]
  · by_cases hf : fr < i
    · rw [if_pos hf, List.length_append]; simp; omega
    · rw [if_neg hf]; omega
theorem wd_0 (line : List UInt8) : WdP line 0 0 [] := ⟨by omega, by omega, by omega, .inl (by omega), [], rfl, by simp, by
  rw [cur_nil (by omega)]; rfl⟩
theorem wd_fin {line : List UInt8} {i fr : Int} {rows : List (List A)} (h : WdP line i fr rows) (hi : ¬ i ≤ (line.length : Nat)) : rows = rowsS (wdF [] line) := by
  obtain ⟨h0, h1, h2, h3, out, h4, h5, h6⟩ := h
  have hf : fr = i := by omega
  have hd : line.drop i.toNat = [] := List.drop_eq_nil_of_le (by omega)
  rw [hd, hf, cur_nil (by omega)] at h6
  have e : wdF ([] : List UInt8) [] = [] := rfl
  rw [e, List.append_nil] at h6
  rw [h4, h6]
theorem wd_rows {line : List UInt8} {i fr : Int} {rows : List (List A)} (h : WdP line i fr rows) : ((rows.length : Nat) : Int) ≤ i := by
  obtain ⟨h0, h1, h2, h3, out, h4, h5, h6⟩ := h
  rw [h4]; unfold rowsS; rw [List.length_map]; exact h5
def sharpB (line : List UInt8) : Bool := ((wdF [] line).headD []).headD 0 == 35
end Go.Proofs.YtciemdpcllpdkaaDoor
