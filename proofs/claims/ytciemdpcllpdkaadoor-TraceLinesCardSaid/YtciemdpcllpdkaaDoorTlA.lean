/-
  Lines of a trace, written and read, in plain words. Conditions: none.
-/
import Derived.Test.YtciemdpcllpdkaaDoorLog10
import Derived.Lib.SplitLaws
import Derived.Lib.Split
import Derived.Lib.IndexBytes
set_option linter.unusedSectionVars false
set_option linter.unusedVariables false
set_option linter.unusedSimpArgs false
namespace Go.Proofs.YtciemdpcllpdkaaDoor
open Go Go.AE Go.SX
def dg (n : Nat) : UInt8 := UInt8.ofNat (48 + n)
def hx (n : Nat) : UInt8 := UInt8.ofNat (if n < 10 then 48 + n else 55 + n)
def isDg (c : UInt8) : Bool := Nat.ble 48 c.toNat && Nat.ble c.toNat 57
def dv (c : UInt8) : Nat := c.toNat - 48
def hv (c : UInt8) : Int := if 48 ≤ c.toNat ∧ c.toNat ≤ 57 then (c.toNat : Int) - 48 else if 65 ≤ c.toNat ∧ c.toNat ≤ 70 then (c.toNat : Int) - 55 else -1
def decL (n : Nat) : List UInt8 := if n < 10 then [dg n] else dg (n % 10) :: decL (n / 10)
termination_by n
decreasing_by omega
def decF (n : Nat) : List UInt8 := (decL n).reverse
def numV (l : List UInt8) : Nat := l.foldl (fun n c => n * 10 + dv c) 0
def hexV (l : List UInt8) : Int := l.foldl (fun n c => n * 16 + hv c) 0
theorem numV_snoc (l : List UInt8) (c : UInt8) : numV (l ++ [c]) = numV l * 10 + dv c := by simp [numV, List.foldl_append]
theorem hexV_snoc (l : List UInt8) (c : UInt8) : hexV (l ++ [c]) = hexV l * 16 + hv c := by simp [hexV, List.foldl_append]
theorem dg_nat {n : Nat} (h : n < 10) : (dg n).toNat = 48 + n := by
  unfold dg
  rw [UInt8.toNat_ofNat']; omega
theorem dv_dg {n : Nat} (h : n < 10) : dv (dg n) = n := by unfold dv; rw [dg_nat h]; omega
theorem isDg_dg {n : Nat} (h : n < 10) : isDg (dg n) = true := by
  unfold isDg
  rw [dg_nat h, Nat.ble_eq_true_of_le (by omega), Nat.ble_eq_true_of_le (by omega)]; rfl
theorem isDg_iff {c : UInt8} : isDg c = true ↔ 48 ≤ c.toNat ∧ c.toNat ≤ 57 := by
  unfold isDg
  rw [Bool.and_eq_true, Nat.ble_eq, Nat.ble_eq]
theorem hx_nat {n : Nat} (h : n < 16) : (hx n).toNat = if n < 10 then 48 + n else 55 + n := by
  unfold hx
  rw [UInt8.toNat_ofNat']; split <;> omega
theorem hv_hx {n : Nat} (h : n < 16) : hv (hx n) = n := by
  unfold hv
  rw [hx_nat h]
  repeat' split
  all_goals omega
theorem decF_lo {n : Nat} (h : n < 10) : decF n = [dg n] := by
  unfold decF; rw [decL, if_pos h]; rfl
theorem decF_hi {n : Nat} (h : ¬ n < 10) : decF n = decF (n / 10) ++ [dg (n % 10)] := by
  unfold decF; rw [decL, if_neg h, List.reverse_cons]
theorem dec_val (n : Nat) : numV (decF n) = n := by
  induction n using Nat.strongRecOn with
  | _ n ih =>
    by_cases h : n < 10
    · rw [decF_lo h]; show 0 * 10 + dv (dg n) = n; rw [dv_dg h]; omega
    · rw [decF_hi h, numV_snoc, ih (n / 10) (by omega), dv_dg (by omega)]; omega
theorem dec_dig (n : Nat) : (decF n).all isDg = true := by
  induction n using Nat.strongRecOn with
  | _ n ih =>
    by_cases h : n < 10
    · rw [decF_lo h]; show (isDg (dg n) && true) = true; rw [isDg_dg h]; rfl
    · rw [decF_hi h, List.all_append, ih (n / 10) (by omega)]
      show (isDg (dg (n % 10)) && true) = true; rw [isDg_dg (by omega)]; rfl
theorem dec_ne (n : Nat) : decF n ≠ [] := by
  by_cases h : n < 10
  · rw [decF_lo h]; simp
  · rw [decF_hi h]; simp
theorem dec_head (n : Nat) : (decF n).length = 1 ∨ (decF n).headD 0 ≠ 48 := by
  induction n using Nat.strongRecOn with
  | _ n ih =>
    by_cases h : n < 10
    · rw [decF_lo h]; exact .inl rfl
    · right
      rw [decF_hi h]
      by_cases h2 : n / 10 < 10
      · rw [decF_lo h2]
        show dg (n / 10) ≠ 48
        intro q
        have := congrArg UInt8.toNat q
        rw [dg_nat h2] at this
        have : 48 + n / 10 = 48 := this
        omega
      · rcases ih (n / 10) (by omega) with h3 | h3
        · rw [decF_hi h2, List.length_append] at h3
          have := List.length_pos_iff.2 (dec_ne (n / 10 / 10))
          rw [List.length_singleton] at h3; omega
        · cases hq : decF (n / 10) with
          | nil => exact absurd hq (dec_ne _)
          | cons a l => rw [hq] at h3; exact h3
theorem dec_len (k : Nat) : ∀ n : Nat, n < 10 ^ (k + 1) → (decF n).length ≤ k + 1 := by
  induction k with
  | zero => intro n h; rw [decF_lo (by simpa using h)]; simp
  | succ k ih =>
    intro n h
    by_cases h1 : n < 10
    · rw [decF_lo h1]; simp
    · rw [decF_hi h1, List.length_append]
      have := ih (n / 10) (by rw [Nat.pow_succ] at h; omega)
      simp; omega
theorem ix_no : ∀ {w : List UInt8}, (32 : UInt8) ∉ w → Lib.indexByte w 32 = -1
  | [], _ => rfl
  | c :: w, h => by
    have h1 : ¬ c = 32 := fun q => h (by rw [q]; exact List.mem_cons_self)
    have ih := ix_no (w := w) (fun q => h (List.mem_cons_of_mem _ q))
    simp [Lib.indexByte, h1, ih]
theorem ix_hit : ∀ {w : List UInt8} (t : List UInt8), (32 : UInt8) ∉ w → Lib.indexByte (w ++ 32 :: t) 32 = (w.length : Nat)
  | [], _, _ => by simp [Lib.indexByte]
  | c :: w, t, h => by
    have h1 : ¬ c = 32 := fun q => h (by rw [q]; exact List.mem_cons_self)
    have ih := ix_hit (w := w) t (fun q => h (List.mem_cons_of_mem _ q))
    rw [List.cons_append]
    simp only [Lib.indexByte]
    rw [ih]
    simp [h1]
    try omega
theorem spl_no {w : List UInt8} (h : (32 : UInt8) ∉ w) : Lib.split w [32] = [w] := by
  unfold Lib.split
  rw [Lib.count_miss (by rw [Lib.index_one]; exact ix_no h)]; rfl
theorem spl_hit {w : List UInt8} (t : List UInt8) (h : (32 : UInt8) ∉ w) : Lib.split (w ++ 32 :: t) [32] = w :: Lib.split t [32] := by
  have hi : Lib.index (w ++ 32 :: t) [32] = (w.length : Nat) := by rw [Lib.index_one]; exact ix_hit t h
  unfold Lib.split
  rw [Lib.count_hit (by simp) hi]
  have hd : (w ++ 32 :: t).drop (w.length + ([32] : List UInt8).length) = t := by simp
  rw [hd, Nat.add_comm, show Lib.splitK [32] 0 (Lib.count t [32] + 1) (w ++ 32 :: t) = if Lib.index (w ++ 32 :: t) [32] == -1 then [w ++ 32 :: t] else (w ++ 32 :: t).take ((Lib.index (w ++ 32 :: t) [32]).toNat + 0) :: Lib.splitK [32] 0 (Lib.count t [32]) ((w ++ 32 :: t).drop ((Lib.index (w ++ 32 :: t) [32]).toNat + ([32] : List UInt8).length)) from rfl, hi]
  have hm : ¬ ((((w.length : Nat) : Int)) == -1) = true := fun q => by have := beq_iff_eq.1 q; omega
  rw [if_neg hm]
  have : ((w.length : Nat) : Int).toNat = w.length := by omega
  rw [this, hd]
  have ht : (w ++ 32 :: t).take (w.length + 0) = w := by simp
  rw [ht]
def wdF : List UInt8 → List UInt8 → List (List UInt8)
  | cur, [] => if cur = [] then [] else [cur]
  | cur, c :: l => if c = 32 then (if cur = [] then wdF [] l else cur :: wdF [] l) else wdF (cur ++ [c]) l
theorem wd_word : ∀ {w : List UInt8} (cur t : List UInt8), (32 : UInt8) ∉ w → wdF cur (w ++ t) = wdF (cur ++ w) t
  | [], cur, t, _ => by simp
  | c :: w, cur, t, h => by
    have h1 : ¬ c = 32 := fun q => h (by rw [q]; exact List.mem_cons_self)
    rw [List.cons_append, wdF, if_neg h1, wd_word (cur ++ [c]) t (fun q => h (List.mem_cons_of_mem _ q)), List.append_assoc]; rfl
theorem wd_hit {w : List UInt8} (t : List UInt8) (h : (32 : UInt8) ∉ w) (hn : w ≠ []) : wdF [] (w ++ 32 :: t) = w :: wdF [] t := by
  rw [wd_word [] _ h, List.nil_append, wdF, if_pos rfl, if_neg hn]
theorem wd_end {w : List UInt8} (h : (32 : UInt8) ∉ w) (hn : w ≠ []) : wdF [] w = [w] := by
  have := wd_word [] [] h
  rw [List.append_nil, List.nil_append] at this
  rw [this, wdF, if_neg hn]
def numOk (s : List UInt8) : Bool := (!s.isEmpty && Nat.ble s.length 18) && (!(Nat.blt 1 s.length && (s.headD 0 == 48)) && s.all isDg)
def numI (s : List UInt8) : Int := if numOk s = true then ((numV s : Nat) : Int) else 0
def numE (s : List UInt8) : Int := if s = [] then 4 else if 18 < s.length then 2 else if numOk s = true then 0 else 3
def isHx (c : UInt8) : Bool := decide (0 ≤ hv c)
def hexOk (s : List UInt8) : Bool := (!s.isEmpty && Nat.ble s.length 8) && s.all isHx
def hexI (s : List UInt8) : Int := if hexOk s = true then hexV s else 0
def hexE (s : List UInt8) : Int := if s = [] then 4 else if 8 < s.length then 2 else if hexOk s = true then 0 else 3
def phOk (s : List UInt8) : Bool := (Nat.beq s.length 7 && (s.getD 2 0 == 58)) && ((hexOk (s.take 2) && hexOk (s.drop 3)) && decide (hexI (s.drop 3) < 8192))
def phI (s : List UInt8) : Int := if phOk s = true then hexI (s.take 2) * 8192 + hexI (s.drop 3) else 0
def phE (s : List UInt8) : Int := if phOk s = true then 0 else 3
def ltF : List UInt8 := [70, 79, 68, 76, 83, 80, 85, 86]
def hex2 (n : Int) : List UInt8 := [hx (n / 16 % 16).toNat, hx (n % 16).toNat]
def hex4 (n : Int) : List UInt8 := [hx (n / 4096 % 16).toNat, hx (n / 256 % 16).toNat, hx (n / 16 % 16).toNat, hx (n % 16).toNat]
def physF (a : Int) : List UInt8 := hex2 (a / 8192 % 256) ++ 58 :: hex4 (a % 8192)
def mayG (st ad kd : Int) : Bool := ((!decide (st < 0) && !decide (1125899906842624 < st)) && decide (ad < 2097152)) && decide (kd < 8)
def lnF (st ad kd : Int) (wr : Bool) (da : Int) : List UInt8 := bif mayG st ad kd then
  decF st.toNat ++ 32 :: ([ltF.getD kd.toNat 0] ++ 32 :: (physF ad ++ 32 :: ([if wr then 119 else 114] ++ 32 :: hex2 da))) else []
theorem may_iff {st ad kd : Int} : mayG st ad kd = true ↔ 0 ≤ st ∧ st ≤ 1125899906842624 ∧ ad < 2097152 ∧ kd < 8 := by
  unfold mayG
  simp only [Bool.and_eq_true, Bool.not_eq_true', decide_eq_false_iff_not, decide_eq_true_eq]
  omega
theorem hv_rg (c : UInt8) : -1 ≤ hv c ∧ hv c ≤ 15 := by
  unfold hv
  repeat' split
  all_goals omega
theorem hexV_rg (s : List UInt8) (h : s.all isHx = true) : 0 ≤ hexV s ∧ hexV s < 16 ^ s.length := by
  have key : ∀ (s : List UInt8) (n : Int) (k : Nat), s.all isHx = true → 0 ≤ n → n < 16 ^ k → 0 ≤ s.foldl (fun n c => n * 16 + hv c) n ∧ s.foldl (fun n c => n * 16 + hv c) n < 16 ^ (k + s.length) := by
    intro s
    induction s with
    | nil => intro n k _ h0 h1; exact ⟨h0, h1⟩
    | cons c s ih =>
      intro n k ha h0 h1
      rw [List.all_cons, Bool.and_eq_true] at ha
      have hc : 0 ≤ hv c := of_decide_eq_true ha.1
      have hr := hv_rg c
      have := ih (n * 16 + hv c) (k + 1) ha.2 (by omega) (by rw [Int.pow_succ]; omega)
      rw [show k + (c :: s).length = k + 1 + s.length from by simp; omega]
      exact this
  have := key s 0 0 h (Int.le_refl _) (by decide)
  rw [Nat.zero_add] at this
  exact this
theorem hexI_rg (s : List UInt8) : 0 ≤ hexI s := by
  unfold hexI
  split
  · rename_i h
    unfold hexOk at h
    rw [Bool.and_eq_true] at h
    exact (hexV_rg s h.2).1
  · exact Int.le_refl _
theorem numI_rg (s : List UInt8) : 0 ≤ numI s := by
  unfold numI; split <;> omega
theorem phI_rg (s : List UInt8) : 0 ≤ phI s := by
  unfold phI
  have := hexI_rg (s.take 2)
  have := hexI_rg (s.drop 3)
  split <;> omega
theorem num_dec {n : Nat} (h : n ≤ 1125899906842624) : numI (decF n) = n := by
  have hl := dec_len 17 n (by omega)
  have hn := dec_ne n
  have hk : numOk (decF n) = true := by
    unfold numOk
    rw [dec_dig, Nat.ble_eq_true_of_le hl]
    have h1 : (decF n).isEmpty = false := by cases hq : decF n with
      | nil => exact absurd hq hn
      | cons => rfl
    rw [h1]
    have h2 : (Nat.blt 1 (decF n).length && ((decF n).headD 0 == 48)) = false := by
      rcases dec_head n with h | h
      · rw [h]; rfl
      · rw [beq_eq_false_iff_ne.2 h, Bool.and_false]
    rw [h2]; rfl
  unfold numI
  rw [if_pos hk, dec_val]
theorem hx_is {n : Nat} (h : n < 16) : isHx (hx n) = true := by
  unfold isHx; rw [hv_hx h]; exact decide_eq_true (by omega)
theorem hex2_val {n : Int} (h0 : 0 ≤ n) (h1 : n ≤ 255) : hexOk (hex2 n) = true ∧ hexI (hex2 n) = n := by
  have a1 := hx_is (n := (n / 16 % 16).toNat) (by omega)
  have a2 := hx_is (n := (n % 16).toNat) (by omega)
  have b1 := hv_hx (n := (n / 16 % 16).toNat) (by omega)
  have b2 := hv_hx (n := (n % 16).toNat) (by omega)
  have hk : hexOk (hex2 n) = true := by
    show (isHx _ && (isHx _ && true)) = true
    rw [a1, a2]; rfl
  refine ⟨hk, ?_⟩
  unfold hexI
  rw [if_pos hk]
  show (0 * 16 + hv (hx (n / 16 % 16).toNat)) * 16 + hv (hx (n % 16).toNat) = n
  rw [b1, b2]; omega
theorem hex4_val {n : Int} (h0 : 0 ≤ n) (h1 : n < 65536) : hexOk (hex4 n) = true ∧ hexI (hex4 n) = n := by
  have a1 := hx_is (n := (n / 4096 % 16).toNat) (by omega)
  have a2 := hx_is (n := (n / 256 % 16).toNat) (by omega)
  have a3 := hx_is (n := (n / 16 % 16).toNat) (by omega)
  have a4 := hx_is (n := (n % 16).toNat) (by omega)
  have b1 := hv_hx (n := (n / 4096 % 16).toNat) (by omega)
  have b2 := hv_hx (n := (n / 256 % 16).toNat) (by omega)
  have b3 := hv_hx (n := (n / 16 % 16).toNat) (by omega)
  have b4 := hv_hx (n := (n % 16).toNat) (by omega)
  have hk : hexOk (hex4 n) = true := by
    show (isHx _ && (isHx _ && (isHx _ && (isHx _ && true)))) = true
    rw [a1, a2, a3, a4]; rfl
  refine ⟨hk, ?_⟩
  unfold hexI
  rw [if_pos hk]
  show (((0 * 16 + hv (hx (n / 4096 % 16).toNat)) * 16 + hv (hx (n / 256 % 16).toNat)) * 16 + hv (hx (n / 16 % 16).toNat)) * 16 + hv (hx (n % 16).toNat) = n
  rw [b1, b2, b3, b4]; omega
theorem ph_val {a : Int} (h0 : 0 ≤ a) (h1 : a < 2097152) : phI (physF a) = a := by
  obtain ⟨p1, p2⟩ := hex2_val (n := a / 8192 % 256) (by omega) (by omega)
  obtain ⟨q1, q2⟩ := hex4_val (n := a % 8192) (by omega) (by omega)
  have e1 : (physF a).take 2 = hex2 (a / 8192 % 256) := rfl
  have e2 : (physF a).drop 3 = hex4 (a % 8192) := rfl
  have hk : phOk (physF a) = true := by
    unfold phOk
    rw [e1, e2, p1, q1, q2, decide_eq_true (by omega)]; rfl
  unfold phI
  rw [if_pos hk, e1, e2, p2, q2]; omega
theorem dig_no {l : List UInt8} (h : l.all isDg = true) : (32 : UInt8) ∉ l := fun hm => by
  have := List.all_eq_true.1 h _ hm
  exact absurd this (by decide)
theorem hx_ne {n : Nat} (h : n < 16) : (32 : UInt8) ≠ hx n := fun q => by
  have := hx_is h
  rw [← q] at this
  exact absurd this (by decide)
theorem hex2_no (n : Int) : (32 : UInt8) ∉ hex2 n := by
  have a1 := hx_ne (n := (n / 16 % 16).toNat) (by omega)
  have a2 := hx_ne (n := (n % 16).toNat) (by omega)
  simp [hex2, a1, a2]
theorem phys_no (a : Int) : (32 : UInt8) ∉ physF a := by
  have a1 := hx_ne (n := (a % 8192 / 4096 % 16).toNat) (by omega)
  have a2 := hx_ne (n := (a % 8192 / 256 % 16).toNat) (by omega)
  have a3 := hx_ne (n := (a % 8192 / 16 % 16).toNat) (by omega)
  have a4 := hx_ne (n := (a % 8192 % 16).toNat) (by omega)
  have := hex2_no (a / 8192 % 256)
  simp only [physF, hex4, List.mem_append, List.mem_cons, List.not_mem_nil, or_false, not_or]
  exact ⟨this, by decide, a1, a2, a3, a4⟩
theorem lt_cases {k : Int} (h0 : 0 ≤ k) (h1 : k < 8) : Lib.index ltF [ltF.getD k.toNat 0] = k ∧ ltF.getD k.toNat 0 ≠ 32 := by
  obtain ⟨n, rfl⟩ := Int.eq_ofNat_of_zero_le h0
  have : n < 8 := by omega
  match n, this with
  | 0, _ | 1, _ | 2, _ | 3, _ | 4, _ | 5, _ | 6, _ | 7, _ => exact by decide
def zrD : Int × Int × Int × Bool × Int × Int := (0, 0, 0, false, 0, 3)
def wd (l : List (List UInt8)) (k : Nat) : List UInt8 := l.getD k []
def fin (line : List UInt8) (st ad kd : Int) (wr : Bool) (da : Int) : Int × Int × Int × Bool × Int × Int := if lnF st ad kd wr da = line then (st, ad, kd, wr, da, 0) else zrD
def kP (w : List UInt8) : Int := max (Lib.index ltF w) 0
def rdP (line : List UInt8) : Int × Int × Int × Bool × Int × Int :=
  let l := Lib.split line [32]
  if l.length = 5 then fin line (numI (wd l 0)) (phI (wd l 2)) (kP (wd l 1)) (wd l 3 == [119]) (hexI (wd l 4) % 256) else zrD
def wordsF (line : List UInt8) : List (List UInt8) := if ((wdF [] line).headD []).headD 0 = 35 then [] else wdF [] line
def kD (c : UInt8) : Int := if c = 86 then 7 else if c = 85 then 6 else if c = 80 then 5 else if c = 83 then 4 else if c = 76 then 3 else if c = 68 then 2 else if c = 79 then 1 else 0
def rdD (line : List UInt8) : Int × Int × Int × Bool × Int × Int :=
  let l := wordsF line
  if l.length = 5 ∧ (wd l 1).length = 1 then fin line (numI (wd l 0)) (phI (wd l 2)) (kD ((wd l 1).getD 0 0)) (wd l 3 == [119]) (hexI (wd l 4) % 256) else zrD
theorem kd_lt {k : Int} (h0 : 0 ≤ k) (h1 : k < 8) : kD (ltF.getD k.toNat 0) = k := by
  obtain ⟨n, rfl⟩ := Int.eq_ofNat_of_zero_le h0
  have : n < 8 := by omega
  match n, this with
  | 0, _ | 1, _ | 2, _ | 3, _ | 4, _ | 5, _ | 6, _ | 7, _ => exact by decide
theorem fin_self {st ad kd : Int} {wr : Bool} {da : Int} : fin (lnF st ad kd wr da) st ad kd wr da = (st, ad, kd, wr, da, 0) := if_pos rfl
theorem one_no {c : UInt8} (h : c ≠ 32) : (32 : UInt8) ∉ [c] := by simp [Ne.symm h]
theorem wr_no (wr : Bool) : (32 : UInt8) ∉ ([if wr then 119 else 114] : List UInt8) := by cases wr <;> simp
theorem wr_eq (wr : Bool) : (([if wr then 119 else 114] : List UInt8) == [119]) = wr := by cases wr <;> rfl
theorem dec_no (n : Nat) : (32 : UInt8) ∉ decF n := dig_no (dec_dig n)
theorem rdP_of {st ad kd : Int} {wr : Bool} {da : Int} (h : mayG st ad kd = true) (ha : 0 ≤ ad) (hk : 0 ≤ kd) (hd : 0 ≤ da ∧ da ≤ 255) : rdP (lnF st ad kd wr da) = (st, ad, kd, wr, da, 0) := by
  obtain ⟨h1, h2, h3, h4⟩ := may_iff.1 h
  have hs : Lib.split (lnF st ad kd wr da) [32] = [decF st.toNat, [ltF.getD kd.toNat 0], physF ad, [if wr then 119 else 114], hex2 da] := by
    unfold lnF
    rw [h, cond_true, spl_hit _ (dec_no _), spl_hit _ (one_no (lt_cases hk h4).2), spl_hit _ (phys_no _), spl_hit _ (wr_no _), spl_no (hex2_no _)]
  have e1 : numI (decF st.toNat) = st := by rw [num_dec (by omega)]; omega
  have e3 : kP [ltF.getD kd.toNat 0] = kd := by unfold kP; rw [(lt_cases hk h4).1]; omega
  have e5 : hexI (hex2 da) % 256 = da := by rw [(hex2_val hd.1 hd.2).2]; omega
  unfold rdP
  rw [hs]
  show fin _ (numI (decF st.toNat)) (phI (physF ad)) (kP [ltF.getD kd.toNat 0]) (([if wr then 119 else 114] : List UInt8) == [119]) (hexI (hex2 da) % 256) = _
  rw [e1, ph_val ha h3, e3, wr_eq, e5, fin_self]
theorem dec_first (n : Nat) : (decF n).headD 0 ≠ 35 := by
  cases hq : decF n with
  | nil => exact by decide
  | cons c l =>
    have h := dec_dig n
    rw [hq, List.all_cons, Bool.and_eq_true] at h
    intro q
    have q : c = 35 := q
    rw [q] at h
    exact absurd h.1 (by decide)
theorem rdD_of {st ad kd : Int} {wr : Bool} {da : Int} (h : mayG st ad kd = true) (ha : 0 ≤ ad) (hk : 0 ≤ kd) (hd : 0 ≤ da ∧ da ≤ 255) : rdD (lnF st ad kd wr da) = (st, ad, kd, wr, da, 0) := by
  obtain ⟨h1, h2, h3, h4⟩ := may_iff.1 h
  have hs : wdF [] (lnF st ad kd wr da) = [decF st.toNat, [ltF.getD kd.toNat 0], physF ad, [if wr then 119 else 114], hex2 da] := by
    unfold lnF
    rw [h, cond_true, wd_hit _ (dec_no _) (dec_ne _), wd_hit _ (one_no (lt_cases hk h4).2) (by simp), wd_hit _ (phys_no _) (by simp [physF]), wd_hit _ (wr_no _) (by simp), wd_end (hex2_no _) (by simp [hex2])]
  have hw : wordsF (lnF st ad kd wr da) = [decF st.toNat, [ltF.getD kd.toNat 0], physF ad, [if wr then 119 else 114], hex2 da] := by
    unfold wordsF
    rw [hs]
    exact if_neg (dec_first _)
  have e1 : numI (decF st.toNat) = st := by rw [num_dec (by omega)]; omega
  have e5 : hexI (hex2 da) % 256 = da := by rw [(hex2_val hd.1 hd.2).2]; omega
  unfold rdD
  rw [hw]
  show fin _ (numI (decF st.toNat)) (phI (physF ad)) (kD (ltF.getD kd.toNat 0)) (([if wr then 119 else 114] : List UInt8) == [119]) (hexI (hex2 da) % 256) = _
  rw [e1, ph_val ha h3, kd_lt hk h4, wr_eq, e5, fin_self]
theorem kD_rg (c : UInt8) : 0 ≤ kD c := by
  unfold kD
  repeat' split
  all_goals omega
theorem rd_same (line : List UInt8) : rdD line = rdP line := by
  by_cases hx : ∃ st ad kd : Int, ∃ wr : Bool, ∃ da : Int, mayG st ad kd = true ∧ 0 ≤ ad ∧ 0 ≤ kd ∧ (0 ≤ da ∧ da ≤ 255) ∧ lnF st ad kd wr da = line
  · obtain ⟨st, ad, kd, wr, da, h1, h2, h3, h4, rfl⟩ := hx
    rw [rdP_of h1 h2 h3 h4, rdD_of h1 h2 h3 h4]
  · have key : ∀ (st ad kd : Int) (wr : Bool) (da : Int), 0 ≤ ad → 0 ≤ kd → (0 ≤ da ∧ da ≤ 255) → line ≠ [] → fin line st ad kd wr da = zrD := by
      intro st ad kd wr da h2 h3 h4 hn
      unfold fin
      split
      · rename_i hq
        cases hm : mayG st ad kd with
        | true => exact absurd ⟨st, ad, kd, wr, da, hm, h2, h3, h4, hq⟩ hx
        | false =>
          unfold lnF at hq
          rw [hm] at hq
          exact absurd hq.symm hn
      · rfl
    have e1 : rdP line = zrD := by
      unfold rdP
      by_cases hl : (Lib.split line [32]).length = 5
      · show (if (Lib.split line [32]).length = 5 then _ else _) = _
        rw [if_pos hl]
        refine key _ _ _ _ _ (phI_rg _) (by unfold kP; omega) (by omega) ?_
        rintro rfl
        rw [spl_no (by simp)] at hl
        simp at hl
      · show (if (Lib.split line [32]).length = 5 then _ else _) = _
        rw [if_neg hl]
    have e2 : rdD line = zrD := by
      unfold rdD
      by_cases hl : (wordsF line).length = 5 ∧ (wd (wordsF line) 1).length = 1
      · show (if (wordsF line).length = 5 ∧ (wd (wordsF line) 1).length = 1 then _ else _) = _
        rw [if_pos hl]
        refine key _ _ _ _ _ (phI_rg _) (kD_rg _) (by omega) ?_
        rintro rfl
        exact absurd hl.1 (by decide)
      · show (if (wordsF line).length = 5 ∧ (wd (wordsF line) 1).length = 1 then _ else _) = _
        rw [if_neg hl]
    rw [e1, e2]
theorem rdP_not {st ad kd : Int} {wr : Bool} {da : Int} (h : mayG st ad kd = false) : rdP (lnF st ad kd wr da) = zrD := by
  have : lnF st ad kd wr da = [] := by unfold lnF; rw [h]; rfl
  rw [this]
  unfold rdP
  rw [spl_no (by simp)]; rfl
end Go.Proofs.YtciemdpcllpdkaaDoor
