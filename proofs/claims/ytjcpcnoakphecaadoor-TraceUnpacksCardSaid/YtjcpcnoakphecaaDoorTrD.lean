/-
  Accesses as bytes and back, in plain words. Conditions: none.
-/
import Derived.Test.YtjcpcnoakphecaaDoorLog10
set_option linter.unusedSectionVars false
set_option linter.unusedVariables false
set_option linter.unusedSimpArgs false
namespace Go.Proofs.YtjcpcnoakphecaaDoor
open Go Go.AE Go.SX
set_option maxRecDepth 100000
theorem wrap_range (k : IntKind) (x : Int) : kMin k ≤ k.wrap x ∧ k.wrap x ≤ kMax k := by
  constructor
  · cases k <;> simp [IntKind.wrap, IntKind.bits, IntKind.signed, kMin] <;> (try split) <;> omega
  · cases k <;> simp [IntKind.wrap, IntKind.bits, IntKind.signed, kMax] <;> (try split) <;> omega
theorem wrapIn {k : IntKind} {n : Int} (h1 : kMin k ≤ n) (h2 : n ≤ kMax k) : k.wrap n = n := by
  cases k
  · exact IntWalk.i8_in n ⟨h1, h2⟩
  · exact IntWalk.i16_in n ⟨h1, h2⟩
  · exact IntWalk.i32_in n ⟨h1, h2⟩
  · exact IntWalk.i64_in n ⟨h1, h2⟩
  · exact IntWalk.u8_in n ⟨h1, h2⟩
  · exact IntWalk.u16_in n ⟨h1, h2⟩
  · exact IntWalk.u32_in n ⟨h1, h2⟩
  · exact IntWalk.u64_in n ⟨h1, h2⟩
theorem wrap_wrap (k : IntKind) (x : Int) : k.wrap (k.wrap x) = k.wrap x := wrapIn (wrap_range k x).1 (wrap_range k x).2
def rSt (r : List A) : Int := IntKind.i64.wrap (r.getD 0 (.i 0)).toI
def rAd (r : List A) : Int := IntKind.u32.wrap (r.getD 1 (.i 0)).toI
def rKd (r : List A) : Int := IntKind.u8.wrap (r.getD 2 (.i 0)).toI
def rWr (r : List A) : Bool := (r.getD 3 (.i 0)).toB
def rDa (r : List A) : Int := IntKind.u8.wrap (r.getD 4 (.i 0)).toI
def mayF (st ad kd : Int) : Bool := ((!decide (st < 0) && !decide (1125899906842624 < st)) && decide (ad < 2097152)) && decide (kd < 8)
def mayR (r : List A) : Bool := mayF (rSt r) (rAd r) (rKd r)
def wayF (d : Int) : Int := if d = 3 then 0 else if d = 6 then 1 else if d = 12 then 2 else if d = 24 then 3 else 4
def byB (n : Int) : UInt8 := UInt8.ofNat (n % 256).toNat
def beF (n : Int) : List UInt8 := [byB (n / 72057594037927936), byB (n / 281474976710656), byB (n / 1099511627776), byB (n / 4294967296), byB (n / 16777216), byB (n / 65536), byB (n / 256), byB n]
def hdF (r : List A) (w : Int) : Int := rKd r + 16 * w + (if rWr r then 8 else 0)
def tlF (r : List A) : List UInt8 := [byB (rAd r), byB (rAd r / 256), byB (rAd r / 65536), byB (rDa r)]
def oneF (r : List A) (ah : Int) : List UInt8 := byB (hdF r (wayF (rSt r - ah))) :: ((if wayF (rSt r - ah) = 4 then beF (rSt r) else []) ++ tlF r)
def rowN (l : List (List A)) (i : Nat) : List A := l.getD i []
def ahd (l : List (List A)) : Nat → Int
  | 0 => 0
  | i + 1 => rSt (rowN l i)
def pkF (l : List (List A)) : Nat → List UInt8
  | 0 => []
  | i + 1 => pkF l i ++ oneF (rowN l i) (ahd l i)
def faF (l : List (List A)) : Nat := l.findIdx fun r => !mayR r
theorem may_iff {r : List A} : mayR r = true ↔ 0 ≤ rSt r ∧ rSt r ≤ 1125899906842624 ∧ rAd r < 2097152 ∧ rKd r < 8 := by
  unfold mayR mayF
  simp only [Bool.and_eq_true, Bool.not_eq_true', decide_eq_false_iff_not, decide_eq_true_eq]
  omega
theorem wayF_rg (d : Int) : 0 ≤ wayF d ∧ wayF d ≤ 4 := by
  unfold wayF
  repeat' split
  all_goals omega
theorem u8_rg (x : Int) : 0 ≤ IntKind.u8.wrap x ∧ IntKind.u8.wrap x ≤ 255 := wrap_range .u8 x
theorem u32_rg (x : Int) : 0 ≤ IntKind.u32.wrap x ∧ IntKind.u32.wrap x ≤ 4294967295 := wrap_range .u32 x
theorem one_len (r : List A) (ah : Int) : 5 ≤ (oneF r ah).length ∧ (oneF r ah).length ≤ 13 := by
  unfold oneF tlF beF
  split <;> simp
theorem fa_le (l : List (List A)) : faF l ≤ l.length := List.findIdx_le_length
theorem rowN_get {l : List (List A)} {i : Nat} (h : i < l.length) : rowN l i = l[i] := by
  unfold rowN
  rw [List.getD_eq_getElem?_getD, List.getElem?_eq_getElem h]; rfl
theorem fa_may {l : List (List A)} {i : Nat} (h : i < faF l) : mayR (rowN l i) = true := by
  have hl : i < l.length := Nat.lt_of_lt_of_le h (fa_le l)
  have := List.not_of_lt_findIdx h
  rw [rowN_get hl]
  simpa using this
theorem fa_not {l : List (List A)} (h : faF l < l.length) : mayR (rowN l (faF l)) = false := by
  have h2 := List.findIdx_getElem (w := h)
  rw [rowN_get h]
  revert h2
  show ((!mayR l[faF l]) = true) → _
  cases mayR l[faF l] <;> simp
theorem fa_next {l : List (List A)} {i : Nat} (h : i ≤ faF l) (hl : i < l.length) (hm : mayR (rowN l i) = true) : i + 1 ≤ faF l := by
  rcases Nat.lt_or_eq_of_le h with h | h
  · exact h
  · subst h
    rw [fa_not hl] at hm; cases hm
theorem fa_all {l : List (List A)} (h : ∀ i, i < l.length → mayR (rowN l i) = true) : faF l = l.length := by
  rcases Nat.lt_or_eq_of_le (fa_le l) with h1 | h1
  · have := h _ h1
    rw [fa_not h1] at this; cases this
  · exact h1
theorem pk_len (l : List (List A)) : ∀ i, 5 * i ≤ (pkF l i).length ∧ (pkF l i).length ≤ 13 * i
  | 0 => by simp [pkF]
  | i + 1 => by
    have := pk_len l i
    have := one_len (rowN l i) (ahd l i)
    simp only [pkF, List.length_append]
    omega
def PkP (l : List (List A)) (i ah : Int) (out : List UInt8) : Prop := 0 ≤ i ∧ i.toNat ≤ faF l ∧ ah = ahd l i.toNat ∧ out = pkF l i.toNat
theorem pk_next {l : List (List A)} {i ah : Int} {out : List UInt8} (h : PkP l i ah out) (hl : i < (l.length : Nat)) (hm : mayR (rowN l i.toNat) = true) : PkP l (i + 1) (rSt (rowN l i.toNat)) (out ++ oneF (rowN l i.toNat) ah) := by
  obtain ⟨h0, h1, rfl, rfl⟩ := h
  have e : (i + 1).toNat = i.toNat + 1 := by omega
  refine ⟨by omega, ?_, ?_, ?_⟩
  · rw [e]; exact fa_next h1 (by omega) hm
  · rw [e]; rfl
  · rw [e]; rfl
def gb (l : List UInt8) (k : Nat) : Int := ((l.getD k 0).toNat : Nat)
theorem gb_rg (l : List UInt8) (k : Nat) : 0 ≤ gb l k ∧ gb l k ≤ 255 := by
  have := (l.getD k 0).toNat_lt
  unfold gb; omega
def beR (l : List UInt8) : Int := gb l 1 * 72057594037927936 + gb l 2 * 281474976710656 + gb l 3 * 1099511627776 + gb l 4 * 4294967296 + gb l 5 * 16777216 + gb l 6 * 65536 + gb l 7 * 256 + gb l 8
def dW (w : Int) : Int := if w = 0 then 3 else if w = 1 then 6 else if w = 2 then 12 else 24
def rdL (l : List UInt8) : Nat := if gb l 0 < 64 then 5 else 13
def rdS (l : List UInt8) (ah : Int) : Int := if gb l 0 < 64 then ah + dW (gb l 0 / 16) else beR l
def rdA (l : List UInt8) : Int := gb l (rdL l - 4) + gb l (rdL l - 3) * 256 + gb l (rdL l - 2) * 65536
def rdOk (l : List UInt8) (ah : Int) : Bool := decide (gb l 0 < 80) && (Nat.ble (rdL l) l.length && (decide (0 ≤ rdS l ah) && (decide (rdS l ah ≤ 1125899906842624) && (decide (rdA l < 2097152) && (decide (gb l 0 < 64) || decide (wayF (rdS l ah - ah) = 4))))))
def rdD (l : List UInt8) (ah : Int) : D := bif rdOk l ah then .p (.i (rdS l ah)) (.p (.i (rdA l)) (.p (.i (gb l 0 % 8)) (.p (.b (decide (gb l 0 / 8 % 2 = 1))) (.p (.i (gb l (rdL l - 1))) (.i (rdL l : Nat))))))
  else .p (.i 0) (.p (.i 0) (.p (.i 0) (.p (.b false) (.p (.i 0) (.i 0)))))
def dSt (d : D) : Int := d.fst.toI
def dAd (d : D) : Int := d.snd.fst.toI
def dKd (d : D) : Int := d.snd.snd.fst.toI
def dWr (d : D) : Bool := d.snd.snd.snd.fst.toB
def dDa (d : D) : Int := d.snd.snd.snd.snd.fst.toI
def dN (d : D) : Int := d.snd.snd.snd.snd.snd.toI
def dRow (d : D) : List A := [.i (dSt d), .i (dAd d), .i (dKd d), .b (dWr d), .i (dDa d)]
theorem rdok_iff {l : List UInt8} {ah : Int} : rdOk l ah = true ↔ gb l 0 < 80 ∧ rdL l ≤ l.length ∧ 0 ≤ rdS l ah ∧ rdS l ah ≤ 1125899906842624 ∧ rdA l < 2097152 ∧ (gb l 0 < 64 ∨ wayF (rdS l ah - ah) = 4) := by
  unfold rdOk
  simp only [Bool.and_eq_true, Bool.or_eq_true, decide_eq_true_eq, Nat.ble_eq]
theorem rd_rg (l : List UInt8) (ah : Int) : (0 ≤ dSt (rdD l ah) ∧ dSt (rdD l ah) ≤ 1125899906842624) ∧ (0 ≤ dAd (rdD l ah) ∧ dAd (rdD l ah) ≤ 2097151) ∧ (0 ≤ dKd (rdD l ah) ∧ dKd (rdD l ah) ≤ 7) ∧ (0 ≤ dDa (rdD l ah) ∧ dDa (rdD l ah) ≤ 255) ∧ (0 ≤ dN (rdD l ah) ∧ dN (rdD l ah) ≤ 13) := by
  unfold rdD
  cases h : rdOk l ah with
  | false =>
    show (0 ≤ (0 : Int) ∧ (0 : Int) ≤ _) ∧ (0 ≤ (0 : Int) ∧ (0 : Int) ≤ _) ∧ (0 ≤ (0 : Int) ∧ (0 : Int) ≤ _) ∧ (0 ≤ (0 : Int) ∧ (0 : Int) ≤ _) ∧ (0 ≤ (0 : Int) ∧ (0 : Int) ≤ _)
    omega
  | true =>
    obtain ⟨h1, h2, h3, h4, h5, h6⟩ := rdok_iff.1 h
    show (0 ≤ rdS l ah ∧ rdS l ah ≤ _) ∧ (0 ≤ rdA l ∧ rdA l ≤ _) ∧ (0 ≤ gb l 0 % 8 ∧ gb l 0 % 8 ≤ _) ∧ (0 ≤ gb l (rdL l - 1) ∧ gb l (rdL l - 1) ≤ _) ∧ (0 ≤ ((rdL l : Nat) : Int) ∧ ((rdL l : Nat) : Int) ≤ _)
    have := gb_rg l 0
    have := gb_rg l (rdL l - 1)
    have := gb_rg l (rdL l - 2)
    have := gb_rg l (rdL l - 3)
    have := gb_rg l (rdL l - 4)
    have hl : rdL l ≤ 13 := by unfold rdL; split <;> omega
    unfold rdA at *
    omega
theorem rd_n {l : List UInt8} {ah : Int} (h : dN (rdD l ah) ≠ 0) : rdOk l ah = true := by
  cases hk : rdOk l ah with
  | true => rfl
  | false =>
    exfalso; apply h
    unfold rdD; rw [hk]; rfl
theorem rdL_two (l : List UInt8) : rdL l = 5 ∨ rdL l = 13 := by unfold rdL; split <;> simp
theorem rd_eq {l : List UInt8} {ah : Int} (h : rdOk l ah = true) : rdD l ah = .p (.i (rdS l ah)) (.p (.i (rdA l)) (.p (.i (gb l 0 % 8)) (.p (.b (decide (gb l 0 / 8 % 2 = 1))) (.p (.i (gb l (rdL l - 1))) (.i (rdL l : Nat)))))) := by
  unfold rdD; rw [h]; rfl
def upS (b : List UInt8) : Nat → Int × Int × List (List A)
  | 0 => (0, 0, [])
  | k + 1 => let s := upS b k
    if s.1 < (b.length : Nat) ∧ dN (rdD (b.drop s.1.toNat) s.2.1) ≠ 0 then (s.1 + dN (rdD (b.drop s.1.toNat) s.2.1), dSt (rdD (b.drop s.1.toNat) s.2.1), s.2.2 ++ [dRow (rdD (b.drop s.1.toNat) s.2.1)]) else s
def UpP (b : List UInt8) (off ah : Int) (out : List (List A)) : Prop := 0 ≤ off ∧ off ≤ (b.length : Nat) ∧ upS b out.length = (off, ah, out) ∧ 5 * (out.length : Int) ≤ off
def urF (b : List UInt8) : List (List A) := (upS b b.length).2.2
def okU (b : List UInt8) : Bool := decide ((upS b b.length).1 = (b.length : Nat))
theorem up_len {b : List UInt8} {off ah : Int} {out : List (List A)} (h : UpP b off ah out) (hl : off < (b.length : Nat)) (hn : dN (rdD (b.drop off.toNat) ah) ≠ 0) : 5 ≤ dN (rdD (b.drop off.toNat) ah) ∧ off + dN (rdD (b.drop off.toNat) ah) ≤ (b.length : Nat) := by
  have hk := rd_n hn
  have e : dN (rdD (b.drop off.toNat) ah) = (rdL (b.drop off.toNat) : Nat) := by rw [rd_eq hk]; rfl
  obtain ⟨_, h2, _⟩ := rdok_iff.1 hk
  have := rdL_two (b.drop off.toNat)
  rw [List.length_drop] at h2
  have := h.1
  rw [e]; omega
theorem up_next {b : List UInt8} {off ah : Int} {out : List (List A)} (h : UpP b off ah out) (hl : off < (b.length : Nat)) (hn : dN (rdD (b.drop off.toNat) ah) ≠ 0) : UpP b (off + dN (rdD (b.drop off.toNat) ah)) (dSt (rdD (b.drop off.toNat) ah)) (out ++ [dRow (rdD (b.drop off.toNat) ah)]) := by
  obtain ⟨g1, g2⟩ := up_len h hl hn
  obtain ⟨h0, h1, h2, h3⟩ := h
  refine ⟨by omega, g2, ?_, by rw [List.length_append, List.length_singleton]; omega⟩
  rw [List.length_append, List.length_singleton, upS, h2]
  exact if_pos ⟨hl, hn⟩
theorem up_stop {b : List UInt8} {k : Nat} (h : ¬ ((upS b k).1 < (b.length : Nat) ∧ dN (rdD (b.drop (upS b k).1.toNat) (upS b k).2.1) ≠ 0)) : ∀ m, upS b (k + m) = upS b k
  | 0 => rfl
  | m + 1 => by
    have ih := up_stop h m
    show upS b ((k + m) + 1) = _
    rw [upS, ih]
    exact if_neg h
theorem up_fix {b : List UInt8} {off ah : Int} {out : List (List A)} (h : UpP b off ah out) (hs : ¬ (off < (b.length : Nat) ∧ dN (rdD (b.drop off.toNat) ah) ≠ 0)) : upS b b.length = (off, ah, out) := by
  obtain ⟨h0, h1, h2, h3⟩ := h
  have hle : out.length ≤ b.length := by omega
  have := up_stop (b := b) (k := out.length) (by rw [h2]; exact hs) (b.length - out.length)
  rw [Nat.add_sub_cancel' hle, h2] at this
  exact this
theorem up_end {b : List UInt8} {off ah : Int} {out : List (List A)} (h : UpP b off ah out) (hl : ¬ off < (b.length : Nat)) : urF b = out ∧ okU b = true := by
  have := up_fix h fun q => hl q.1
  have h1 := h.2.1
  unfold urF okU
  rw [this]
  exact ⟨rfl, decide_eq_true (by show off = _; omega)⟩
theorem up_bad {b : List UInt8} {off ah : Int} {out : List (List A)} (h : UpP b off ah out) (hl : off < (b.length : Nat)) (hn : dN (rdD (b.drop off.toNat) ah) = 0) : urF b = out ∧ okU b = false := by
  have := up_fix h fun q => q.2 hn
  unfold urF okU
  rw [this]
  exact ⟨rfl, decide_eq_false (by show ¬ off = _; omega)⟩
theorem up_init (b : List UInt8) : UpP b 0 0 [] := ⟨Int.le_refl _, Int.natCast_nonneg _, rfl, by simp⟩
theorem byB_nat (n : Int) : ((byB n).toNat : Int) = n % 256 := by
  have h1 := Int.emod_nonneg n (b := 256) (by omega)
  have h2 := Int.emod_lt_of_pos n (b := 256) (by omega)
  show ((UInt8.ofNat (n % 256).toNat).toNat : Int) = _
  rw [UInt8.toNat_ofNat', Nat.mod_eq_of_lt (by omega)]
  omega
def canon (r : List A) : List A := [.i (rSt r), .i (rAd r), .i (rKd r), .b (rWr r), .i (rDa r)]
theorem rd_one {r : List A} {ah : Int} (rest : List UInt8) (hm : mayR r = true) : rdD (oneF r ah ++ rest) ah = .p (.i (rSt r)) (.p (.i (rAd r)) (.p (.i (rKd r)) (.p (.b (rWr r)) (.p (.i (rDa r)) (.i ((oneF r ah).length : Nat)))))) := by
  obtain ⟨m1, m2, m3, m4⟩ := may_iff.1 hm
  have hw := wayF_rg (rSt r - ah)
  have hk : 0 ≤ rKd r ∧ rKd r ≤ 255 := u8_rg _
  have ha : 0 ≤ rAd r ∧ rAd r ≤ 4294967295 := u32_rg _
  have hd : 0 ≤ rDa r ∧ rDa r ≤ 255 := u8_rg _
  have h0 : gb (oneF r ah ++ rest) 0 = hdF r (wayF (rSt r - ah)) := by
    show ((byB _).toNat : Int) = _
    rw [byB_nat]
    unfold hdF
    split <;> omega
  have hb : (if rWr r then (8 : Int) else 0) = 8 ∧ rWr r = true ∨ (if rWr r then (8 : Int) else 0) = 0 ∧ rWr r = false := by
    cases rWr r <;> simp
  have hwr : decide (hdF r (wayF (rSt r - ah)) / 8 % 2 = 1) = rWr r := by
    unfold hdF
    rcases hb with ⟨e1, e2⟩ | ⟨e1, e2⟩
    · rw [e1, e2]; exact decide_eq_true (by omega)
    · rw [e1, e2]; exact decide_eq_false (by omega)
  have hkd : hdF r (wayF (rSt r - ah)) % 8 = rKd r := by
    unfold hdF
    rcases hb with ⟨e1, e2⟩ | ⟨e1, e2⟩ <;> rw [e1] <;> omega
  by_cases hw4 : wayF (rSt r - ah) = 4
  · have ho : oneF r ah = byB (hdF r 4) :: (beF (rSt r) ++ tlF r) := by
      unfold oneF; rw [hw4, if_pos rfl]
    have hh : ¬ hdF r (wayF (rSt r - ah)) < 64 ∧ hdF r (wayF (rSt r - ah)) < 80 := by
      rw [hw4]; unfold hdF
      rcases hb with ⟨e1, e2⟩ | ⟨e1, e2⟩ <;> rw [e1] <;> omega
    have hL : rdL (oneF r ah ++ rest) = 13 := by unfold rdL; rw [h0, if_neg hh.1]
    have hS : rdS (oneF r ah ++ rest) ah = rSt r := by
      unfold rdS; rw [h0, if_neg hh.1]
      unfold beR
      rw [ho]
      show ((byB _).toNat : Int) * _ + ((byB _).toNat : Int) * _ + ((byB _).toNat : Int) * _ + ((byB _).toNat : Int) * _ + ((byB _).toNat : Int) * _ + ((byB _).toNat : Int) * _ + ((byB _).toNat : Int) * _ + ((byB _).toNat : Int) = _
      simp only [byB_nat]
      omega
    have hA : rdA (oneF r ah ++ rest) = rAd r := by
      unfold rdA; rw [hL, ho]
      show ((byB _).toNat : Int) + ((byB _).toNat : Int) * _ + ((byB _).toNat : Int) * _ = _
      simp only [byB_nat]
      omega
    have hD : gb (oneF r ah ++ rest) (rdL (oneF r ah ++ rest) - 1) = rDa r := by
      rw [hL, ho]
      show ((byB _).toNat : Int) = _
      rw [byB_nat]; omega
    have hlen : (oneF r ah).length = 13 := by rw [ho]; rfl
    have hok : rdOk (oneF r ah ++ rest) ah = true := rdok_iff.2 ⟨by rw [h0]; exact hh.2, by rw [hL, List.length_append, hlen]; omega, by rw [hS]; exact m1, by rw [hS]; exact m2, by rw [hA]; exact m3, .inr (by rw [hS]; exact hw4)⟩
    rw [rd_eq hok, hS, hA, hD, h0, hkd, hwr, hL, hlen]
  · have ho : oneF r ah = byB (hdF r (wayF (rSt r - ah))) :: tlF r := by
      unfold oneF; rw [if_neg hw4]; rfl
    have hh : hdF r (wayF (rSt r - ah)) < 64 := by
      unfold hdF
      rcases hb with ⟨e1, e2⟩ | ⟨e1, e2⟩ <;> rw [e1] <;> omega
    have hL : rdL (oneF r ah ++ rest) = 5 := by unfold rdL; rw [h0, if_pos hh]
    have hq : hdF r (wayF (rSt r - ah)) / 16 = wayF (rSt r - ah) := by
      unfold hdF
      rcases hb with ⟨e1, e2⟩ | ⟨e1, e2⟩ <;> rw [e1] <;> omega
    have hS : rdS (oneF r ah ++ rest) ah = rSt r := by
      unfold rdS; rw [h0, if_pos hh, hq]
      unfold wayF at hw4 ⊢
      unfold dW
      repeat' split
      all_goals first | omega | (split at hw4 <;> omega) | skip
      all_goals (repeat' split at hw4) <;> omega
    have hA : rdA (oneF r ah ++ rest) = rAd r := by
      unfold rdA; rw [hL, ho]
      show ((byB _).toNat : Int) + ((byB _).toNat : Int) * _ + ((byB _).toNat : Int) * _ = _
      simp only [byB_nat]
      omega
    have hD : gb (oneF r ah ++ rest) (rdL (oneF r ah ++ rest) - 1) = rDa r := by
      rw [hL, ho]
      show ((byB _).toNat : Int) = _
      rw [byB_nat]; omega
    have hlen : (oneF r ah).length = 5 := by rw [ho]; rfl
    have hok : rdOk (oneF r ah ++ rest) ah = true := rdok_iff.2 ⟨by rw [h0]; omega, by rw [hL, List.length_append, hlen]; omega, by rw [hS]; exact m1, by rw [hS]; exact m2, by rw [hA]; exact m3, .inl (by rw [h0]; exact hh)⟩
    rw [rd_eq hok, hS, hA, hD, h0, hkd, hwr, hL, hlen]
theorem pk_pre (l : List (List A)) (i : Nat) : ∀ m, ∃ x, pkF l (i + m) = pkF l i ++ x
  | 0 => ⟨[], by simp⟩
  | m + 1 => by
    obtain ⟨x, hx⟩ := pk_pre l i m
    exact ⟨x ++ oneF (rowN l (i + m)) (ahd l (i + m)), by rw [← List.append_assoc, ← hx]; rfl⟩
theorem pk_up {l : List (List A)} (h : l.length ≤ faF l) : ∀ i, i ≤ l.length → upS (pkF l l.length) i = ((((pkF l i).length : Nat) : Int), ahd l i, (List.range i).map fun k => canon (rowN l k))
  | 0, _ => rfl
  | i + 1, hi => by
    have ih := pk_up h i (by omega)
    obtain ⟨x, hx⟩ := pk_pre l (i + 1) (l.length - (i + 1))
    rw [Nat.add_sub_cancel' hi] at hx
    have hx : pkF l l.length = pkF l i ++ (oneF (rowN l i) (ahd l i) ++ x) := by rw [hx, ← List.append_assoc]; rfl
    have hm := fa_may (l := l) (i := i) (by omega)
    have hdr : (pkF l l.length).drop (pkF l i).length = oneF (rowN l i) (ahd l i) ++ x := by
      rw [hx]; exact List.drop_left
    rw [upS, ih]
    show (if _ ∧ dN (rdD ((pkF l l.length).drop (((pkF l i).length : Nat) : Int).toNat) (ahd l i)) ≠ 0 then _ else _) = _
    rw [Int.toNat_natCast, hdr, rd_one x hm]
    have h5 := one_len (rowN l i) (ahd l i)
    rw [if_pos ⟨by rw [hx, List.length_append, List.length_append]; show (((pkF l i).length : Nat) : Int) < _; omega, by show (((oneF (rowN l i) (ahd l i)).length : Nat) : Int) ≠ 0; omega⟩]
    show ((((pkF l i).length : Nat) : Int) + (((oneF (rowN l i) (ahd l i)).length : Nat) : Int), rSt (rowN l i), _) = _
    refine Prod.ext ?_ (Prod.ext rfl ?_)
    · show _ = (((pkF l i ++ oneF (rowN l i) (ahd l i)).length : Nat) : Int)
      rw [List.length_append]; omega
    · show (List.range i).map _ ++ [canon (rowN l i)] = (List.range (i + 1)).map _
      rw [List.range_succ, List.map_append]; rfl
theorem pk_back {l : List (List A)} (h : l.length ≤ faF l) : okU (pkF l l.length) = true ∧ urF (pkF l l.length) = (List.range l.length).map fun k => canon (rowN l k) := by
  have e := pk_up h l.length (Nat.le_refl _)
  have hu : UpP (pkF l l.length) (((pkF l l.length).length : Nat) : Int) (ahd l l.length) ((List.range l.length).map fun k => canon (rowN l k)) := by
    refine ⟨Int.natCast_nonneg _, Int.le_refl _, ?_, ?_⟩
    · rw [List.length_map, List.length_range]; exact e
    · rw [List.length_map, List.length_range]
      have := pk_len l l.length
      omega
  obtain ⟨h1, h2⟩ := up_end hu (Int.lt_irrefl _)
  exact ⟨h2, h1⟩
theorem back_len {l : List (List A)} (h : l.length ≤ faF l) : (urF (pkF l l.length)).length = l.length := by
  rw [(pk_back h).2, List.length_map, List.length_range]
theorem back_row {l : List (List A)} (h : l.length ≤ faF l) {i : Nat} (hi : i < l.length) : rowN (urF (pkF l l.length)) i = canon (rowN l i) := by
  rw [(pk_back h).2]
  unfold rowN
  rw [List.getD_eq_getElem?_getD, List.getElem?_map, List.getElem?_range hi]; rfl
theorem wrap64 {x : Int} (h0 : 0 ≤ x) (h1 : x ≤ 9223372036854775807) : IntKind.i64.wrap x = x := wrapIn (by show (-9223372036854775808 : Int) ≤ _; omega) h1
theorem canon_st (r : List A) : rSt (canon r) = rSt r := wrap_wrap .i64 _
theorem canon_ad (r : List A) : rAd (canon r) = rAd r := wrap_wrap .u32 _
theorem canon_kd (r : List A) : rKd (canon r) = rKd r := wrap_wrap .u8 _
theorem canon_da (r : List A) : rDa (canon r) = rDa r := wrap_wrap .u8 _
theorem row_of {d : D} (h1 : 0 ≤ dSt d ∧ dSt d ≤ 1125899906842624) (h2 : 0 ≤ dAd d ∧ dAd d ≤ 2097151) (h3 : 0 ≤ dKd d ∧ dKd d ≤ 7) (h4 : 0 ≤ dDa d ∧ dDa d ≤ 255) : rSt (dRow d) = dSt d ∧ rAd (dRow d) = dAd d ∧ rKd (dRow d) = dKd d ∧ rWr (dRow d) = dWr d ∧ rDa (dRow d) = dDa d :=
  ⟨show IntKind.i64.wrap (dSt d) = dSt d from wrap64 h1.1 (by omega), show IntKind.u32.wrap (dAd d) = dAd d from wrapIn (k := .u32) h2.1 (by show _ ≤ (4294967295 : Int); omega), show IntKind.u8.wrap (dKd d) = dKd d from wrapIn (k := .u8) h3.1 (by show _ ≤ (255 : Int); omega), rfl, show IntKind.u8.wrap (dDa d) = dDa d from wrapIn (k := .u8) h4.1 h4.2⟩
theorem gb_b (l : List UInt8) (k : Nat) {n : Int} (h : n % 256 = gb l k) : byB n = l.getD k 0 := by
  apply UInt8.toNat_inj.1
  have h1 := byB_nat n
  rw [h] at h1
  unfold gb at h1
  omega
theorem take5 {l : List UInt8} (h : 5 ≤ l.length) : l.take 5 = [l.getD 0 0, l.getD 1 0, l.getD 2 0, l.getD 3 0, l.getD 4 0] := by
  match l, h with
  | a :: b :: c :: d :: e :: l, _ => rfl
theorem take13 {l : List UInt8} (h : 13 ≤ l.length) : l.take 13 = [l.getD 0 0, l.getD 1 0, l.getD 2 0, l.getD 3 0, l.getD 4 0, l.getD 5 0, l.getD 6 0, l.getD 7 0, l.getD 8 0, l.getD 9 0, l.getD 10 0, l.getD 11 0, l.getD 12 0] := by
  match l, h with
  | a :: b :: c :: d :: e :: f :: g :: i :: j :: k :: m :: n :: o :: l, _ => rfl
theorem one_rd {l : List UInt8} {ah : Int} (h : rdOk l ah = true) : oneF (dRow (rdD l ah)) ah = l.take (rdL l) ∧ mayR (dRow (rdD l ah)) = true := by
  obtain ⟨h1, h2, h3, h4, h5, h6⟩ := rdok_iff.1 h
  obtain ⟨g1, g2, g3, g4, _⟩ := rd_rg l ah
  obtain ⟨r1, r2, r3, r4, r5⟩ := row_of g1 g2 g3 g4
  have e := rd_eq h
  have q1 : dSt (rdD l ah) = rdS l ah := by rw [e]; rfl
  have q2 : dAd (rdD l ah) = rdA l := by rw [e]; rfl
  have q3 : dKd (rdD l ah) = gb l 0 % 8 := by rw [e]; rfl
  have q4 : dWr (rdD l ah) = decide (gb l 0 / 8 % 2 = 1) := by rw [e]; rfl
  have q5 : dDa (rdD l ah) = gb l (rdL l - 1) := by rw [e]; rfl
  refine ⟨?_, may_iff.2 ⟨by omega, by omega, by omega, by omega⟩⟩
  have b0 := gb_rg l 0
  have hwr : (if rWr (dRow (rdD l ah)) then (8 : Int) else 0) = 8 * (gb l 0 / 8 % 2) := by
    rw [r4, q4]
    by_cases hb : gb l 0 / 8 % 2 = 1
    · rw [decide_eq_true hb, if_pos rfl, hb]; rfl
    · rw [decide_eq_false hb]; simp; omega
  unfold oneF hdF tlF
  rw [r1, r2, r3, r5, hwr, q1, q2, q3, q5]
  have b1 := gb_rg l (rdL l - 4)
  have b2 := gb_rg l (rdL l - 3)
  have b3 := gb_rg l (rdL l - 2)
  by_cases hs : gb l 0 < 64
  · have hL : rdL l = 5 := by unfold rdL; rw [if_pos hs]
    have hw : wayF (rdS l ah - ah) = gb l 0 / 16 := by
      unfold rdS
      rw [if_pos hs, show ah + dW (gb l 0 / 16) - ah = dW (gb l 0 / 16) from by omega]
      rcases (by omega : gb l 0 / 16 = 0 ∨ gb l 0 / 16 = 1 ∨ gb l 0 / 16 = 2 ∨ gb l 0 / 16 = 3) with hq | hq | hq | hq <;> rw [hq] <;> rfl
    have hA : rdA l = gb l 1 + gb l 2 * 256 + gb l 3 * 65536 := by unfold rdA; rw [hL]
    have c1 := gb_rg l 1
    have c2 := gb_rg l 2
    have c3 := gb_rg l 3
    rw [hw, if_neg (by omega), hL, take5 (by omega), hA]
    show [_, _, _, _, _] = _
    simp only [List.cons.injEq, and_true]
    exact ⟨gb_b l 0 (by omega), gb_b l 1 (by omega), gb_b l 2 (by omega), gb_b l 3 (by omega), gb_b l 4 (by show gb l 4 % 256 = gb l 4; have := gb_rg l 4; omega)⟩
  · have hL : rdL l = 13 := by unfold rdL; rw [if_neg hs]
    have hw : wayF (rdS l ah - ah) = 4 := h6.resolve_left hs
    have hA : rdA l = gb l 9 + gb l 10 * 256 + gb l 11 * 65536 := by unfold rdA; rw [hL]
    have hS : rdS l ah = beR l := by unfold rdS; rw [if_neg hs]
    have c1 := gb_rg l 1
    have c2 := gb_rg l 2
    have c3 := gb_rg l 3
    have c4 := gb_rg l 4
    have c5 := gb_rg l 5
    have c6 := gb_rg l 6
    have c7 := gb_rg l 7
    have c8 := gb_rg l 8
    have c9 := gb_rg l 9
    have c10 := gb_rg l 10
    have c11 := gb_rg l 11
    rw [hw, if_pos rfl, hL, take13 (by omega), hA, hS]
    unfold beF beR
    show [_, _, _, _, _, _, _, _, _, _, _, _, _] = _
    simp only [List.cons.injEq, and_true]
    have d12 := gb_rg l 12
    exact ⟨gb_b l 0 (by omega), gb_b l 1 (by omega), gb_b l 2 (by omega), gb_b l 3 (by omega), gb_b l 4 (by omega), gb_b l 5 (by omega), gb_b l 6 (by omega), gb_b l 7 (by omega), gb_b l 8 (by omega), gb_b l 9 (by omega), gb_b l 10 (by omega), gb_b l 11 (by omega), gb_b l 12 (by show gb l 12 % 256 = gb l 12; omega)⟩
theorem pk_app (l x : List (List A)) : ∀ i, i ≤ l.length → pkF (l ++ x) i = pkF l i ∧ ahd (l ++ x) i = ahd l i
  | 0, _ => ⟨rfl, rfl⟩
  | i + 1, h => by
    obtain ⟨h1, h2⟩ := pk_app l x i (by omega)
    have e : rowN (l ++ x) i = rowN l i := by
      unfold rowN
      rw [List.getD_eq_getElem?_getD, List.getElem?_append_left (by omega), ← List.getD_eq_getElem?_getD]
    exact ⟨by show pkF (l ++ x) i ++ oneF (rowN (l ++ x) i) (ahd (l ++ x) i) = _; rw [h1, h2, e]; rfl, by show rSt (rowN (l ++ x) i) = _; rw [e]; rfl⟩
theorem row_last (l : List (List A)) (r : List A) : rowN (l ++ [r]) l.length = r := by
  unfold rowN
  rw [List.getD_eq_getElem?_getD, List.getElem?_append_right (Nat.le_refl _), Nat.sub_self]; rfl
theorem up_pk (b : List UInt8) : ∀ k, 0 ≤ (upS b k).1 ∧ (upS b k).1 ≤ (b.length : Nat) ∧ pkF (upS b k).2.2 (upS b k).2.2.length = b.take (upS b k).1.toNat ∧ ahd (upS b k).2.2 (upS b k).2.2.length = (upS b k).2.1 ∧ ∀ i, i < (upS b k).2.2.length → mayR (rowN (upS b k).2.2 i) = true
  | 0 => ⟨Int.le_refl _, Int.natCast_nonneg _, rfl, rfl, fun i h => (by cases h)⟩
  | k + 1 => by
    have ih := up_pk b k
    have e : upS b (k + 1) = (let s := upS b k; if s.1 < (b.length : Nat) ∧ dN (rdD (b.drop s.1.toNat) s.2.1) ≠ 0 then (s.1 + dN (rdD (b.drop s.1.toNat) s.2.1), dSt (rdD (b.drop s.1.toNat) s.2.1), s.2.2 ++ [dRow (rdD (b.drop s.1.toNat) s.2.1)]) else s) := rfl
    revert ih e
    generalize upS b k = s
    obtain ⟨off, ah, out⟩ := s
    intro ih e
    obtain ⟨i0, i1, i2, i3, i4⟩ := ih
    dsimp only at i0 i1 i2 i3 i4 e
    by_cases hc : off < (b.length : Nat) ∧ dN (rdD (b.drop off.toNat) ah) ≠ 0
    · rw [if_pos hc] at e
      have hk := rd_n hc.2
      obtain ⟨o1, o2⟩ := one_rd hk
      have en : dN (rdD (b.drop off.toNat) ah) = (rdL (b.drop off.toNat) : Nat) := by rw [rd_eq hk]; rfl
      obtain ⟨_, h2, _⟩ := rdok_iff.1 hk
      rw [List.length_drop] at h2
      rw [e]
      have hl : (out ++ [dRow (rdD (b.drop off.toNat) ah)]).length = out.length + 1 := by simp
      obtain ⟨p1, p2⟩ := pk_app out [dRow (rdD (b.drop off.toNat) ah)] out.length (Nat.le_refl _)
      refine ⟨by dsimp only; omega, by dsimp only; omega, ?_, ?_, fun i hi => ?_⟩
      · dsimp only
        rw [hl]
        show pkF _ out.length ++ oneF (rowN _ out.length) (ahd _ out.length) = _
        rw [p1, p2, row_last, i2, i3, o1, en, show (off + ((rdL (b.drop off.toNat) : Nat) : Int)).toNat = off.toNat + rdL (b.drop off.toNat) from by omega, List.take_add]
      · dsimp only
        rw [hl]
        show rSt (rowN _ out.length) = _
        rw [row_last]
        obtain ⟨g1, g2, g3, g4, _⟩ := rd_rg (b.drop off.toNat) ah
        exact (row_of g1 g2 g3 g4).1
      · dsimp only at hi ⊢
        rw [hl] at hi
        rcases Nat.lt_or_ge i out.length with h | h
        · have e2 : rowN (out ++ [dRow (rdD (b.drop off.toNat) ah)]) i = rowN out i := by
            unfold rowN
            rw [List.getD_eq_getElem?_getD, List.getElem?_append_left h, ← List.getD_eq_getElem?_getD]
          rw [e2]; exact i4 i h
        · obtain rfl : i = out.length := by omega
          rw [row_last]; exact o2
    · rw [if_neg hc] at e
      rw [e]
      exact ⟨i0, i1, i2, i3, i4⟩
theorem ur_back {b : List UInt8} (h : okU b = true) : faF (urF b) = (urF b).length ∧ pkF (urF b) (urF b).length = b := by
  obtain ⟨h0, h1, h2, h3, h4⟩ := up_pk b b.length
  have h : (upS b b.length).1 = (b.length : Nat) := of_decide_eq_true h
  refine ⟨fa_all h4, ?_⟩
  show pkF (upS b b.length).2.2 (upS b b.length).2.2.length = b
  rw [h2, h, Int.toNat_natCast, List.take_length]
theorem ur_len (b : List UInt8) : 5 * (urF b).length ≤ b.length := by
  obtain ⟨h0, h1, h2, h3, h4⟩ := up_pk b b.length
  have := (pk_len (urF b) (urF b).length).1
  have h2 : pkF (urF b) (urF b).length = b.take (upS b b.length).1.toNat := h2
  rw [h2, List.length_take] at this
  omega
end Go.Proofs.YtjcpcnoakphecaaDoor
