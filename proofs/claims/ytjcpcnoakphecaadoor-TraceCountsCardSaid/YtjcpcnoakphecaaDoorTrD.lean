/-
  Accesses as bytes and back, in plain words. Conditions: none.
-/
import Derived.Test.YtjcpcnoakphecaaDoorLog10
set_option linter.unusedSectionVars false
set_option linter.unusedVariables false
set_option linter.unusedSimpArgs false
namespace Go.Proofs.YtjcpcnoakphecaaDoor
open Go Go.AE Go.SX
set_option maxRecDepth 100000
theorem wrap_range (k : IntKind) (x : Int) : kMin k ≤ k.wrap x ∧ k.wrap x ≤ kMax k := by
  constructor
  · cases k <;> simp [IntKind.wrap, IntKind.bits, IntKind.signed, kMin] <;> (try split) <;> omega
  · cases k <;> simp [IntKind.wrap, IntKind.bits, IntKind.signed, kMax] <;> (try split) <;> omega
theorem wrapIn {k : IntKind} {n : Int} (h1 : kMin k ≤ n) (h2 : n ≤ kMax k) : k.wrap n = n := by
  cases k
  · exact IntWalk.i8_in n ⟨h1, h2⟩
  · exact IntWalk.i16_in n ⟨h1, h2⟩
  · exact IntWalk.i32_in n ⟨h1, h2⟩
  · exact IntWalk.i64_in n ⟨h1, h2⟩
  · exact IntWalk.u8_in n ⟨h1, h2⟩
  · exact IntWalk.u16_in n ⟨h1, h2⟩
  · exact IntWalk.u32_in n ⟨h1, h2⟩
  · exact IntWalk.u64_in n ⟨h1, h2⟩
def rSt (r : List A) : Int := IntKind.i64.wrap (r.getD 0 (.i 0)).toI
def rAd (r : List A) : Int := IntKind.u32.wrap (r.getD 1 (.i 0)).toI
def rKd (r : List A) : Int := IntKind.u8.wrap (r.getD 2 (.i 0)).toI
def rWr (r : List A) : Bool := (r.getD 3 (.i 0)).toB
def rDa (r : List A) : Int := IntKind.u8.wrap (r.getD 4 (.i 0)).toI
def mayF (st ad kd : Int) : Bool := ((!decide (st < 0) && !decide (1125899906842624 < st)) && decide (ad < 2097152)) && decide (kd < 8)
def mayR (r : List A) : Bool := mayF (rSt r) (rAd r) (rKd r)
def wayF (d : Int) : Int := if d = 3 then 0 else if d = 6 then 1 else if d = 12 then 2 else if d = 24 then 3 else 4
def byB (n : Int) : UInt8 := UInt8.ofNat (n % 256).toNat
def beF (n : Int) : List UInt8 := [byB (n / 72057594037927936), byB (n / 281474976710656), byB (n / 1099511627776), byB (n / 4294967296), byB (n / 16777216), byB (n / 65536), byB (n / 256), byB n]
def hdF (r : List A) (w : Int) : Int := rKd r + 16 * w + (if rWr r then 8 else 0)
def tlF (r : List A) : List UInt8 := [byB (rAd r), byB (rAd r / 256), byB (rAd r / 65536), byB (rDa r)]
def oneF (r : List A) (ah : Int) : List UInt8 := byB (hdF r (wayF (rSt r - ah))) :: ((if wayF (rSt r - ah) = 4 then beF (rSt r) else []) ++ tlF r)
def rowN (l : List (List A)) (i : Nat) : List A := l.getD i []
def ahd (l : List (List A)) : Nat → Int
  | 0 => 0
  | i + 1 => rSt (rowN l i)
def pkF (l : List (List A)) : Nat → List UInt8
  | 0 => []
  | i + 1 => pkF l i ++ oneF (rowN l i) (ahd l i)
def faF (l : List (List A)) : Nat := l.findIdx fun r => !mayR r
theorem wayF_rg (d : Int) : 0 ≤ wayF d ∧ wayF d ≤ 4 := by
  unfold wayF
  repeat' split
  all_goals omega
theorem u8_rg (x : Int) : 0 ≤ IntKind.u8.wrap x ∧ IntKind.u8.wrap x ≤ 255 := wrap_range .u8 x
def PkP (l : List (List A)) (i ah : Int) (out : List UInt8) : Prop := 0 ≤ i ∧ i.toNat ≤ faF l ∧ ah = ahd l i.toNat ∧ out = pkF l i.toNat
def gb (l : List UInt8) (k : Nat) : Int := ((l.getD k 0).toNat : Nat)
theorem gb_rg (l : List UInt8) (k : Nat) : 0 ≤ gb l k ∧ gb l k ≤ 255 := by
  have := (l.getD k 0).toNat_lt
  unfold gb; omega
def beR (l : List UInt8) : Int := gb l 1 * 72057594037927936 + gb l 2 * 281474976710656 + gb l 3 * 1099511627776 + gb l 4 * 4294967296 + gb l 5 * 16777216 + gb l 6 * 65536 + gb l 7 * 256 + gb l 8
def dW (w : Int) : Int := if w = 0 then 3 else if w = 1 then 6 else if w = 2 then 12 else 24
def rdL (l : List UInt8) : Nat := if gb l 0 < 64 then 5 else 13
def rdS (l : List UInt8) (ah : Int) : Int := if gb l 0 < 64 then ah + dW (gb l 0 / 16) else beR l
def rdA (l : List UInt8) : Int := gb l (rdL l - 4) + gb l (rdL l - 3) * 256 + gb l (rdL l - 2) * 65536
def rdOk (l : List UInt8) (ah : Int) : Bool := decide (gb l 0 < 80) && (Nat.ble (rdL l) l.length && (decide (0 ≤ rdS l ah) && (decide (rdS l ah ≤ 1125899906842624) && (decide (rdA l < 2097152) && (decide (gb l 0 < 64) || decide (wayF (rdS l ah - ah) = 4))))))
def rdD (l : List UInt8) (ah : Int) : D := bif rdOk l ah then .p (.i (rdS l ah)) (.p (.i (rdA l)) (.p (.i (gb l 0 % 8)) (.p (.b (decide (gb l 0 / 8 % 2 = 1))) (.p (.i (gb l (rdL l - 1))) (.i (rdL l : Nat))))))
  else .p (.i 0) (.p (.i 0) (.p (.i 0) (.p (.b false) (.p (.i 0) (.i 0)))))
def dSt (d : D) : Int := d.fst.toI
def dAd (d : D) : Int := d.snd.fst.toI
def dKd (d : D) : Int := d.snd.snd.fst.toI
def dWr (d : D) : Bool := d.snd.snd.snd.fst.toB
def dDa (d : D) : Int := d.snd.snd.snd.snd.fst.toI
def dN (d : D) : Int := d.snd.snd.snd.snd.snd.toI
def dRow (d : D) : List A := [.i (dSt d), .i (dAd d), .i (dKd d), .b (dWr d), .i (dDa d)]
theorem rdok_iff {l : List UInt8} {ah : Int} : rdOk l ah = true ↔ gb l 0 < 80 ∧ rdL l ≤ l.length ∧ 0 ≤ rdS l ah ∧ rdS l ah ≤ 1125899906842624 ∧ rdA l < 2097152 ∧ (gb l 0 < 64 ∨ wayF (rdS l ah - ah) = 4) := by
  unfold rdOk
  simp only [Bool.and_eq_true, Bool.or_eq_true, decide_eq_true_eq, Nat.ble_eq]
theorem rd_rg (l : List UInt8) (ah : Int) : (0 ≤ dSt (rdD l ah) ∧ dSt (rdD l ah) ≤ 1125899906842624) ∧ (0 ≤ dAd (rdD l ah) ∧ dAd (rdD l ah) ≤ 2097151) ∧ (0 ≤ dKd (rdD l ah) ∧ dKd (rdD l ah) ≤ 7) ∧ (0 ≤ dDa (rdD l ah) ∧ dDa (rdD l ah) ≤ 255) ∧ (0 ≤ dN (rdD l ah) ∧ dN (rdD l ah) ≤ 13) := by
  unfold rdD
  cases h : rdOk l ah with
  | false =>
    show (0 ≤ (0 : Int) ∧ (0 : Int) ≤ _) ∧ (0 ≤ (0 : Int) ∧ (0 : Int) ≤ _) ∧ (0 ≤ (0 : Int) ∧ (0 : Int) ≤ _) ∧ (0 ≤ (0 : Int) ∧ (0 : Int) ≤ _) ∧ (0 ≤ (0 : Int) ∧ (0 : Int) ≤ _)
    omega
  | true =>
    obtain ⟨h1, h2, h3, h4, h5, h6⟩ := rdok_iff.1 h
    show (0 ≤ rdS l ah ∧ rdS l ah ≤ _) ∧ (0 ≤ rdA l ∧ rdA l ≤ _) ∧ (0 ≤ gb l 0 % 8 ∧ gb l 0 % 8 ≤ _) ∧ (0 ≤ gb l (rdL l - 1) ∧ gb l (rdL l - 1) ≤ _) ∧ (0 ≤ ((rdL l : Nat) : Int) ∧ ((rdL l : Nat) : Int) ≤ _)
    have := gb_rg l 0
    have := gb_rg l (rdL l - 1)
    have := gb_rg l (rdL l - 2)
    have := gb_rg l (rdL l - 3)
    have := gb_rg l (rdL l - 4)
    have hl : rdL l ≤ 13 := by unfold rdL; split <;> omega
    unfold rdA at *
    omega
def upS (b : List UInt8) : Nat → Int × Int × List (List A)
  | 0 => (0, 0, [])
  | k + 1 => let s := upS b k
    if s.1 < (b.length : Nat) ∧ dN (rdD (b.drop s.1.toNat) s.2.1) ≠ 0 then (s.1 + dN (rdD (b.drop s.1.toNat) s.2.1), dSt (rdD (b.drop s.1.toNat) s.2.1), s.2.2 ++ [dRow (rdD (b.drop s.1.toNat) s.2.1)]) else s
def UpP (b : List UInt8) (off ah : Int) (out : List (List A)) : Prop := 0 ≤ off ∧ off ≤ (b.length : Nat) ∧ upS b out.length = (off, ah, out) ∧ 5 * (out.length : Int) ≤ off
def urF (b : List UInt8) : List (List A) := (upS b b.length).2.2
def okU (b : List UInt8) : Bool := decide ((upS b b.length).1 = (b.length : Nat))
def canon (r : List A) : List A := [.i (rSt r), .i (rAd r), .i (rKd r), .b (rWr r), .i (rDa r)]
theorem wrap64 {x : Int} (h0 : 0 ≤ x) (h1 : x ≤ 9223372036854775807) : IntKind.i64.wrap x = x := wrapIn (by show (-9223372036854775808 : Int) ≤ _; omega) h1
end Go.Proofs.YtjcpcnoakphecaaDoor
