/-
  Contracts of timing.all, timing.List, timing.most, timing.Behind and gannetref29.Letters. Conditions: none.
-/
import Derived.Test.YtjcpcnoakphecaaDoorTmB
import Derived.Test.YtjcpcnoakphecaaDoorTmZ
set_option linter.unusedSectionVars false
set_option linter.unusedVariables false
set_option linter.unusedSimpArgs false
namespace Go.Proofs.YtjcpcnoakphecaaDoor
open Go Go.AE Go.SX Go.RowKit
set_option maxRecDepth 1000000
/-! Plain. -/
def mostB (b : Nat) : Int := bif Nat.beq (opR b).mode 19 then 393233 else ((allF b true true true 0).length : Nat)
def maxI (a b : Int) : Int := bif decide (a < b) then b else a
def mostP (l : List UInt8) : Int := l.foldl (fun a c => maxI a (mostB c.toNat)) 0
def MoP (l : List UInt8) (i n : Int) : Prop := 0 ≤ i ∧ i ≤ (l.length : Nat) ∧ n = mostP (l.take i.toNat)
theorem nthB_out : ∀ (l : List (List UInt8 × Nat)) (k : Nat), l.length ≤ k → nthB l k = ([70, 68], 0)
  | [], _, _ => rfl
  | _ :: l, 0, h => by simp at h
  | _ :: l, k + 1, h => nthB_out l k (by simpa using h)
theorem baseL_len : baseL.length = 256 := by kernel_rfl
/-- The letters of an instruction: two at least, the first one 'F', none of the others. -/
def goodW (s : List UInt8) : Bool := match s with
  | 70 :: r => Nat.ble 1 r.length && (Nat.ble r.length 200 && r.all fun c => match c with
    | 79 | 68 | 76 | 83 | 80 | 85 | 86 => true
    | _ => false)
  | _ => false
theorem base_good : (List.range 256).all (fun b => goodW (base b).1) = true := by kernel_rfl
theorem base_ok (b : Nat) : goodW (base b).1 = true := by
  rcases Nat.lt_or_ge b 256 with h | h
  · exact List.all_eq_true.1 base_good b (List.mem_range.2 h)
  · unfold base
    rw [nthB_out baseL b (by rw [baseL_len]; exact h)]; rfl
def tailC (c : UInt8) : Bool := match c with
  | 79 | 68 | 76 | 83 | 80 | 85 | 86 => true
  | _ => false
/-- A row of letters: 'F', and others behind it. -/
structure Word (s : List UInt8) (n : Nat) : Prop where
  r : ∃ r, s = 70 :: r ∧ 1 ≤ r.length ∧ r.length ≤ n ∧ ∀ c ∈ r, tailC c = true
theorem base_word (b : Nat) : Word (base b).1 200 := by
  have h := base_ok b
  unfold goodW at h
  split at h
  · rename_i r hr
    simp only [Bool.and_eq_true] at h
    exact ⟨r, hr, Nat.le_of_ble_eq_true h.1, Nat.le_of_ble_eq_true h.2.1, fun c hc => List.all_eq_true.1 h.2.2 c hc⟩
  · cases h
theorem Word.app {s t : List UInt8} {n k : Nat} (h : Word s n) (ht : ∀ c ∈ t, tailC c = true) (hl : t.length ≤ k) : Word (s ++ t) (n + k) := by
  obtain ⟨r, rfl, h1, h2, h3⟩ := h.r
  refine ⟨r ++ t, rfl, by rw [List.length_append]; omega, by rw [List.length_append]; omega, fun c hc => ?_⟩
  rcases List.mem_append.1 hc with hc | hc
  · exact h3 c hc
  · exact ht c hc
theorem rep_tail (l : List UInt8) (h : ∀ c ∈ l, tailC c = true) : ∀ n : Nat, ∀ c ∈ Lib.repeatL l n, tailC c = true
  | 0, c, hc => by cases hc
  | n + 1, c, hc => by
    rcases List.mem_append.1 hc with hc | hc
    · exact h c hc
    · exact rep_tail l h n c hc
theorem clampB_rg (n : Int) : 0 ≤ clampB n ∧ clampB n ≤ 65536 := by
  unfold clampB
  split
  · omega
  · split <;> omega
theorem all_word (b : Nat) (t d k : Bool) (n : Int) : Word (allF b t d k n) 393232 := by
  unfold allF
  cases isBlk b with
  | true =>
    have hc := clampB_rg n
    have h1 : Word blkH 10 := ⟨[80, 80, 80, 79, 79, 79, 79, 79, 79, 68], rfl, by decide, by decide, by decide⟩
    have hl : (Lib.repeatL aByteL (clampB n).toNat).length = (clampB n).toNat * 6 := Lib.repeatL_length _ _
    have h2 := h1.app (t := Lib.repeatL aByteL (clampB n).toNat ++ blkE) (k := 393222) (fun c hc => by
      rcases List.mem_append.1 hc with hc | hc
      · exact rep_tail aByteL (by decide) _ c hc
      · exact (show ∀ c ∈ blkE, tailC c = true by decide) c hc) (by
      rw [List.length_append, hl]
      show _ + 6 ≤ 393222
      omega)
    exact h2
  | false =>
    have h1 := base_word b
    show Word (wdB b t d k) 393232
    unfold wdB
    have h2 := h1.app (t := (bif t && bitN (base b).2 1 then [76, 68, 83] else []) ++ ((bif d && bitN (base b).2 2 then [68] else []) ++ (bif k && bitN (base b).2 4 then [68, 68] else []))) (k := 393032) (fun c hc => by
      rcases List.mem_append.1 hc with hc | hc
      · cases hb : (t && bitN (base b).2 1) with
        | true => rw [hb] at hc; exact (show ∀ c ∈ ([76, 68, 83] : List UInt8), tailC c = true by decide) c hc
        | false => rw [hb] at hc; cases hc
      · rcases List.mem_append.1 hc with hc | hc
        · cases hb : (d && bitN (base b).2 2) with
          | true => rw [hb] at hc; exact (show ∀ c ∈ ([68] : List UInt8), tailC c = true by decide) c hc
          | false => rw [hb] at hc; cases hc
        · cases hb : (k && bitN (base b).2 4) with
          | true => rw [hb] at hc; exact (show ∀ c ∈ ([68, 68] : List UInt8), tailC c = true by decide) c hc
          | false => rw [hb] at hc; cases hc) (by
      rw [List.length_append, List.length_append]
      have q1 : ∀ (c : Bool) (l : List UInt8), (bif c then l else []).length ≤ l.length := fun c l => by cases c <;> simp
      have := q1 (t && bitN (base b).2 1) [76, 68, 83]
      have := q1 (d && bitN (base b).2 2) [68]
      have := q1 (k && bitN (base b).2 4) [68, 68]
      simp only [List.length_cons, List.length_nil] at *
      omega)
    exact h2
theorem Word.len {s : List UInt8} {n : Nat} (h : Word s n) : 2 ≤ s.length ∧ s.length ≤ n + 1 := by
  obtain ⟨r, rfl, h1, h2, _⟩ := h.r
  exact ⟨by simp; omega, by simp; omega⟩
theorem kd_head : kd1 70 = 0 := by decide
theorem kd_tail (c : UInt8) (h : tailC c = true) : 1 ≤ (kd1 c).toNat ∧ (kd1 c).toNat ≤ 7 := by
  have h : ∀ n : Nat, n < 256 → tailC (UInt8.ofNat n) = true → 1 ≤ (kd1 (UInt8.ofNat n)).toNat ∧ (kd1 (UInt8.ofNat n)).toNat ≤ 7 := by decide +kernel
  have := h c.toNat c.toNat_lt
  rw [UInt8.ofNat_toNat] at this
  exact this ‹_›
theorem mostB_rg (b : Nat) : 2 ≤ mostB b ∧ mostB b ≤ 393233 := by
  unfold mostB
  cases Nat.beq (opR b).mode 19 with
  | true => exact ⟨by show (2 : Int) ≤ 393233; omega, by show (393233 : Int) ≤ 393233; omega⟩
  | false =>
    have := (all_word b true true true 0).len
    exact ⟨by show (2 : Int) ≤ ((allF b true true true 0).length : Nat); omega, by show (((allF b true true true 0).length : Nat) : Int) ≤ 393233; omega⟩
theorem mostP_rg : ∀ l : List UInt8, 0 ≤ mostP l ∧ mostP l ≤ 393233 := by
  have h : ∀ (l : List UInt8) (a : Int), 0 ≤ a → a ≤ 393233 → 0 ≤ l.foldl (fun a c => maxI a (mostB c.toNat)) a ∧ l.foldl (fun a c => maxI a (mostB c.toNat)) a ≤ 393233 := by
    intro l
    induction l with
    | nil => intro a h0 h1; exact ⟨h0, h1⟩
    | cons c l ih =>
      intro a h0 h1
      have hb := mostB_rg c.toNat
      refine ih (maxI a (mostB c.toNat)) ?_ ?_ <;> (unfold maxI; cases decide (a < mostB c.toNat) <;> simp only [cond_true, cond_false] <;> omega)
  exact fun l => h l 0 (by omega) (by omega)
open Classical in
class DOk3 [DF] : Prop where
  h46 : ∀ d, Fam.Φ 46 d = .s (allF d.fst.toI.toNat d.snd.fst.toB d.snd.snd.fst.toB d.snd.snd.snd.fst.toB d.snd.snd.snd.snd.toI)
  h47 : ∀ d, Fam.Φ 47 d = .i (mostP (d.fst.toS.take d.snd.toI.toNat))
  h48 : ∀ d, Fam.Φ 48 d = .i (mostB d.toI.toNat)
  h57 : ∀ d, Fam.Φ 57 d = .b (decide (MoP d.fst.toS d.snd.fst.toI d.snd.snd.toI))
variable [DF] [DOk1] [DOk2] [DOk3]
def alX (b t d k n : X) : X := .ap 46 (.o .pair b (.o .pair t (.o .pair d (.o .pair k n))))
theorem al_S (e : En) (b t d k n : X) : (alX b t d k n).S e = allF (b.I e).toNat (t.B e) (d.B e) (k.B e) (n.I e) := by
  show (Fam.Φ 46 _).toS = _
  rw [DOk3.h46]; rfl
def u8F (n : Nat) : Fact := ⟨.v n, ⟨some 0, some 255⟩⟩
def i64F (n : Nat) : Fact := ⟨.v n, ⟨some (-9223372036854775808), some 9223372036854775807⟩⟩
def fcts : List SV := [.z (.i .u8 (.v 0)), .a (.ag [bb 1, bb 2, bb 3, i64 4])]
def al5 : X := alX (.v 0) (.v 1) (.v 2) (.v 3) (.v 4)
def lcAll : LC := ⟨5, fcts, [], [u8F 0, i64F 4], [], .z (.s al5), []⟩
/-! Blocks. -/
def cl0X : X := .t .i (.o .lt (.v 3) (.i 0)) (.i 0) (.v 3)
def clX : X := .t .i (.o .lt (.i 65536) cl0X) (.i 65536) cl0X
def rpX : X := .ap 49 (.o .pair (.s aByteL) clX)
def blX : X := .o .cat (.s blkH) (.o .cat rpX (.s blkE))
def lcBl (b : Int) : LC := ⟨4, [.z (.i .u8 (.i b)), .a (.ag [bb 0, bb 1, bb 2, i64 3])], [], [i64F 3], [], .z (.s blX), []⟩
theorem clX_I (e : En) : clX.I e = clampB (e.ρ 3).toI := by
  show (bif decide ((65536 : Int) < (bif decide ((e.ρ 3).toI < 0) then 0 else (e.ρ 3).toI)) then (65536 : Int) else (bif decide ((e.ρ 3).toI < 0) then 0 else (e.ρ 3).toI)) = _
  unfold clampB
  by_cases h : (e.ρ 3).toI < 0
  · rw [decide_eq_true h, if_pos h]; rfl
  · rw [decide_eq_false h, if_neg h]
    by_cases h2 : 65536 < (e.ρ 3).toI
    · rw [cond_false, decide_eq_true h2, if_pos h2]; rfl
    · rw [cond_false, decide_eq_false h2, if_neg h2]; rfl
theorem rp_S (e : En) : rpX.S e = Lib.repeatL aByteL (clampB (e.ρ 3).toI).toNat := by
  show (Fam.Φ 49 (.p (.s aByteL) (clX.den e))).toS = _
  rw [DOk1.h49]
  show Lib.repeatL aByteL (clX.I e).toNat = _
  rw [clX_I]
def axBl : List X := [.u .not (.o .lt (.i 393216) (lenX' rpX))]
theorem axBl_ok : ∀ x ∈ axBl, ∀ e : En, x.B e = true := by
  refine all_cons' (fun e => nlt_in ?_) all_nil'
  show ¬ (393216 : Int) < (((rpX.S e).length : Nat) : Int)
  rw [rp_S, Lib.repeatL_length]
  have := clampB_rg (e.ρ 3).toI
  show ¬ (393216 : Int) < (((clampB (e.ρ 3).toI).toNat * 6 : Nat) : Int)
  omega
theorem bl_115 : (lcBl 115).Ok Tryd.prog 94 := LC.Ok.drop (ax := axBl) (LC.Ok.of_treeF (L := noJ) (lem := noX) (W := W0) (n := 12) (cf := 300) (d := 20) (opn := []) (cls := []) (fun _ _ _ h => by cases h) (fun _ _ h => by cases h) CD_ok noT_ok rfl rfl (by kernel_rfl)) axBl_ok
theorem bl_195 : (lcBl 195).Ok Tryd.prog 94 := LC.Ok.drop (ax := axBl) (LC.Ok.of_treeF (L := noJ) (lem := noX) (W := W0) (n := 12) (cf := 300) (d := 20) (opn := []) (cls := []) (fun _ _ _ h => by cases h) (fun _ _ h => by cases h) CD_ok noT_ok rfl rfl (by kernel_rfl)) axBl_ok
theorem bl_211 : (lcBl 211).Ok Tryd.prog 94 := LC.Ok.drop (ax := axBl) (LC.Ok.of_treeF (L := noJ) (lem := noX) (W := W0) (n := 12) (cf := 300) (d := 20) (opn := []) (cls := []) (fun _ _ _ h => by cases h) (fun _ _ h => by cases h) CD_ok noT_ok rfl rfl (by kernel_rfl)) axBl_ok
theorem bl_227 : (lcBl 227).Ok Tryd.prog 94 := LC.Ok.drop (ax := axBl) (LC.Ok.of_treeF (L := noJ) (lem := noX) (W := W0) (n := 12) (cf := 300) (d := 20) (opn := []) (cls := []) (fun _ _ _ h => by cases h) (fun _ _ h => by cases h) CD_ok noT_ok rfl rfl (by kernel_rfl)) axBl_ok
theorem bl_243 : (lcBl 243).Ok Tryd.prog 94 := LC.Ok.drop (ax := axBl) (LC.Ok.of_treeF (L := noJ) (lem := noX) (W := W0) (n := 12) (cf := 300) (d := 20) (opn := []) (cls := []) (fun _ _ _ h => by cases h) (fun _ _ h => by cases h) CD_ok noT_ok rfl rfl (by kernel_rfl)) axBl_ok
theorem blks : (List.range 256).all (fun b => !isBlk b || (Nat.beq b 115 || (Nat.beq b 195 || (Nat.beq b 211 || (Nat.beq b 227 || Nat.beq b 243))))) = true := by kernel_rfl
theorem blk_of (b : Nat) (hb : b < 256) (hk : isBlk b = true) (x y z : Bool) (n : Int) (hn : -9223372036854775808 ≤ n) (hn' : n ≤ 9223372036854775807) :
    ACall Tryd.prog 94 [.int .u8 (b : Nat), .agg ⟨[.bool x, .bool y, .bool z, .int .i64 n]⟩] [] fun w m2 => w = .string ⟨⟨allF b x y z n⟩⟩ ∧ m2 = [] := by
  have h := List.all_eq_true.1 blks b (List.mem_range.2 hb)
  rw [hk] at h
  have key : (lcBl (b : Nat)).Ok Tryd.prog 94 := by
    simp only [Bool.not_true, Bool.false_or, Bool.or_eq_true] at h
    rcases h with h | h | h | h | h <;> (have h := Nat.eq_of_beq_eq_true h; subst h)
    · exact bl_115
    · exact bl_195
    · exact bl_211
    · exact bl_227
    · exact bl_243
  have := key.call [.b x, .b y, .b z, .i n] rfl (fun f hf => by
    obtain rfl := List.mem_singleton.1 hf
    exact hasM hn hn') (fun x hx => by cases hx)
  have e1 : blX.S (envOf [.b x, .b y, .b z, .i n]) = allF b x y z n := by
    show blkH ++ (rpX.S _ ++ blkE) = _
    rw [rp_S]
    unfold allF
    rw [hk]; rfl
  refine this.mono ?_
  rintro w m2 ⟨rfl, rfl⟩
  refine ⟨?_, rfl⟩
  show Value.string ⟨⟨blX.S _⟩⟩ = _
  rw [e1]
theorem all_lc : lcAll.Ok Tryd.prog 94 := by
  refine ⟨fun ds hl hf ha => ?_⟩
  obtain ⟨d0, d1, d2, d3, d4, rfl⟩ : ∃ d0 d1 d2 d3 d4, ds = [d0, d1, d2, d3, d4] := by
    match ds, hl with
    | [a, b, c, d, f], _ => exact ⟨_, _, _, _, _, rfl⟩
  have h0 := hf (u8F 0) (.head _)
  have h4 := hf (i64F 4) (.tail _ (.head _))
  have h00 : 0 ≤ d0.toI := h0.1 _ rfl
  have h01 : d0.toI ≤ 255 := h0.2 _ rfl
  have h40 : -9223372036854775808 ≤ d4.toI := h4.1 _ rfl
  have h41 : d4.toI ≤ 9223372036854775807 := h4.2 _ rfl
  have hv : al5.S (envOf [d0, d1, d2, d3, d4]) = allF d0.toI.toNat d1.toB d2.toB d3.toB d4.toI := al_S _ _ _ _ _ _
  show ACall Tryd.prog 94 [.int .u8 d0.toI, .agg ⟨[.bool d1.toB, .bool d2.toB, .bool d3.toB, .int .i64 d4.toI]⟩] [] fun w m2 => w = .string ⟨⟨al5.S (envOf [d0, d1, d2, d3, d4])⟩⟩ ∧ m2 = []
  rw [hv]
  obtain ⟨b, hb⟩ : ∃ b : Nat, d0.toI = (b : Nat) := ⟨d0.toI.toNat, by omega⟩
  rw [hb]
  have hbt : ((b : Nat) : Int).toNat = b := by omega
  rw [hbt]
  cases hk : isBlk b with
  | true => exact blk_of b (by omega) hk _ _ _ _ h40 h41
  | false =>
    have := all_of b (by omega) hk d1.toB d2.toB d3.toB d4.toI h40 h41 []
    have e1 : allF b d1.toB d2.toB d3.toB d4.toI = wdB b d1.toB d2.toB d3.toB := by unfold allF; rw [hk]; rfl
    rw [e1]
    exact this
/-! The document's letters, where all is so. -/
def tt : SV := .z (.b (.b true))
def lcLet : LC := ⟨1, [.z (.i .u8 (.v 0)), tt, tt, tt, .z (.i .i64 (.i 0))], [], [u8F 0], [], .z (.s (alX (.v 0) (.b true) (.b true) (.b true) (.i 0))), []⟩
theorem let_lc : lcLet.Ok Tryd.prog 45 := by
  refine ⟨fun ds hl hf ha => ?_⟩
  obtain ⟨d0, rfl⟩ : ∃ d0, ds = [d0] := by
    match ds, hl with
    | [a], _ => exact ⟨_, rfl⟩
  have h0 := hf (u8F 0) (.head _)
  have h00 : 0 ≤ d0.toI := h0.1 _ rfl
  have h01 : d0.toI ≤ 255 := h0.2 _ rfl
  have hv : (alX (.v 0) (.b true) (.b true) (.b true) (.i 0)).S (envOf [d0]) = allF d0.toI.toNat true true true 0 := al_S _ _ _ _ _ _
  show ACall Tryd.prog 45 [.int .u8 d0.toI, .bool true, .bool true, .bool true, .int .i64 0] [] fun w m2 => w = .string ⟨⟨(alX (.v 0) (.b true) (.b true) (.b true) (.i 0)).S (envOf [d0])⟩⟩ ∧ m2 = []
  rw [hv]
  obtain ⟨b, hb⟩ : ∃ b : Nat, d0.toI = (b : Nat) := ⟨d0.toI.toNat, by omega⟩
  rw [hb]
  have hbt : ((b : Nat) : Int).toNat = b := by omega
  rw [hbt]
  exact let_of b (by omega) []
/-! What rests on those. -/
noncomputable def lcTab (l : List (FuncId × List LC)) : List (FuncId × CallF) := l.map fun p => (p.1, conCall (conSm (conAlt (p.2.map (conG 12 T)))))
theorem lcTab_all {l : List (FuncId × List LC)} (h : ∀ p ∈ l, ∀ c ∈ p.2, c.ok = true ∧ c.Ok Tryd.prog p.1) : ∀ p ∈ lcTab l, ConOk T p.1 p.2 := fun p hp => by
  obtain ⟨q, hq, rfl⟩ := List.mem_map.1 hp
  refine Con.ok (Con.sm (Con.alt fun f hf => ?_))
  obtain ⟨c, hc, rfl⟩ := List.mem_map.1 hf
  exact conG_ok (h q hq c hc).1 (h q hq c hc).2
theorem app_all {l l' : List (FuncId × CallF)} (h : ∀ p ∈ l, ConOk T p.1 p.2) (h' : ∀ p ∈ l', ConOk T p.1 p.2) : ∀ p ∈ l ++ l', ConOk T p.1 p.2 := fun p hp => (List.mem_append.1 hp).elim (h p) (h' p)
theorem one_lc {c : LC} {f : FuncId} (h1 : c.ok = true) (h : c.Ok Tryd.prog f) : ∀ c' ∈ [c], c'.ok = true ∧ c'.Ok Tryd.prog f := all_cons' ⟨h1, h⟩ all_nil'
noncomputable def CLt1 : List (FuncId × CallF) := CLd ++ lcTab [(94, [lcAll]), (91, [lcKinds]), (45, [lcLet])]
theorem CLt1_all : ∀ p ∈ CLt1, ConOk T p.1 p.2 := app_all CLd_all (lcTab_all (all_cons' (one_lc rfl all_lc) (all_cons' (one_lc rfl kinds_lc) (all_cons' (one_lc rfl let_lc) all_nil'))))
noncomputable def CT1 := conTab CLt1
theorem CT1_ok : ∀ n c, CT1 n = some c → ConOk T n c := conTab_ok CLt1_all
def liX : X := kdX al5
def axLi : List X := [.u .not (.o .lt (.i 393233) (lenX' al5))]
theorem axLi_ok : ∀ x ∈ axLi, ∀ e : En, x.B e = true := by
  refine all_cons' (fun e => nlt_in ?_) all_nil'
  show ¬ (393233 : Int) < (((al5.S e).length : Nat) : Int)
  unfold al5
  rw [al_S]
  have := (all_word ((X.v 0).I e).toNat ((X.v 1).B e) ((X.v 2).B e) ((X.v 3).B e) ((X.v 4).I e)).len
  omega
def lcList : LC := ⟨5, fcts, [], [u8F 0, i64F 4], [], .z (.sl 0 (.i 0) 0 0 (lenX' liX) (lenX' liX)), [some ⟨.by liX, 5, true, false⟩]⟩
theorem list_lc : lcList.Ok Tryd.prog 43 := LC.Ok.drop (ax := axLi) (LC.Ok.of_treeF (L := noJ) (lem := noX) (W := W0) (n := 12) (cf := 300) (d := 20) (opn := []) (cls := []) (fun _ _ _ h => by cases h) (fun _ _ h => by cases h) CT1_ok noT_ok rfl rfl (by kernel_rfl)) axLi_ok
def moX (x : X) : X := .ap 48 x
theorem mo_I (e : En) (x : X) : (moX x).I e = mostB (x.I e).toNat := by
  show (Fam.Φ 48 _).toI = _
  rw [DOk3.h48]; rfl
theorem md_I (e : En) (x : X) : (mdX x).I e = (((opR (x.I e).toNat).mode : Nat) : Int) := by
  show (Fam.Φ 40 (x.den e)).snd.fst.toI = _
  rw [DOk1.h40]; rfl
def alT (x : X) : X := alX x (.b true) (.b true) (.b true) (.i 0)
def axMo : List X := [.o .eq (.t .i (.o .eq (mdX (.v 0)) (.i 19)) (.i 393233) (lenX' (alT (.v 0)))) (moX (.v 0))]
theorem mostX_I (e : En) (x : X) : (bif decide ((mdX x).I e = 19) then (393233 : Int) else ((((alT x).S e).length : Nat) : Int)) = mostB (x.I e).toNat := by
  unfold alT
  rw [md_I, al_S]
  unfold mostB
  cases h : Nat.beq (opR (x.I e).toNat).mode 19 with
  | true => rw [Nat.eq_of_beq_eq_true h]; rfl
  | false =>
    have : ¬ (opR (x.I e).toNat).mode = 19 := fun h' => by rw [h'] at h; cases h
    rw [decide_eq_false (by omega)]; rfl
theorem axMo_ok : ∀ x ∈ axMo, ∀ e : En, x.B e = true := by
  refine all_cons' (fun e => eq_in ?_) all_nil'
  rw [mo_I]
  exact mostX_I e (.v 0)
def lcMost : LC := ⟨1, [.z (.i .u8 (.v 0))], [], [u8F 0], [], .z (.i .i64 (moX (.v 0))), []⟩
theorem most_lc : lcMost.Ok Tryd.prog 101 := LC.Ok.drop (ax := axMo) (LC.Ok.of_treeF (L := noJ) (lem := noX) (W := W0) (n := 12) (cf := 300) (d := 20) (opn := []) (cls := []) (fun _ _ _ h => by cases h) (fun _ _ h => by cases h) CT1_ok noT_ok rfl rfl (by kernel_rfl)) axMo_ok
noncomputable def CLt2 : List (FuncId × CallF) := CLt1 ++ lcTab [(43, [lcList]), (101, [lcMost])]
theorem CLt2_all : ∀ p ∈ CLt2, ConOk T p.1 p.2 := app_all CLt1_all (lcTab_all (all_cons' (one_lc rfl list_lc) (all_cons' (one_lc rfl most_lc) all_nil')))
noncomputable def CT2 := conTab CLt2
theorem CT2_ok : ∀ n c, CT2 n = some c → ConOk T n c := conTab_ok CLt2_all
/-! timing.Behind. -/
def moPX (l i n : X) : X := .ap 57 (.o .pair l (.o .pair i n))
theorem moPX_iff (e : En) (l i n : X) : (moPX l i n).B e = true ↔ MoP (l.S e) (i.I e) (n.I e) := by
  show (Fam.Φ 57 (.p (l.den e) (.p (i.den e) (n.den e)))).toB = true ↔ _
  rw [DOk3.h57]
  exact @decide_eq_true_iff _ (_)
def mpX (l i : X) : X := .ap 47 (.o .pair l i)
theorem mp_I (e : En) (l i : X) : (mpX l i).I e = mostP ((l.S e).take (i.I e).toNat) := by
  show (Fam.Φ 47 _).toI = _
  rw [DOk3.h47]; rfl
def lcBehind : LC := ⟨1, [slB (.v 0)], [some ⟨.by (.v 0), 0, false, false⟩], [⟨lenX' (.v 0), ⟨some 0, some 300⟩⟩], [], .z (.i .i64 (addI (mpX (.v 0) (lenX' (.v 0))) 8)), [some ⟨.by (.v 0), 0, false, false⟩]⟩
def WBe : FuncId → Nat → List (Hint Tryd.prog) := fun n _ => bif Nat.beq n 47 then [.t 8 (some 0) (some 300), .t 3 (some 0) (some 393233)] else []
def invB : X := moPX (.v 0) (.v 1) (.v 2)
def mxX (n q : X) : X := .t .i (.o .lt n q) q n
theorem mo_next {l : List UInt8} {i n : Int} (h : MoP l i n) (hlt : i < (l.length : Nat)) : MoP l (i + 1) (maxI n (mostB (l.getD i.toNat 0).toNat)) := by
  obtain ⟨h0, h1, h2⟩ := h
  refine ⟨by omega, by omega, ?_⟩
  rw [take_next h0 hlt 0]
  unfold mostP
  rw [List.foldl_append, h2]; rfl
theorem mo_end {l : List UInt8} {i n : Int} (h : MoP l i n) (hlt : ¬ i < (l.length : Nat)) : n = mostP (l.take (l.length : Nat)) := by
  obtain ⟨h0, h1, h2⟩ := h
  rw [h2, take_all (by omega), List.take_of_length_le (Nat.le_refl _)]
def lemB (l i n : X) (q : X) : List X := [impS (.o .and (moPX l i n) (.o .lt i (lenX' l))) (.o .and (moPX l (addI i 1) (mxX n q)) (.o .and (.u .not (.o .lt (mxX n q) (.i 0))) (.u .not (.o .lt (.i 393233) (mxX n q))))), impS (.o .and (moPX l i n) (.u .not (.o .lt i (lenX' l)))) (.o .and (.o .eq n (mpX l (lenX' l))) (.o .and (.o .eq (addI n 8) (addI (mpX l (lenX' l)) 8)) (.o .eq (addI (mpX l (lenX' l)) 8) (addI n 8)))), impS (moPX l i n) (.o .and (.u .not (.o .lt n (.i 0))) (.u .not (.o .lt (.i 393233) n)))]
theorem lemB_ok {l i n q : X} (hq : ∀ e : En, q.I e = mostB ((l.S e).getD (i.I e).toNat 0).toNat) : ∀ x ∈ lemB l i n q, ∀ e : En, x.B e = true := by
  refine all_cons' (fun e => impS_ok fun h => ?_) (all_cons' (fun e => impS_ok fun h => ?_) (all_cons' (fun e => impS_ok fun h => ?_) all_nil'))
  · obtain ⟨hi, hlt⟩ := and_out h
    have h0 := mo_next ((moPX_iff e _ _ _).1 hi) (lt_out hlt)
    rw [← hq e] at h0
    have h1 : (mxX n q).I e = maxI (n.I e) (q.I e) := rfl
    have h2 := h0.2.2
    have h3 := mostP_rg ((l.S e).take (i.I e + 1).toNat)
    refine and_B ((moPX_iff e _ _ _).2 h0) (and_B (nlt_in ?_) (nlt_in ?_))
    · rw [h1, h2]; show ¬ _ < (0 : Int); omega
    · rw [h1, h2]; show ¬ (393233 : Int) < _; omega
  · obtain ⟨hi, hlt⟩ := and_out h
    have h1 : n.I e = (mpX l (lenX' l)).I e := by
      rw [mp_I]
      exact mo_end ((moPX_iff e _ _ _).1 hi) (nlt_out hlt)
    have h2 : n.I e + 8 = (mpX l (lenX' l)).I e + 8 := by rw [h1]
    exact and_B (eq_in h1) (and_B (eq_in h2) (eq_in h2.symm))
  · obtain ⟨h0, h1, h2⟩ := (moPX_iff e _ _ _).1 h
    have := mostP_rg ((l.S e).take (i.I e).toNat)
    exact and_B (nlt_in (by rw [h2]; show ¬ _ < (0 : Int); omega)) (nlt_in (by rw [h2]; show ¬ (393233 : Int) < _; omega))
theorem moq (e : En) (l i : X) : (moX (.o .nth l i)).I e = mostB ((l.S e).getD (i.I e).toNat 0).toNat := by
  rw [mo_I]
  show mostB ((((l.S e).getD (i.I e).toNat 0).toNat : Nat) : Int).toNat = _
  simp
theorem mo_init (e : En) (l : X) : (moPX l (.i 0) (.i 0)).B e = true := (moPX_iff e _ _ _).2 ⟨Int.le_refl _, Int.natCast_nonneg _, rfl⟩
theorem behind_lc : lcBehind.Ok Tryd.prog 47 :=
  LC.Ok.drop (ax := [moPX (.v 0) (.i 0) (.i 0)]) (LC.Ok.of_treeF (L := Lno 1 invB (mkSub (lenX' (.v 0)) (.v 1))) (lem := Xone 1 (lemB (.v 0) (.v 1) (.v 2) (moX (.o .nth (.v 0) (.v 1))))) (W := WBe) (n := 12) (cf := 300) (d := 20) (opn := []) (cls := []) Lno_ok (Xone_ok (lemB_ok fun e => moq e _ _)) CT2_ok noT_ok rfl rfl (by kernel_rfl))
    (all_cons' (fun e => mo_init e _) all_nil')
noncomputable def CLt3 : List (FuncId × CallF) := CLt2 ++ lcTab [(47, [lcBehind]), (41, [lcText])]
theorem CLt3_all : ∀ p ∈ CLt3, ConOk T p.1 p.2 := app_all CLt2_all (lcTab_all (all_cons' (one_lc rfl behind_lc) (all_cons' (one_lc rfl text_lc) all_nil')))
/-! What must be whatever is asked. -/
theorem live29 : Con Tryd.prog 38 cYes := yes_con rfl CD_ok (by kernel_rfl)
noncomputable def CK1 := conTab ((38, conCall cYes) :: (CLd ++ lcTab [(41, [lcText])]))
theorem CK1_ok : ∀ n c, CK1 n = some c → ConOk T n c := conTab_ok (all_cons' live29.ok (app_all CLd_all (lcTab_all (all_cons' (one_lc rfl text_lc) all_nil'))))
noncomputable def CT3 := conTab ((38, conCall cYes) :: CLt3)
theorem CT3_ok : ∀ n c, CT3 n = some c → ConOk T n c := conTab_ok (all_cons' live29.ok CLt3_all)
end Go.Proofs.YtjcpcnoakphecaaDoor
