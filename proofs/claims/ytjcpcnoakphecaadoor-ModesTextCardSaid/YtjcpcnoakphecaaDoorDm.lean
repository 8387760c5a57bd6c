/-
  The names of the law on texts of instructions; digits; what bytes mean. Conditions: none.
-/
import Derived.Test.YtjcpcnoakphecaaDoorOpZ
set_option linter.unusedSectionVars false
set_option linter.unusedVariables false
set_option linter.unusedSimpArgs false
namespace Go.Proofs.YtjcpcnoakphecaaDoor
open Go Go.AE Go.SX Go.RowKit
set_option maxRecDepth 1000000
def dgF (d : Int) : Int := if 0 ≤ d ∧ d < 10 then 48 + d else if 10 ≤ d ∧ d ≤ 15 then 55 + d else 48
theorem dgF_rg (d : Int) : 48 ≤ dgF d ∧ dgF d ≤ 70 := by
  unfold dgF
  repeat' split
  all_goals omega
def opD (d : D) : D :=
  let r := opR d.toI.toNat
  .p (.s r.name) (.p (.i (r.mode : Nat)) (.p (.i (r.size : Nat)) (.p (.i (r.cycles : Nat)) (.b r.known))))
def dgB (d : Int) : UInt8 := UInt8.ofNat (dgF d).toNat
def h2 (n : Int) : List UInt8 := [36, dgB (n / 16), dgB (n % 16)]
def h4 (n : Int) : List UInt8 := [36, dgB (n / 4096), dgB (n / 256 % 16), dgB (n / 16 % 16), dgB (n % 16)]
def gbb (l : List UInt8) (k : Nat) : Int := ((l.getD k 0).toNat : Nat)
def wdF (l : List UInt8) (k : Nat) : Int := gbb l k + gbb l (k + 1) * 256
def tgF (a sz d : Int) : Int := (a + (if 127 < d then d - 256 else d) + sz) % 65536
def opF (l : List UInt8) (a sz : Int) : Nat → List UInt8
  | 1 => 35 :: h2 (gbb l 1)
  | 2 => h2 (gbb l 1)
  | 3 => h2 (gbb l 1) ++ [44, 88]
  | 4 => h2 (gbb l 1) ++ [44, 89]
  | 5 => h4 (wdF l 1)
  | 6 => h4 (wdF l 1) ++ [44, 88]
  | 7 => h4 (wdF l 1) ++ [44, 89]
  | 8 => 40 :: (h2 (gbb l 1) ++ [41])
  | 9 => 40 :: (h2 (gbb l 1) ++ [44, 88, 41])
  | 10 => 40 :: (h2 (gbb l 1) ++ [41, 44, 89])
  | 11 => h4 (tgF a sz (gbb l 1))
  | 12 => h2 (gbb l 1) ++ 44 :: h4 (tgF a sz (gbb l 2))
  | 13 => 35 :: (h2 (gbb l 1) ++ 44 :: h2 (gbb l 2))
  | 14 => 35 :: (h2 (gbb l 1) ++ 44 :: (h2 (gbb l 2) ++ [44, 88]))
  | 15 => 35 :: (h2 (gbb l 1) ++ 44 :: h4 (wdF l 2))
  | 16 => 35 :: (h2 (gbb l 1) ++ 44 :: (h4 (wdF l 2) ++ [44, 88]))
  | 17 => 40 :: (h4 (wdF l 1) ++ [41])
  | 18 => 40 :: (h4 (wdF l 1) ++ [44, 88, 41])
  | 19 => h4 (wdF l 1) ++ 44 :: (h4 (wdF l 3) ++ 44 :: h4 (wdF l 5))
  | _ => []
def byF (l : List UInt8) : List UInt8 := [46, 98, 121, 116, 101, 32] ++ h2 (gbb l 0)
def rcF (l : List UInt8) := opR (l.getD 0 0).toNat
def gdF (l : List UInt8) : Bool := (rcF l).known && Nat.ble (rcF l).size l.length
def txtF (l : List UInt8) (a : Int) : List UInt8 := bif gdF l then (bif Nat.beq (rcF l).mode 0 then (rcF l).name else (rcF l).name ++ 32 :: opF l a (rcF l).size (rcF l).mode) else byF l
def txtN (l : List UInt8) : Int := bif gdF l then ((rcF l).size : Nat) else 1
theorem txtN_rg (l : List UInt8) : 1 ≤ txtN l ∧ txtN l ≤ 7 := by
  have := op_rg (l.getD 0 0).toNat
  unfold txtN rcF
  cases gdF l with
  | true => simp only [cond_true]; omega
  | false => simp only [cond_false]; omega
theorem op_len30 (l : List UInt8) (a sz : Int) (m : Nat) : (opF l a sz m).length ≤ 30 := by
  unfold opF
  split <;> simp [h2, h4]
theorem op_len4 : ∀ b : Nat, b < 256 → (opR b).name.length ≤ 4 := by decide +kernel
theorem txt_len (l : List UInt8) (a : Int) : (txtF l a).length ≤ 100 := by
  have h1 : (rcF l).name.length ≤ 4 := op_len4 _ (l.getD 0 0).toNat_lt
  have h2' := op_len30 l a (rcF l).size (rcF l).mode
  unfold txtF
  cases gdF l with
  | false => simp [byF, h2]
  | true =>
    simp only [cond_true]
    cases Nat.beq (rcF l).mode 0 with
    | true => simp only [cond_true]; omega
    | false => simp only [cond_false, List.length_append, List.length_cons]; omega
theorem txtN_le {l : List UInt8} (h : 0 < l.length) : txtN l ≤ (l.length : Nat) := by
  unfold txtN
  cases hg : gdF l with
  | false => simp only [cond_false]; omega
  | true =>
    simp only [cond_true]
    unfold gdF at hg
    rw [Bool.and_eq_true] at hg
    have := Nat.le_of_ble_eq_true hg.2
    omega
def hxs (n : Int) : List UInt8 := [dgB (n / 4096), dgB (n / 256 % 16), dgB (n / 16 % 16), dgB (n % 16)]
def lnF (b : List UInt8) (a0 off : Int) : List UInt8 := (hxs ((a0 + off) % 65536) ++ [58, 32]) ++ txtF (b.drop off.toNat) ((a0 + off) % 65536)
def stN (b : List UInt8) (off : Int) : Int := txtN (b.drop off.toNat)
def ofs (b : List UInt8) : Nat → Int
  | 0 => 0
  | k + 1 => ofs b k + stN b (ofs b k)
def colS (out : List (List A)) (k : Nat) : List UInt8 := ((out.getD k []).getD 0 (.i 0)).toS
def LsP (b : List UInt8) (a0 off at_ : Int) (out : List (List A)) : Prop := off = ofs b out.length ∧ 0 ≤ off ∧ off ≤ (b.length : Nat) ∧ (out.length : Int) ≤ off ∧ at_ = (a0 + off) % 65536 ∧ ∀ k, k < out.length → colS out k = lnF b a0 (ofs b k)
def LkP (b : List UInt8) (k i : Int) (out : List (List A)) : Prop := 0 ≤ k ∧ k ≤ (out.length : Nat) ∧ i = ofs b k.toNat
theorem ofs_mono (b : List UInt8) (j : Nat) : ∀ d, ofs b j + d ≤ ofs b (j + d)
  | 0 => by simp
  | d + 1 => by
    have ih := ofs_mono b j d
    have := (txtN_rg (b.drop (ofs b (j + d)).toNat)).1
    show ofs b j + ((d + 1 : Nat) : Int) ≤ ofs b (j + d) + stN b (ofs b (j + d))
    unfold stN; omega
theorem colS_1 (out : List (List A)) (r : List A) {k : Nat} (h : k < out.length) : colS (out ++ [r]) k = colS out k := by
  have e : (out ++ [r]).getD k [] = out.getD k [] := by
    rw [List.getD_eq_getElem?_getD, List.getElem?_append_left h, ← List.getD_eq_getElem?_getD]
  unfold colS
  rw [e]
theorem colS_2 (out : List (List A)) (r : List A) : colS (out ++ [r]) out.length = (r.getD 0 (.i 0)).toS := by
  have e : (out ++ [r]).getD out.length [] = r := by
    rw [List.getD_eq_getElem?_getD, List.getElem?_append_right (Nat.le_refl _), Nat.sub_self]; rfl
  unfold colS
  rw [e]
theorem ls_next {b : List UInt8} {a0 off at_ : Int} {out : List (List A)} {r : List A} (h : LsP b a0 off at_ out) (hl : off < (b.length : Nat)) (hr : (r.getD 0 (.i 0)).toS = (hxs at_ ++ [58, 32]) ++ txtF (b.drop off.toNat) at_) : LsP b a0 (off + stN b off) ((at_ + stN b off) % 65536) (out ++ [r]) ∧ stN b off ≤ (b.length : Nat) - off := by
  obtain ⟨h1, h2, h3, h4, h5, h6⟩ := h
  have hn := txtN_le (l := b.drop off.toNat) (by rw [List.length_drop]; omega)
  have h0 := (txtN_rg (b.drop off.toNat)).1
  rw [List.length_drop] at hn
  have hs : stN b off ≤ (b.length : Nat) - off := by unfold stN; omega
  have hs0 : 1 ≤ stN b off := h0
  have hlen : (out ++ [r]).length = out.length + 1 := by simp
  refine ⟨⟨?_, by omega, by omega, by rw [hlen]; omega, by rw [h5]; omega, fun k hk => ?_⟩, hs⟩
  · rw [hlen]
    show _ = ofs b out.length + stN b (ofs b out.length)
    rw [← h1]
  · rw [hlen] at hk
    rcases Nat.lt_or_ge k out.length with hq | hq
    · rw [colS_1 _ _ hq]; exact h6 k hq
    · obtain rfl : k = out.length := by omega
      rw [colS_2, hr, ← h1, h5]; rfl
theorem lk_at {b : List UInt8} {a0 off at_ k i : Int} {out : List (List A)} (h : LsP b a0 off at_ out) (he : ¬ off < (b.length : Nat)) (hk : LkP b k i out) (hi : i < (b.length : Nat)) : k < (out.length : Nat) ∧ colS out k.toNat = lnF b a0 i ∧ LkP b (k + 1) (i + stN b i) out ∧ i + stN b i ≤ (b.length : Nat) ∧ 0 ≤ i := by
  obtain ⟨h1, h2, h3, h4, h5, h6⟩ := h
  obtain ⟨g0, g1, g2⟩ := hk
  have hlt : k < (out.length : Nat) := by
    rcases Int.lt_or_le k (out.length : Nat) with q | q
    · exact q
    · have : k.toNat = out.length := by omega
      rw [this, ← h1] at g2
      omega
  have hm := ofs_mono b (k.toNat + 1) (out.length - (k.toNat + 1))
  rw [Nat.add_sub_cancel' (by omega)] at hm
  have hm0 := ofs_mono b 0 k.toNat
  have e0 : ofs b 0 = 0 := rfl
  have e1 : ofs b (k.toNat + 1) = i + stN b i := by rw [g2]; rfl
  rw [Nat.zero_add] at hm0
  refine ⟨hlt, by rw [g2]; exact h6 k.toNat (by omega), ⟨by omega, by omega, ?_⟩, by omega, by omega⟩
  rw [show (k + 1).toNat = k.toNat + 1 from by omega, e1]
theorem lk_end {b : List UInt8} {a0 off at_ k i : Int} {out : List (List A)} (h : LsP b a0 off at_ out) (hk : LkP b k i out) (hi : ¬ i < (b.length : Nat)) : k = (out.length : Nat) := by
  obtain ⟨h1, h2, h3, h4, h5, h6⟩ := h
  obtain ⟨g0, g1, g2⟩ := hk
  have hm := ofs_mono b k.toNat (out.length - k.toNat)
  rw [Nat.add_sub_cancel' (by omega)] at hm
  omega
def rgM : Nat → List Bool → Rg
  | 40, [true, false] => ⟨some 0, some 19⟩
  | 40, [true, true, false] => ⟨some 1, some 7⟩
  | 40, [true, true, true, false] => ⟨some 2, some 17⟩
  | 101, [] => ⟨some 48, some 70⟩
  | 103, [true] => ⟨some 1, some 7⟩
  | _, _ => .top
def shM : Nat → Sh
  | 40 => .i
  | 101 => .i
  | 103 => .p .x (.p .i .i)
  | _ => .x
open Classical in
noncomputable def phiM : Nat → D → D
  | 40, d => opD d
  | 101, d => .i (dgF d.toI)
  | 103, d => .p (.s (txtF (d.fst.toS.drop d.snd.fst.toI.toNat) d.snd.snd.toI)) (.i (txtN (d.fst.toS.drop d.snd.fst.toI.toNat)))
  | 104, d => .b (decide (LsP d.fst.toS d.snd.fst.toI d.snd.snd.fst.toI d.snd.snd.snd.fst.toI d.snd.snd.snd.snd.toR))
  | 105, d => .b (decide (LkP d.fst.toS d.snd.fst.toI d.snd.snd.fst.toI d.snd.snd.snd.toR))
  | _, _ => .u
theorem phiM_ok : ∀ f p d, (rgM f p).has ((phiM f d).proj p).toI := by
  intro f p d
  have ho := op_rg d.toI.toNat
  unfold rgM
  split
  · exact hasM (by show (0 : Int) ≤ ((opR d.toI.toNat).mode : Nat); omega) (by show (((opR d.toI.toNat).mode : Nat) : Int) ≤ 19; omega)
  · exact hasM (by show (1 : Int) ≤ ((opR d.toI.toNat).size : Nat); omega) (by show (((opR d.toI.toNat).size : Nat) : Int) ≤ 7; omega)
  · exact hasM (by show (2 : Int) ≤ ((opR d.toI.toNat).cycles : Nat); omega) (by show (((opR d.toI.toNat).cycles : Nat) : Int) ≤ 17; omega)
  · have h := dgF_rg d.toI
    exact hasM h.1 h.2
  · have h := txtN_rg (d.fst.toS.drop d.snd.fst.toI.toNat)
    exact hasM h.1 h.2
  · exact hasT _
theorem phiM_sh : ∀ f d d', (shM f).like d d' → phiM f d = phiM f d' := by
  intro f d d' hl
  unfold shM at hl
  split at hl
  · have h : d.toI = d'.toI := hl
    show opD d = opD d'
    unfold opD
    rw [h]
  · have h : d.toI = d'.toI := hl
    show D.i (dgF d.toI) = D.i (dgF d'.toI)
    rw [h]
  · obtain ⟨h1, h2, h3⟩ := hl
    have h1 : d.fst = d'.fst := h1
    have h2 : d.snd.fst.toI = d'.snd.fst.toI := h2
    have h3 : d.snd.snd.toI = d'.snd.snd.toI := h3
    show D.p (.s (txtF (d.fst.toS.drop d.snd.fst.toI.toNat) d.snd.snd.toI)) (.i (txtN (d.fst.toS.drop d.snd.fst.toI.toNat))) = D.p (.s (txtF (d'.fst.toS.drop d'.snd.fst.toI.toNat) d'.snd.snd.toI)) (.i (txtN (d'.fst.toS.drop d'.snd.fst.toI.toNat)))
    rw [h1, h2, h3]
  · have h : d = d' := hl
    rw [h]
noncomputable instance famM : Fam := ⟨phiM, fun _ _ => noOb, rgM, phiM_ok, fun _ => false, fun _ _ h => (by cases h), fun _ => [], shM, phiM_sh⟩
def noT : Tms := fun _ => none
theorem noT_ok : TmsOk Tryd.prog noT := fun _ _ h => by cases h
def un (x : X) : X := .u .unit x
def dgX (d : X) : X := .ap 101 d
def chA : Int → Nat → X → X
  | n, 0, _ => .i 70
  | n, k + 1, d => .t .i (.o .eq d (.i n)) (.i (dgF n)) (chA (n + 1) k d)
def chX (d : X) : X := chA 0 15 d
def dgs : List UInt8 := [48, 49, 50, 51, 52, 53, 54, 55, 56, 57, 65, 66, 67, 68, 69, 70]
def tkX (d : X) : X := .o .take (.o .drop (.s dgs) d) (.i 1)
def hx2 (q : X → X) : X := .o .cat (q (.o .ediv (.v 0) (.i 16))) (q (.o .emod (.v 0) (.i 16)))
def d3 : X := .o .ediv (.v 0) (.i 4096)
def d2 : X := .o .emod (.o .ediv (.v 0) (.i 256)) (.i 16)
def d1 : X := .o .emod (.o .ediv (.v 0) (.i 16)) (.i 16)
def d0 : X := .o .emod (.v 0) (.i 16)
def hx4 (q : X → X) : X := .o .cat (q d3) (.o .cat (q d2) (.o .cat (q d1) (q d0)))
def lcHx (k m : Int) (xs : List X) (x : X) : LC := ⟨1, [.z (.i .u32 (.v 0)), .z (.i .i64 (.i k))], [], [⟨.v 0, ⟨some 0, some m⟩⟩], xs, .z (.s x), []⟩
theorem hxA2 : (lcHx 2 255 [] (hx2 fun d => un (chX d))).Ok Tryd.prog 60 := LC.Ok.of_treeF (L := noJ) (lem := noX) (T := T) (W := W0) (n := 12) (cf := 300) (d := 20) (opn := []) (cls := []) (fun _ _ _ h => by cases h) (fun _ _ h => by cases h) C0_ok noT_ok rfl rfl (by kernel_rfl)
theorem hxA4 : (lcHx 4 65535 [] (hx4 fun d => un (chX d))).Ok Tryd.prog 60 := LC.Ok.of_treeF (L := noJ) (lem := noX) (T := T) (W := W0) (n := 12) (cf := 300) (d := 20) (opn := []) (cls := []) (fun _ _ _ h => by cases h) (fun _ _ h => by cases h) C0_ok noT_ok rfl rfl (by kernel_rfl)
def leX (x : X) (n : Int) : X := .u .not (.o .lt (.i n) (.u .len x))
def hxAx : List X := [leX (tkX (.o .ediv (.v 0) (.i 16))) 1, leX (tkX d3) 1, leX (tkX d2) 1, leX (tkX d1) 1, leX (tkX d0) 1, leX (.o .cat (tkX d1) (tkX d0)) 2, leX (.o .cat (tkX d2) (.o .cat (tkX d1) (tkX d0))) 3]
theorem hxB2 : (lcHx 2 255 hxAx (hx2 tkX)).Ok Tryd.prog 37 := LC.Ok.of_treeF (L := noJ) (lem := noX) (T := T) (W := W0) (n := 12) (cf := 300) (d := 20) (opn := []) (cls := []) (fun _ _ _ h => by cases h) (fun _ _ h => by cases h) C0_ok noT_ok rfl rfl (by kernel_rfl)
theorem hxB4 : (lcHx 4 65535 hxAx (hx4 tkX)).Ok Tryd.prog 37 := LC.Ok.of_treeF (L := noJ) (lem := noX) (T := T) (W := W0) (n := 12) (cf := 300) (d := 20) (opn := []) (cls := []) (fun _ _ _ h => by cases h) (fun _ _ h => by cases h) C0_ok noT_ok rfl rfl (by kernel_rfl)
theorem tk_len (e : En) (d : X) : ((tkX d).S e).length ≤ 1 := by
  show (((dgs.drop (d.I e).toNat).take (1 : Int).toNat).length) ≤ 1
  rw [List.length_take]
  exact Nat.min_le_left _ _
theorem le_in {e : En} {x : X} {n : Nat} (h : (x.S e).length ≤ n) : (leX x (n : Int)).B e = true := by
  show (!decide ((n : Int) < (((x.S e).length : Nat) : Int))) = true
  rw [decide_eq_false (by omega)]; rfl
theorem cat_len (e : En) (a b : X) {m n : Nat} (h1 : (a.S e).length ≤ m) (h2 : (b.S e).length ≤ n) : ((X.o .cat a b).S e).length ≤ m + n := by
  show (a.S e ++ b.S e).length ≤ _
  rw [List.length_append]; omega
theorem hxAx_ok : ∀ x ∈ hxAx, ∀ e : En, x.B e = true := by
  intro x hx e
  simp only [hxAx, List.mem_cons, List.not_mem_nil, or_false] at hx
  rcases hx with rfl | rfl | rfl | rfl | rfl | rfl | rfl
  · exact le_in (n := 1) (tk_len e _)
  · exact le_in (n := 1) (tk_len e _)
  · exact le_in (n := 1) (tk_len e _)
  · exact le_in (n := 1) (tk_len e _)
  · exact le_in (n := 1) (tk_len e _)
  · exact le_in (n := 2) (cat_len e _ _ (tk_len e _) (tk_len e _))
  · exact le_in (n := 3) (cat_len e _ _ (tk_len e _) (cat_len e _ _ (tk_len e _) (tk_len e _)))
theorem chA_I (e : En) (d : X) : ∀ (k : Nat) (n : Int), 0 ≤ n → n + k = 15 → n ≤ d.I e → d.I e ≤ 15 → (chA n k d).I e = dgF (d.I e)
  | 0, n, h0, h1, h2, h3 => by
    have : d.I e = 15 := by omega
    rw [this]; rfl
  | k + 1, n, h0, h1, h2, h3 => by
    show (bif decide (d.I e = n) then dgF n else (chA (n + 1) k d).I e) = _
    by_cases hd : d.I e = n
    · rw [decide_eq_true hd, hd]; rfl
    · rw [decide_eq_false hd]
      exact chA_I e d k (n + 1) (by omega) (by omega) (by omega) h3
theorem un_S (e : En) (x : X) : (un x).S e = [UInt8.ofNat (x.I e).toNat] := rfl
theorem ch_S (e : En) (d : X) (h0 : 0 ≤ d.I e) (h1 : d.I e ≤ 15) : (un (chX d)).S e = (un (dgX d)).S e := by
  rw [un_S, un_S]
  show [UInt8.ofNat ((chA 0 15 d).I e).toNat] = [UInt8.ofNat (dgF (d.I e)).toNat]
  rw [chA_I e d 15 0 (by omega) (by omega) h0 h1]
theorem tk16 : ∀ n : Nat, n < 16 → (dgs.drop n).take 1 = [UInt8.ofNat (dgF (n : Int)).toNat] := by decide +kernel
theorem tk_S (e : En) (d : X) (h0 : 0 ≤ d.I e) (h1 : d.I e ≤ 15) : (tkX d).S e = (un (dgX d)).S e := by
  rw [un_S]
  show (dgs.drop (d.I e).toNat).take 1 = [UInt8.ofNat (dgF (d.I e)).toNat]
  rw [tk16 _ (by omega), show (((d.I e).toNat : Nat) : Int) = d.I e from by omega]
theorem hx2_S {e : En} {q r : X → X} (h : ∀ d : X, 0 ≤ d.I e → d.I e ≤ 15 → (q d).S e = (r d).S e) (h0 : 0 ≤ (e.ρ 0).toI) (h1 : (e.ρ 0).toI ≤ 255) : (hx2 q).S e = (hx2 r).S e := by
  show (q _).S e ++ (q _).S e = (r _).S e ++ (r _).S e
  rw [h (.o .ediv (.v 0) (.i 16)) (by show 0 ≤ (e.ρ 0).toI / 16; omega) (by show (e.ρ 0).toI / 16 ≤ 15; omega), h (.o .emod (.v 0) (.i 16)) (by show 0 ≤ (e.ρ 0).toI % 16; omega) (by show (e.ρ 0).toI % 16 ≤ 15; omega)]
theorem hx4_S {e : En} {q r : X → X} (h : ∀ d : X, 0 ≤ d.I e → d.I e ≤ 15 → (q d).S e = (r d).S e) (h0 : 0 ≤ (e.ρ 0).toI) (h1 : (e.ρ 0).toI ≤ 65535) : (hx4 q).S e = (hx4 r).S e := by
  show (q _).S e ++ ((q _).S e ++ ((q _).S e ++ (q _).S e)) = (r _).S e ++ ((r _).S e ++ ((r _).S e ++ (r _).S e))
  rw [h d3 (by show 0 ≤ (e.ρ 0).toI / 4096; omega) (by show (e.ρ 0).toI / 4096 ≤ 15; omega), h d2 (by show 0 ≤ (e.ρ 0).toI / 256 % 16; omega) (by show (e.ρ 0).toI / 256 % 16 ≤ 15; omega), h d1 (by show 0 ≤ (e.ρ 0).toI / 16 % 16; omega) (by show (e.ρ 0).toI / 16 % 16 ≤ 15; omega), h d0 (by show 0 ≤ (e.ρ 0).toI % 16; omega) (by show (e.ρ 0).toI % 16 ≤ 15; omega)]
def hxN2 : LC := lcHx 2 255 [] (hx2 fun d => un (dgX d))
def hxN4 : LC := lcHx 4 65535 [] (hx4 fun d => un (dgX d))
theorem str_eq {a b : List UInt8} (h : a = b) : Value.string ⟨⟨a⟩⟩ = Value.string ⟨⟨b⟩⟩ := by rw [h]
theorem hx_a2 : hxN2.Ok Tryd.prog 60 := hxA2.conv rfl rfl rfl fun ds hl hf ha => ⟨hf, ha, str_eq (hx2_S (fun d g0 g1 => ch_S _ d g0 g1) ((hf _ (.head _)).1 _ rfl) ((hf _ (.head _)).2 _ rfl)), rfl⟩
theorem hx_a4 : hxN4.Ok Tryd.prog 60 := hxA4.conv rfl rfl rfl fun ds hl hf ha => ⟨hf, ha, str_eq (hx4_S (fun d g0 g1 => ch_S _ d g0 g1) ((hf _ (.head _)).1 _ rfl) ((hf _ (.head _)).2 _ rfl)), rfl⟩
theorem hx_b2 : hxN2.Ok Tryd.prog 37 := hxB2.conv rfl rfl rfl fun ds hl hf ha => ⟨hf, fun x hx => hxAx_ok x hx _, str_eq (hx2_S (fun d g0 g1 => tk_S _ d g0 g1) ((hf _ (.head _)).1 _ rfl) ((hf _ (.head _)).2 _ rfl)), rfl⟩
theorem hx_b4 : hxN4.Ok Tryd.prog 37 := hxB4.conv rfl rfl rfl fun ds hl hf ha => ⟨hf, fun x hx => hxAx_ok x hx _, str_eq (hx4_S (fun d g0 g1 => tk_S _ d g0 g1) ((hf _ (.head _)).1 _ rfl) ((hf _ (.head _)).2 _ rfl)), rfl⟩
def nmX (x : X) : X := .u .fst (.ap 40 x)
def mdX (x : X) : X := .u .fst (.u .snd (.ap 40 x))
def szX (x : X) : X := .u .fst (.u .snd (.u .snd (.ap 40 x)))
def cyX (x : X) : X := .u .fst (.u .snd (.u .snd (.u .snd (.ap 40 x))))
def knX (x : X) : X := .u .snd (.u .snd (.u .snd (.u .snd (.ap 40 x))))
def sxA (x : X) : SV := .a (.ag [.z (.s (nmX x)), .z (.i .u8 (mdX x)), .z (.i .i64 (szX x)), .z (.i .i64 (cyX x))])
def sxB (x : X) : SV := .a (.ag [.z (.s (nmX x)), .z (.i .u8 (mdX x)), .z (.i .i64 (szX x)), .z (.i .i64 (cyX x)), .z (.b (knX x))])
def sxK (x : X) : SV := .z (.b (knX x))
noncomputable def conOp (sp : Nat → SV) (sx : X → SV) : ConF := fun g args m => match args with
  | [.a (.s (.z (.i k x)))] => bif inK g .u8 k x then (match sgl g x with
    | .i n => some ([], sp n.toNat, m)
    | x => some ([], sx x, m)) else none
  | _ => none
theorem conOp_ok {f : FuncId} {sp : Nat → SV} {sx : X → SV} (hs : ∀ b e, (sp b).den e = (sp b).den (envOf [])) (hx : ∀ e x, (sx x).den e = (sp (x.I e).toNat).den (envOf []))
    (h : ∀ b : Nat, b < 256 → ∀ m, ACall Tryd.prog f [.int .u8 (b : Nat)] m fun w m2 => w = (sp b).den (envOf []) ∧ m2 = m) : Con Tryd.prog f (conOp sp sx) := by
  intro g args m ns v m' e hf hg hn
  unfold conOp at hf
  split at hf
  case h_2 => cases hf
  rename_i k x
  cases hk : inK g .u8 k x with
  | false => rw [hk] at hf; cases hf
  | true =>
    obtain ⟨rfl, h0, h1⟩ := inK_ok hg hk
    have h0 : 0 ≤ x.I e := h0
    have h1 : x.I e ≤ 255 := h1
    rw [hk] at hf
    have key := h (x.I e).toNat (by omega) (denM e m)
    have e1 : (((x.I e).toNat : Nat) : Int) = x.I e := by omega
    rw [e1] at key
    show ACall Tryd.prog f [.int .u8 (x.I e)] (denM e m) fun w m2 => w = v.den e ∧ m2 = denM e m'
    have hsg := sgl_I hg x
    simp only [cond_true] at hf
    split at hf
    · rename_i n hn'
      cases hf
      rw [hn'] at hsg
      have e2 : n = x.I e := hsg
      rw [e2, hs]
      exact key
    · rename_i x' hx'
      cases hf
      rw [hx, hsg]
      exact key
theorem conA : Con Tryd.prog 102 (conOp spA sxA) := conOp_ok (fun _ _ => rfl) (fun e x => by
  show Value.agg ⟨[.string ⟨⟨(Fam.Φ 40 (x.den e)).fst.toS⟩⟩, .int .u8 (Fam.Φ 40 (x.den e)).snd.fst.toI, .int .i64 (Fam.Φ 40 (x.den e)).snd.snd.fst.toI, .int .i64 (Fam.Φ 40 (x.den e)).snd.snd.snd.fst.toI]⟩ = _
  rfl) ofA
theorem conB : Con Tryd.prog 46 (conOp spB sxB) := conOp_ok (fun _ _ => rfl) (fun e x => by
  show Value.agg ⟨[.string ⟨⟨(Fam.Φ 40 (x.den e)).fst.toS⟩⟩, .int .u8 (Fam.Φ 40 (x.den e)).snd.fst.toI, .int .i64 (Fam.Φ 40 (x.den e)).snd.snd.fst.toI, .int .i64 (Fam.Φ 40 (x.den e)).snd.snd.snd.fst.toI, .bool (Fam.Φ 40 (x.den e)).snd.snd.snd.snd.toB]⟩ = _
  rfl) ofB
theorem conKn : Con Tryd.prog 103 (conOp spK sxK) := conOp_ok (fun _ _ => rfl) (fun e x => by
  show Value.bool (Fam.Φ 40 (x.den e)).snd.snd.snd.snd.toB = _
  rfl) ofK
noncomputable def CLm : List (FuncId × CallF) := [(102, conCall (conOp spA sxA)), (46, conCall (conOp spB sxB)), (103, conCall (conOp spK sxK)), (115, conCall conJoin), (60, conCall (conSm (conAlt ([hxN2, hxN4].map (conG 12 T))))), (37, conCall (conSm (conAlt ([hxN2, hxN4].map (conG 12 T)))))]
theorem hx_con {f : FuncId} (h2 : hxN2.Ok Tryd.prog f) (h4 : hxN4.Ok Tryd.prog f) : ConOk T f (conCall (conSm (conAlt ([hxN2, hxN4].map (conG 12 T))))) := Con.ok (Con.sm (Con.alt (all_cons' (conG_ok rfl h2) (all_cons' (conG_ok rfl h4) all_nil'))))
theorem CLm_all : ∀ p ∈ CLm, ConOk T p.1 p.2 := all_cons' conA.ok (all_cons' conB.ok (all_cons' conKn.ok (all_cons' conJN.ok (all_cons' (hx_con hx_a2 hx_a4) (all_cons' (hx_con hx_b2 hx_b4) all_nil')))))
noncomputable def CM := conTab CLm
theorem CM_ok : ∀ n c, CM n = some c → ConOk T n c := conTab_ok CLm_all
end Go.Proofs.YtjcpcnoakphecaaDoor
