/-
  Contracts for the devices behind the buffer (HdB). Conditions: none.
-/
import Derived.Test.YtafkhelomlmlpaaGreatHdA
set_option linter.unusedSectionVars false
set_option linter.unusedVariables false
set_option linter.unusedSimpArgs false
namespace Go.Proofs.YtafkhelomlmlpaaGreat
open Go Go.AE Go.SX Go.RowKit
set_option maxRecDepth 1000000
def clampI (lo hi n : Int) : Int := if n < lo then lo else if hi < n then hi else n
theorem clampI_eq {lo hi n : Int} (h1 : lo ≤ n) (h2 : n ≤ hi) : clampI lo hi n = n := by
  unfold clampI; rw [if_neg (by omega), if_neg (by omega)]
theorem clampI_has {lo hi n : Int} (h : lo ≤ hi) : (Rg.mk (some lo) (some hi)).has (clampI lo hi n) := by
  refine hasM ?_ ?_ <;> (unfold clampI; split <;> (try split) <;> omega)
/-- The timer's way on, in three numbers: how often it was over, the counter, what is left. -/
def goC (on : Bool) (r c l n : Int) : Int × Int × Int := match on with
  | true => let g := goF r n 0 c l
    (g.ov, g.c, if 0 < g.n then g.l - g.n else g.l)
  | false => (0, c, l)
theorem goC_rg {on : Bool} {r c l n : Int} (hr : 0 ≤ r) (hr' : r ≤ 127) (hc : 0 ≤ c) (hc' : c ≤ 127) (hl : 1 ≤ l) (hl' : l ≤ 3072) (hn : 0 ≤ n) (hn' : n ≤ 281474976710656) :
    (0 ≤ (goC on r c l n).1 ∧ (goC on r c l n).1 ≤ 1125899906842624) ∧ (0 ≤ (goC on r c l n).2.1 ∧ (goC on r c l n).2.1 ≤ 127) ∧ 1 ≤ (goC on r c l n).2.2 ∧ (goC on r c l n).2.2 ≤ 3072 := by
  cases on with
  | false => exact ⟨⟨by show (0 : Int) ≤ 0; omega, by show (0 : Int) ≤ _; omega⟩, ⟨hc, hc'⟩, hl, hl'⟩
  | true =>
    unfold goC goF
    simp only
    by_cases h1 : n < l
    · simp only [if_pos h1]
      refine ⟨⟨by omega, by omega⟩, ⟨hc, hc'⟩, ?_⟩
      split <;> constructor <;> omega
    · simp only [if_neg h1]
      have h2 := Int.emod_nonneg (n - l) (b := 3072) (by omega)
      have h3 := Int.emod_lt_of_pos (n - l) (b := 3072) (by omega)
      by_cases h4 : (n - l) / 3072 + 1 ≤ c
      · simp only [if_pos h4]
        refine ⟨⟨by omega, by omega⟩, ⟨by omega, by omega⟩, ?_⟩
        split <;> constructor <;> omega
      · simp only [if_neg h4]
        have h5 := Int.emod_nonneg ((n - l) / 3072 + 1 - c - 1) (b := r + 1) (by omega)
        have h6 := Int.emod_lt_of_pos ((n - l) / 3072 + 1 - c - 1) (b := r + 1) (by omega)
        have h7 : 0 ≤ ((n - l) / 3072 + 1 - c - 1) / (r + 1) := Int.ediv_nonneg (by omega) (by omega)
        have h8 : ((n - l) / 3072 + 1 - c - 1) / (r + 1) ≤ (n - l) / 3072 + 1 - c - 1 := Int.ediv_le_self _ (by omega)
        refine ⟨⟨by omega, by omega⟩, ⟨by omega, by omega⟩, ?_⟩
        split <;> constructor <;> omega
def goD (d : D) : D :=
  let g := goC d.snd.snd.fst.toB d.fst.toI d.snd.fst.toI d.snd.snd.snd.fst.toI d.snd.snd.snd.snd.toI
  .p (.i (clampI 0 1125899906842624 g.1)) (.p (.i (clampI 0 127 g.2.1)) (.i (clampI 1 3072 g.2.2)))
/-! The names of functions, and what is known of their ranges. -/
def rgH : Nat → List Bool → Rg
  | 1, [false] => ⟨some 0, some 1000⟩
  | 2, [false] => ⟨some 0, some 1125899906842624⟩
  | 2, [true, false] => ⟨some 0, some 127⟩
  | 2, [true, true] => ⟨some 1, some 3072⟩
  | 3, [] => ⟨some 0, some 8⟩
  | 21, [] => ⟨some 0, some 255⟩
  | 26, [] => ⟨some 0, some 5⟩
  | 41, [] => ⟨some 0, some 255⟩
  | 43, [] => ⟨some 0, some 255⟩
  | 50, [] => ⟨some 0, some 2097151⟩
  | _, _ => .top
def visH : Nat → List VC
  | 4 => [.top, .top, .top, .top, .top, .top, .top]
  | 5 => [.top, .top, .top, .top, .i .i64 [true, true, true, true, true, true, true, false], .b [true, true, true, true, true, true, true, true, false], .top]
  | 6 => [.top, .top, .top, .top, .i .i64 [true, true, true, true, true, true, true, false], .b [true, true, true, true, true, true, true, true, false], .top]
  | 1 => [.top, .top, .top, .top, .top, .top, .top, .top]
  | 2 => [.top, .top, .top, .top, .top, .top, .top, .i .i64 [true, true, true, true, true, true, true, true, true, true, true, true, true, true, true, true, true, true]]
  | _ => []
/-- How the functions look at what they are given. -/
def shH : Nat → Sh
  | 0 => .p .x (.p .i .i)
  | 1 => .p .x (.p .i (.p .b .i))
  | 2 => .p .i (.p .i (.p .b (.p .i .i)))
  | 3 => .i
  | _ => .x
class HF where
  Φ : Nat → D → D
  ob : Nat → D → Ob
  ok : ∀ f p d, (rgH f p).has ((Φ f d).proj p).toI
  sh : ∀ f d d', (shH f).like d d' → Φ f d = Φ f d'
instance famH [HF] : Fam := ⟨HF.Φ, HF.ob, rgH, HF.ok, fun _ => false, fun _ _ h => (by cases h), visH, shH, HF.sh⟩
variable [HF]
def i64 (n : Nat) : SS := .z (.i .i64 (.v n))
def mT (t : Nat) : SMem := [some ⟨.cs [u8 0, u8 1, bb 2, i64 3], t, true, true⟩]
def fsGo : List Fact := [⟨.v 0, ⟨some 0, some 127⟩⟩, ⟨.v 1, ⟨some 0, some 127⟩⟩, ⟨.v 3, ⟨some 1, some 3072⟩⟩, ⟨.v 4, ⟨some 1, some 281474976710656⟩⟩]
/-- The timer's contract: what is over, the counter, what is left, by three expressions. -/
def lcGo (t : Nat) (o c l : X) : LC := ⟨5, [p0, .z (.i .i64 (.v 4))], mT t, fsGo, [], .z (.i .i64 o), [some ⟨.cs [u8 0, .z (.i .u8 c), bb 2, .z (.i .i64 l)], t, true, true⟩]⟩
def go1o : X := (.t .i (.t .b (.v 2) (.b false) (.b true)) (.i 0) (.t .i (.o .lt (.v 4) (.v 3)) (.i 0) (.t .i (.o .lt (.v 1) (.o .add (.o .ediv (.o .add (.o .mul (.v 3) (.i (-1))) (.v 4)) (.i 3072)) (.i 1))) (.o .add (.o .ediv (.o .add (.o .mul (.v 1) (.i (-1))) (.o .ediv (.o .add (.o .mul (.v 3) (.i (-1))) (.v 4)) (.i 3072))) (.o .add (.v 0) (.i 1))) (.i 1)) (.i 0))))
def go1c : X := (.t .i (.t .b (.v 2) (.b false) (.b true)) (.v 1) (.t .i (.o .lt (.v 4) (.v 3)) (.v 1) (.t .i (.o .lt (.v 1) (.o .add (.o .ediv (.o .add (.o .mul (.v 3) (.i (-1))) (.v 4)) (.i 3072)) (.i 1))) (.o .emod (.o .add (.v 0) (.o .mul (.o .emod (.o .add (.o .mul (.v 1) (.i (-1))) (.o .ediv (.o .add (.o .mul (.v 3) (.i (-1))) (.v 4)) (.i 3072))) (.o .add (.v 0) (.i 1))) (.i (-1)))) (.i 256)) (.o .add (.o .add (.v 1) (.o .mul (.o .ediv (.o .add (.o .mul (.v 3) (.i (-1))) (.v 4)) (.i 3072)) (.i (-1)))) (.i (-1))))))
def go1l : X := (.t .i (.t .b (.v 2) (.b false) (.b true)) (.v 3) (.t .i (.o .lt (.v 4) (.v 3)) (.o .add (.v 3) (.o .mul (.v 4) (.i (-1)))) (.o .add (.o .mul (.o .emod (.o .add (.o .mul (.v 3) (.i (-1))) (.v 4)) (.i 3072)) (.i (-1))) (.i 3072))))
theorem go1 : (lcGo 172 go1o go1c go1l).Ok Tryz.prog 160 := lc_ok rfl rfl (by kernel_rfl)
/-- The document's, a loop. -/
def Wgo : FuncId → Nat → List (Hint Tryz.prog) := fun n _ => bif Nat.beq n 207 then [.t 1 (some 0) (some 281474976710656), .t 5 (some 0) (some 281474976710656), .c 0 1 (some 0) (some 127), .c 0 3 (some 1) (some 3072)] else []
def fnGo : LFn := ⟨10, [.v 0], condGo, nextGo⟩
def Lgo : Nat → Option LJ := fun b => bif Nat.beq b 5 then some ⟨.u .not (.o .lt (.i 281474976710656) (.o .add (.v 5) (.v 6))), .v 5, some fnGo⟩ else none
def apGo : X := .ap 10 (packX [.v 4, .i 0, .v 1, .v 3, .v 0])
def iteOn (a b : X) : X := .t .i (.v 2) a b
def go2o : X := iteOn (.u .fst (.u .snd apGo)) (.i 0)
def go2c : X := iteOn (.u .fst (.u .snd (.u .snd apGo))) (.v 1)
def go2l : X := iteOn (.t .i (.o .lt (.i 0) (.u .fst apGo)) (.o .add (.o .mul (.u .fst apGo) (.i (-1))) (.u .snd (.u .snd (.u .snd apGo)))) (.u .snd (.u .snd (.u .snd apGo)))) (.v 3)
theorem Lgo_ok (hF : ∀ d, Fam.Φ 10 d = fixD condGo nextGo 1 d) : ∀ b li f, Lgo b = some li → li.fn = some f → IsLoop f := fun b li f h hf => by
  unfold Lgo at h
  cases hb : Nat.beq b 5 with
  | false => rw [hb] at h; cases h
  | true => rw [hb] at h; cases h; cases hf; exact isLoop_fix hF
theorem go2 (hF : ∀ d, Fam.Φ 10 d = fixD condGo nextGo 1 d) : (lcGo 158 go2o go2c go2l).Ok Tryz.prog 207 :=
  LC.Ok.of_treeF (L := Lgo) (lem := noX) (W := Wgo) (n := 12) (cf := 300) (d := 20) (opn := []) (cls := []) (Lgo_ok hF) (fun _ _ h => by cases h) CI_ok noT_ok rfl rfl (by kernel_rfl)
/-- The contract, told by one name. -/
def apG : X := .ap 2 (packX (varsX 5))
def lcG (t : Nat) : LC := lcGo t (.u .fst apG) (.u .fst (.u .snd apG)) (.u .snd (.u .snd apG))
theorem len5 {ds : List D} (h : ds.length = 5) : ∃ a b c d e, ds = [a, b, c, d, e] := by
  match ds, h with
  | [a, b, c, d, e], _ => exact ⟨a, b, c, d, e, rfl⟩
theorem lcG_of {t : Nat} {o c l : X} {f : FuncId} (h2 : ∀ d, Fam.Φ 2 d = goD d) (h : (lcGo t o c l).Ok Tryz.prog f)
    (hx : ∀ r k on t n : D, 0 ≤ r.toI → r.toI ≤ 127 → 0 ≤ k.toI → k.toI ≤ 127 → 1 ≤ t.toI → t.toI ≤ 3072 → 1 ≤ n.toI → n.toI ≤ 281474976710656 →
      (o.I (envOf [r, k, on, t, n]), c.I (envOf [r, k, on, t, n]), l.I (envOf [r, k, on, t, n])) = goC on.toB r.toI k.toI t.toI n.toI) : (lcG t).Ok Tryz.prog f := by
  refine h.conv rfl rfl rfl fun ds hl hf _ => ⟨hf, fun x hx => (by cases hx), ?_⟩
  obtain ⟨r, k, on, t, n, rfl⟩ := len5 hl
  obtain ⟨r1, r2⟩ := hf ⟨.v 0, ⟨some 0, some 127⟩⟩ (by show _ ∈ fsGo; simp [fsGo])
  obtain ⟨k1, k2⟩ := hf ⟨.v 1, ⟨some 0, some 127⟩⟩ (by show _ ∈ fsGo; simp [fsGo])
  obtain ⟨t1, t2⟩ := hf ⟨.v 3, ⟨some 1, some 3072⟩⟩ (by show _ ∈ fsGo; simp [fsGo])
  obtain ⟨n1, n2⟩ := hf ⟨.v 4, ⟨some 1, some 281474976710656⟩⟩ (by show _ ∈ fsGo; simp [fsGo])
  have r1 : 0 ≤ r.toI := r1 _ rfl
  have r2 : r.toI ≤ 127 := r2 _ rfl
  have k1 : 0 ≤ k.toI := k1 _ rfl
  have k2 : k.toI ≤ 127 := k2 _ rfl
  have t1 : 1 ≤ t.toI := t1 _ rfl
  have t2 : t.toI ≤ 3072 := t2 _ rfl
  have n1 : 1 ≤ n.toI := n1 _ rfl
  have n2 : n.toI ≤ 281474976710656 := n2 _ rfl
  have e := hx r k on t n r1 r2 k1 k2 t1 t2 n1 n2
  obtain ⟨⟨g1, g2⟩, ⟨g3, g4⟩, g5, g6⟩ := goC_rg (on := on.toB) r1 r2 k1 k2 t1 t2 (show 0 ≤ n.toI by omega) n2
  rw [← e] at g1 g2 g3 g4 g5 g6
  have eD : Fam.Φ 2 ((packX (varsX 5)).den (envOf [r, k, on, t, n])) = .p (.i (o.I (envOf [r, k, on, t, n]))) (.p (.i (c.I (envOf [r, k, on, t, n]))) (.i (l.I (envOf [r, k, on, t, n])))) := by
    rw [h2]
    show D.p (.i (clampI 0 _ (goC on.toB r.toI k.toI t.toI n.toI).1)) (.p (.i (clampI 0 127 (goC on.toB r.toI k.toI t.toI n.toI).2.1)) (.i (clampI 1 3072 (goC on.toB r.toI k.toI t.toI n.toI).2.2))) = _
    rw [← e, clampI_eq g1 g2, clampI_eq g3 g4, clampI_eq g5 g6]
  refine ⟨?_, ?_⟩
  · show Value.int .i64 _ = Value.int .i64 (Fam.Φ 2 ((packX (varsX 5)).den (envOf [r, k, on, t, n]))).fst.toI
    rw [eD]; rfl
  · show [some (ABlk.mk [.int .u8 r.toI, .int .u8 (c.I _), .bool on.toB, .int .i64 (l.I _)] _ true true none)] = [some (ABlk.mk [.int .u8 r.toI, .int .u8 (Fam.Φ 2 ((packX (varsX 5)).den (envOf [r, k, on, t, n]))).snd.fst.toI, .bool on.toB, .int .i64 (Fam.Φ 2 ((packX (varsX 5)).den (envOf [r, k, on, t, n]))).snd.snd.toI] _ true true none)]
    rw [eD]; rfl
theorem goA (h2 : ∀ d, Fam.Φ 2 d = goD d) : (lcG 172).Ok Tryz.prog 160 := by
  refine lcG_of h2 go1 fun r k on t n r1 r2 k1 k2 t1 t2 n1 n2 => ?_
  show ((bif (bif on.toB then false else true) then (0 : Int) else bif decide (n.toI < t.toI) then 0 else bif decide (k.toI < (t.toI * (-1) + n.toI) / 3072 + 1) then (k.toI * (-1) + (t.toI * (-1) + n.toI) / 3072) / (r.toI + 1) + 1 else 0),
    (bif (bif on.toB then false else true) then k.toI else bif decide (n.toI < t.toI) then k.toI else bif decide (k.toI < (t.toI * (-1) + n.toI) / 3072 + 1) then (r.toI + ((k.toI * (-1) + (t.toI * (-1) + n.toI) / 3072) % (r.toI + 1)) * (-1)) % 256 else k.toI + ((t.toI * (-1) + n.toI) / 3072) * (-1) + (-1)),
    (bif (bif on.toB then false else true) then t.toI else bif decide (n.toI < t.toI) then t.toI + n.toI * (-1) else ((t.toI * (-1) + n.toI) % 3072) * (-1) + 3072)) = _
  cases on.toB with
  | false => rfl
  | true =>
    unfold goC goF
    have e1 : t.toI * (-1) + n.toI = n.toI - t.toI := by omega
    rw [e1]
    by_cases hn : n.toI < t.toI
    · simp only [hn, decide_true, cond_true, cond_false, if_true]
      rw [if_pos (by omega)]
      congr 2
      omega
    · simp only [hn, decide_false, cond_true, cond_false, if_false]
      generalize hm : n.toI - t.toI = m
      have h2 := Int.emod_nonneg m (b := 3072) (by omega)
      have h3 := Int.emod_lt_of_pos m (b := 3072) (by omega)
      by_cases hk : m / 3072 + 1 ≤ k.toI
      · have hk' : ¬ k.toI < m / 3072 + 1 := by omega
        simp only [hk, hk', decide_false, cond_false, if_true]
        congr 2
        · omega
        · split <;> omega
      · have hk' : k.toI < m / 3072 + 1 := by omega
        simp only [hk, hk', decide_true, cond_true, if_false]
        have e2 : k.toI * (-1) + m / 3072 = m / 3072 + 1 - k.toI - 1 := by omega
        rw [e2]
        have h4 := Int.emod_nonneg (m / 3072 + 1 - k.toI - 1) (b := r.toI + 1) (by omega)
        have h5 := Int.emod_lt_of_pos (m / 3072 + 1 - k.toI - 1) (b := r.toI + 1) (by omega)
        refine Prod.ext ?_ (Prod.ext ?_ ?_)
        · show _ / _ + 1 = 0 + (_ / _ + 1)
          omega
        · show (_ + _ * (-1)) % 256 = _ - _
          omega
        · show _ * (-1) + 3072 = ite _ _ _
          split <;> omega
theorem goB (h2 : ∀ d, Fam.Φ 2 d = goD d) (h10 : ∀ d, Fam.Φ 10 d = fixD condGo nextGo 1 d) : (lcG 158).Ok Tryz.prog 207 := by
  refine lcG_of h2 (go2 h10) fun r k on t n r1 r2 k1 k2 t1 t2 n1 n2 => ?_
  obtain ⟨a', b', c', l', h, hg⟩ := go_fix (d := .p n (.p (.i 0) (.p k (.p t r)))) rfl (show 0 ≤ n.toI by omega) r1 r2 k1 k2 t1
  have hfix : Fam.Φ 10 ((packX [.v 4, .i 0, .v 1, .v 3, .v 0]).den (envOf [r, k, on, t, n])) = fixD condGo nextGo 1 (.p n (.p (.i 0) (.p k (.p t r)))) := h10 _
  have hc : comps 4 (Fam.Φ 10 ((packX [.v 4, .i 0, .v 1, .v 3, .v 0]).den (envOf [r, k, on, t, n]))) = [a', b', c', l'] := hfix ▸ h
  show (bif on.toB then (Fam.Φ 10 ((packX [.v 4, .i 0, .v 1, .v 3, .v 0]).den (envOf [r, k, on, t, n]))).snd.fst.toI else (0 : Int),
    bif on.toB then (Fam.Φ 10 ((packX [.v 4, .i 0, .v 1, .v 3, .v 0]).den (envOf [r, k, on, t, n]))).snd.snd.fst.toI else k.toI,
    bif on.toB then (bif decide (0 < (Fam.Φ 10 ((packX [.v 4, .i 0, .v 1, .v 3, .v 0]).den (envOf [r, k, on, t, n]))).fst.toI) then (Fam.Φ 10 ((packX [.v 4, .i 0, .v 1, .v 3, .v 0]).den (envOf [r, k, on, t, n]))).fst.toI * (-1) + (Fam.Φ 10 ((packX [.v 4, .i 0, .v 1, .v 3, .v 0]).den (envOf [r, k, on, t, n]))).snd.snd.snd.toI else (Fam.Φ 10 ((packX [.v 4, .i 0, .v 1, .v 3, .v 0]).den (envOf [r, k, on, t, n]))).snd.snd.snd.toI) else t.toI) = _
  generalize Fam.Φ 10 ((packX [.v 4, .i 0, .v 1, .v 3, .v 0]).den (envOf [r, k, on, t, n])) = z at hc
  have hc : [z.fst, z.snd.fst, z.snd.snd.fst, z.snd.snd.snd] = [a', b', c', l'] := hc
  simp only [List.cons.injEq, and_true] at hc
  obtain ⟨rfl, rfl, rfl, rfl⟩ := hc
  cases on.toB with
  | false => rfl
  | true =>
    have hg : goF r.toI n.toI 0 k.toI t.toI = ⟨z.fst.toI, z.snd.fst.toI, z.snd.snd.fst.toI, z.snd.snd.snd.toI⟩ := hg
    unfold goC
    simp only [hg, cond_true]
    refine Prod.ext rfl (Prod.ext rfl ?_)
    show (bif decide (0 < z.fst.toI) then z.fst.toI * (-1) + z.snd.snd.snd.toI else z.snd.snd.snd.toI) = ite _ _ _
    by_cases h0 : 0 < z.fst.toI
    · simp only [h0, decide_true, cond_true, if_true]; omega
    · simp only [h0, decide_false, cond_false, if_false]
end Go.Proofs.YtafkhelomlmlpaaGreat
