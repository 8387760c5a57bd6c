/-
  Read, by contracts: the program's and the document's answer by one name. Conditions: none.
-/
import Derived.Test.YtciemdpcllpdkaaDoorTlG
import Derived.Test.YtciemdpcllpdkaaDoorTrC
set_option linter.unusedSectionVars false
set_option linter.unusedVariables false
set_option linter.unusedSimpArgs false
namespace Go.Proofs.YtciemdpcllpdkaaDoor
open Go Go.AE Go.SX Go.RowKit
set_option maxRecDepth 1000000
def wX (r : X) (k : Int) : X := .o (.rS 0) r (.i k)
def nuA (r : X) : X := .u .fst (.ap 100 (wX r 0))
def phA (r : X) : X := .u .fst (.ap 102 (wX r 2))
def wrA (r : X) : X := .o .seq (wX r 3) (.s [119])
def daA (r : X) : X := .o .emod (.u .fst (.ap 101 (wX r 4))) (.i 256)
def ixA (r : X) : X := .ap 105 (.o .pair (.s ltF) (wX r 1))
def kdA (r : X) : X := .o .emod (.t .i (.o .lt (ixA r) (.i 0)) (.i 0) (ixA r)) (.i 256)
def kdL : List (Int × Int) := [(86, 7), (85, 6), (80, 5), (83, 4), (76, 3), (68, 2), (79, 1)]
def kdC (y : X) : List (Int × Int) → X
  | [] => .i 0
  | (c, v) :: l => .t .i (.o .eq (.i c) y) (.i v) (kdC y l)
def kdB (r : X) : X := kdC (.o .nth (wX r 1) (.i 0)) kdL
def lnA (r k : X) : X := lnX (nuA r) (phA r) k (wrA r) (daA r)
def cLn (r k : X) : X := .o .seq (lnA r k) (.v 0)
def c5 (r : X) : X := .o .eq (.u .rlen r) (.i 5)
def cO (r : X) : X := .o .or (.u .not (c5 r)) (.u .not (.o .eq (.u .len (wX r 1)) (.i 1)))
def selP (r k a z : X) : X := .t .i (c5 r) (.t .i (cLn r k) a z) z
def selD (r k a z : X) : X := .t .i (cO r) z (.t .i (cLn r k) a z)
def rvP (r k : X) : SV := .tu [.ag [.z (.i .i64 (selP r k (nuA r) (.i 0))), .z (.i .u32 (selP r k (phA r) (.i 0))), .z (.i .u8 (selP r k k (.i 0))), .z (.b (.o .and (c5 r) (.o .and (cLn r k) (wrA r)))), .z (.i .u8 (selP r k (daA r) (.i 0)))], .s (.z (.i .i64 (selP r k (.i 0) (.i 3))))]
def rvD (r k : X) : SV := .tu [.ag [.z (.i .i64 (selD r k (nuA r) (.i 0))), .z (.i .u32 (selD r k (phA r) (.i 0))), .z (.i .u8 (selD r k k (.i 0))), .z (.b (.o .and (.u .not (cO r)) (.o .and (cLn r k) (wrA r)))), .z (.i .u8 (selD r k (daA r) (.i 0)))], .s (.z (.i .i64 (selD r k (.i 0) (.i 3))))]
def zrV : SV := .tu [.ag [.z (.i .i64 (.i 0)), .z (.i .u32 (.i 0)), .z (.i .u8 (.i 0)), .z (.b (.b false)), .z (.i .u8 (.i 0))], .s (.z (.i .i64 (.i 3)))]
def lcR (fs : List Fact) (v : SV) : LC := ⟨1, [.z (.s (.v 0))], [], fs, [], v, []⟩
theorem rP0 : (lcR [fewS (.v 0) 300] (rvP (spX (.v 0)) (kdA (spX (.v 0))))).Ok Tryd.prog 7 := LC.Ok.of_treeF (L := noJ) (lem := noX) (T := T) (W := Wl) (n := 12) (cf := 300) (d := 20) (opn := []) (cls := []) (fun _ _ _ h => by cases h) (fun _ _ h => by cases h) CRd_ok noT_ok rfl rfl (by kernel_rfl)
theorem rD0 : (lcR [fewS (.v 0) 300, shF 0] (rvD (wdX (.v 0)) (kdB (wdX (.v 0))))).Ok Tryd.prog 8 := LC.Ok.of_treeF (L := noJ) (lem := noX) (T := T) (W := Wl) (n := 12) (cf := 300) (d := 20) (opn := []) (cls := []) (fun _ _ _ h => by cases h) (fun _ _ h => by cases h) CRd_ok noT_ok rfl rfl (by kernel_rfl)
theorem rD1 : (lcR [fewS (.v 0) 300, shF 1] zrV).Ok Tryd.prog 8 := LC.Ok.of_treeF (L := noJ) (lem := noX) (T := T) (W := Wl) (n := 12) (cf := 300) (d := 20) (opn := []) (cls := []) (fun _ _ _ h => by cases h) (fun _ _ h => by cases h) CRd_ok noT_ok rfl rfl (by kernel_rfl)
abbrev R6 := Int × Int × Int × Bool × Int × Int
def v6 (r : R6) : Value := .tuple #[.agg #[.int .i64 r.1, .int .u32 r.2.1, .int .u8 r.2.2.1, .bool r.2.2.2.1, .int .u8 r.2.2.2.2.1], .int .i64 r.2.2.2.2.2]
def rdX (x : X) : X := .ap 107 x
def r1 (x : X) : X := .u .fst (rdX x)
def r2 (x : X) : X := .u .fst (.u .snd (rdX x))
def r3 (x : X) : X := .u .fst (.u .snd (.u .snd (rdX x)))
def r4 (x : X) : X := .u .fst (.u .snd (.u .snd (.u .snd (rdX x))))
def r5 (x : X) : X := .u .fst (.u .snd (.u .snd (.u .snd (.u .snd (rdX x)))))
def r6 (x : X) : X := .u .snd (.u .snd (.u .snd (.u .snd (.u .snd (rdX x)))))
def rdV (x : X) : SV := .tu [.ag [.z (.i .i64 (r1 x)), .z (.i .u32 (r2 x)), .z (.i .u8 (r3 x)), .z (.b (r4 x)), .z (.i .u8 (r5 x))], .s (.z (.i .i64 (r6 x)))]
theorem rows_at : ∀ (l : List (List UInt8)) (k : Nat), (((rowsS l).getD k []).getD 0 (.i 0)).toS = l.getD k []
  | [], _ => rfl
  | _ :: _, 0 => rfl
  | _ :: l, k + 1 => rows_at l k
theorem wX_S {e : En} {r : X} {l : List (List UInt8)} (h : r.R e = rowsS l) (k : Nat) : (wX r (k : Nat)).S e = wd l k := by
  show (((r.R e).getD (((k : Nat) : Int)).toNat []).getD 0 (.i 0)).toS = _
  rw [h, Int.toNat_natCast, rows_at]; rfl
theorem fin_v6 {e : En} {r k : X} {l : List (List UInt8)} (h : r.R e = rowsS l) : (cLn r k).B e = (lnF (numI (wd l 0)) (phI (wd l 2)) (k.I e) (wd l 3 == [119]) (hexI (wd l 4) % 256) == (e.ρ 0).toS) := by
  show (lnF (numI ((wX r 0).S e)) (phI ((wX r 2).S e)) (k.I e) ((wX r 3).S e == [119]) (hexI ((wX r 4).S e) % 256) == (e.ρ 0).toS) = _
  rw [show (wX r 0).S e = wd l 0 from wX_S h 0, show (wX r 2).S e = wd l 2 from wX_S h 2, show (wX r 3).S e = wd l 3 from wX_S h 3, show (wX r 4).S e = wd l 4 from wX_S h 4]
theorem flds {e : En} {r : X} {l : List (List UInt8)} (h : r.R e = rowsS l) : (nuA r).I e = numI (wd l 0) ∧ (phA r).I e = phI (wd l 2) ∧ (wrA r).B e = (wd l 3 == [119]) ∧ (daA r).I e = hexI (wd l 4) % 256 := by
  refine ⟨?_, ?_, ?_, ?_⟩
  · show numI ((wX r 0).S e) = _; rw [show (wX r 0).S e = wd l 0 from wX_S h 0]
  · show phI ((wX r 2).S e) = _; rw [show (wX r 2).S e = wd l 2 from wX_S h 2]
  · show ((wX r 3).S e == [119]) = _; rw [show (wX r 3).S e = wd l 3 from wX_S h 3]
  · show hexI ((wX r 4).S e) % 256 = _; rw [show (wX r 4).S e = wd l 4 from wX_S h 4]
theorem c5_B {e : En} {r : X} {l : List (List UInt8)} (h : r.R e = rowsS l) : (c5 r).B e = decide (l.length = 5) := by
  show decide ((((r.R e).length : Nat) : Int) = 5) = _
  rw [h]
  unfold rowsS
  rw [List.length_map]
  exact decide_eq_decide.2 (by omega)
theorem kdA_I {e : En} {r : X} {l : List (List UInt8)} (h : r.R e = rowsS l) : (kdA r).I e = kP (wd l 1) := by
  have hi : (ixA r).I e = Lib.index ltF (wd l 1) := by
    show min (Lib.index ltF ((wX r 1).S e)) 8 = _
    rw [show (wX r 1).S e = wd l 1 from wX_S h 1]
    have := lt_ix (wd l 1)
    omega
  show (bif decide ((ixA r).I e < 0) then (0 : Int) else (ixA r).I e) % 256 = _
  rw [hi]
  unfold kP
  have := lt_ix (wd l 1)
  by_cases hq : Lib.index ltF (wd l 1) < 0
  · rw [decide_eq_true hq, cond_true]; omega
  · rw [decide_eq_false hq, cond_false]; omega
theorem kdC_I (e : En) (y : X) (c : UInt8) (hy : y.I e = (c.toNat : Nat)) : (kdC y kdL).I e = kD c := by
  have key : ∀ (n : Nat) (hn : n < 256) (v w : Int), (bif decide (((n : Nat) : Int) = y.I e) then v else w) = if c = UInt8.ofNat n then v else w := fun n hn v w => by
    rw [hy]
    by_cases hq : c = UInt8.ofNat n
    · rw [if_pos hq, hq, UInt8.toNat_ofNat', Nat.mod_eq_of_lt hn, decide_eq_true rfl, cond_true]
    · rw [if_neg hq, decide_eq_false, cond_false]
      intro q
      apply hq
      apply UInt8.toNat_inj.1
      rw [UInt8.toNat_ofNat']; omega
  show (bif decide ((86 : Int) = y.I e) then (7 : Int) else bif decide ((85 : Int) = y.I e) then 6 else bif decide ((80 : Int) = y.I e) then 5 else bif decide ((83 : Int) = y.I e) then 4 else bif decide ((76 : Int) = y.I e) then 3 else bif decide ((68 : Int) = y.I e) then 2 else bif decide ((79 : Int) = y.I e) then 1 else 0) = _
  unfold kD
  have k1 := key 86 (by omega); have k2 := key 85 (by omega); have k3 := key 80 (by omega); have k4 := key 83 (by omega); have k5 := key 76 (by omega); have k6 := key 68 (by omega); have k7 := key 79 (by omega)
  rw [show (86 : Int) = ((86 : Nat) : Int) from rfl, show (85 : Int) = ((85 : Nat) : Int) from rfl, show (80 : Int) = ((80 : Nat) : Int) from rfl, show (83 : Int) = ((83 : Nat) : Int) from rfl, show (76 : Int) = ((76 : Nat) : Int) from rfl, show (68 : Int) = ((68 : Nat) : Int) from rfl, show (79 : Int) = ((79 : Nat) : Int) from rfl, k1, k2, k3, k4, k5, k6, k7]
  rfl
theorem selP_I (e : En) (r k a z : X) : (selP r k a z).I e = bif (c5 r).B e then (bif (cLn r k).B e then a.I e else z.I e) else z.I e := rfl
theorem selD_I (e : En) (r k a z : X) : (selD r k a z).I e = bif (cO r).B e then z.I e else (bif (cLn r k).B e then a.I e else z.I e) := rfl
theorem rvP_den {e : En} : (rvP (spX (.v 0)) (kdA (spX (.v 0)))).den e = v6 (rdP (e.ρ 0).toS) := by
  have h : (spX (.v 0)).R e = rowsS (Lib.split (e.ρ 0).toS [32]) := rfl
  generalize hr : spX (.v 0) = r at h ⊢
  obtain ⟨f1, f2, f3, f4⟩ := flds h
  have hk := kdA_I h
  have h5 := c5_B h
  have hl := fin_v6 (k := kdA r) h
  rw [hk] at hl
  show Value.tuple #[.agg #[.int .i64 ((selP r (kdA r) (nuA r) (.i 0)).I e), .int .u32 ((selP r (kdA r) (phA r) (.i 0)).I e), .int .u8 ((selP r (kdA r) (kdA r) (.i 0)).I e), .bool ((c5 r).B e && ((cLn r (kdA r)).B e && (wrA r).B e)), .int .u8 ((selP r (kdA r) (daA r) (.i 0)).I e)], .int .i64 ((selP r (kdA r) (.i 0) (.i 3)).I e)] = _
  simp only [selP_I]
  rw [f1, f2, f3, f4, hk, h5, hl]
  unfold rdP
  show _ = v6 (if (Lib.split (e.ρ 0).toS [32]).length = 5 then _ else _)
  by_cases hq : (Lib.split (e.ρ 0).toS [32]).length = 5
  · rw [decide_eq_true hq, if_pos hq]
    unfold fin
    by_cases hm : lnF (numI (wd (Lib.split (e.ρ 0).toS [32]) 0)) (phI (wd (Lib.split (e.ρ 0).toS [32]) 2)) (kP (wd (Lib.split (e.ρ 0).toS [32]) 1)) (wd (Lib.split (e.ρ 0).toS [32]) 3 == [119]) (hexI (wd (Lib.split (e.ρ 0).toS [32]) 4) % 256) = (e.ρ 0).toS
    · rw [if_pos hm, beq_iff_eq.2 hm]; rfl
    · rw [if_neg hm, beq_eq_false_iff_ne.2 hm]; rfl
  · rw [decide_eq_false hq, if_neg hq]; rfl
theorem rvD_den {e : En} (hs : sharpB (e.ρ 0).toS = false) : (rvD (wdX (.v 0)) (kdB (wdX (.v 0)))).den e = v6 (rdD (e.ρ 0).toS) := by
  have h : (wdX (.v 0)).R e = rowsS (wordsF (e.ρ 0).toS) := rfl
  generalize hr : wdX (.v 0) = r at h ⊢
  obtain ⟨f1, f2, f3, f4⟩ := flds h
  have hk : (kdB r).I e = kD ((wd (wordsF (e.ρ 0).toS) 1).getD 0 0) := kdC_I e _ _ (by
    show (((((wX r 1).S e).getD 0 0).toNat : Nat) : Int) = _
    rw [show (wX r 1).S e = wd (wordsF (e.ρ 0).toS) 1 from wX_S h 1])
  have h5 : (cO r).B e = !decide ((wordsF (e.ρ 0).toS).length = 5 ∧ (wd (wordsF (e.ρ 0).toS) 1).length = 1) := by
    show (!(c5 r).B e || !decide (((((wX r 1).S e).length : Nat) : Int) = 1)) = _
    rw [c5_B h, show (wX r 1).S e = wd (wordsF (e.ρ 0).toS) 1 from wX_S h 1, ← Bool.not_and, Bool.decide_and]
    congr 2
    exact decide_eq_decide.2 (by omega)
  have hl := fin_v6 (k := kdB r) h
  rw [hk] at hl
  show Value.tuple #[.agg #[.int .i64 ((selD r (kdB r) (nuA r) (.i 0)).I e), .int .u32 ((selD r (kdB r) (phA r) (.i 0)).I e), .int .u8 ((selD r (kdB r) (kdB r) (.i 0)).I e), .bool (!(cO r).B e && ((cLn r (kdB r)).B e && (wrA r).B e)), .int .u8 ((selD r (kdB r) (daA r) (.i 0)).I e)], .int .i64 ((selD r (kdB r) (.i 0) (.i 3)).I e)] = _
  simp only [selD_I]
  rw [f1, f2, f3, f4, hk, h5, hl]
  unfold rdD
  show _ = v6 (if (wordsF (e.ρ 0).toS).length = 5 ∧ (wd (wordsF (e.ρ 0).toS) 1).length = 1 then _ else _)
  by_cases hq : (wordsF (e.ρ 0).toS).length = 5 ∧ (wd (wordsF (e.ρ 0).toS) 1).length = 1
  · rw [decide_eq_true hq, if_pos hq]
    unfold fin
    by_cases hm : lnF (numI (wd (wordsF (e.ρ 0).toS) 0)) (phI (wd (wordsF (e.ρ 0).toS) 2)) (kD ((wd (wordsF (e.ρ 0).toS) 1).getD 0 0)) (wd (wordsF (e.ρ 0).toS) 3 == [119]) (hexI (wd (wordsF (e.ρ 0).toS) 4) % 256) = (e.ρ 0).toS
    · rw [if_pos hm, beq_iff_eq.2 hm]; rfl
    · rw [if_neg hm, beq_eq_false_iff_ne.2 hm]; rfl
  · rw [decide_eq_false hq, if_neg hq]; rfl
def lcRd : LC := lcR [fewS (.v 0) 300] (rdV (.v 0))
theorem rd_P : lcRd.Ok Tryd.prog 7 := rP0.conv rfl rfl rfl fun ds _ hf ha => ⟨hf, ha, rvP_den, rfl⟩
theorem rd_D : lcRd.Ok Tryd.prog 8 := LC.Ok.cases (l := [[shF 0], [shF 1]]) (fun fs hm => by
  rcases List.mem_cons.1 hm with rfl | hm
  · refine rD0.conv rfl rfl rfl fun ds _ hf ha => ⟨fun f h => hf f ?_, ha, ?_, rfl⟩
    · rcases List.mem_cons.1 h with rfl | h
      · exact .tail _ (.head _)
      · obtain rfl := List.mem_singleton.1 h
        exact .head _
    · have h1 := hf (shF 0) (.head _)
      have h2 : shp.I (envOf ds) = 0 := Int.le_antisymm (h1.2 _ rfl) (h1.1 _ rfl)
      show (rvD (wdX (.v 0)) (kdB (wdX (.v 0)))).den (envOf ds) = v6 (rdP ((envOf ds).ρ 0).toS)
      rw [rvD_den ((sh_iff0 _).1 h2), rd_same]
  · obtain rfl := List.mem_singleton.1 hm
    refine rD1.conv rfl rfl rfl fun ds _ hf ha => ⟨fun f h => hf f ?_, ha, ?_, rfl⟩
    · rcases List.mem_cons.1 h with rfl | h
      · exact .tail _ (.head _)
      · obtain rfl := List.mem_singleton.1 h
        exact .head _
    · have h1 := hf (shF 1) (.head _)
      have h2 : shp.I (envOf ds) = 1 := Int.le_antisymm (h1.2 _ rfl) (h1.1 _ rfl)
      have h3 := (sh_iff _).1 h2
      have h4 : rdD ((envOf ds).ρ 0).toS = zrD := by
        unfold rdD
        rw [words_sh h3]; rfl
      show _ = v6 (rdP ((envOf ds).ρ 0).toS)
      rw [← rd_same, h4]; rfl) fun ds _ _ => by
  cases hs : sharpB ((envOf ds).ρ 0).toS with
  | false =>
    have := (sh_iff0 (envOf ds)).2 hs
    exact ⟨_, .head _, fun f h => by obtain rfl := List.mem_singleton.1 h; exact hasM (by show (0 : Int) ≤ shp.I (envOf ds); omega) (by show shp.I (envOf ds) ≤ 0; omega)⟩
  | true =>
    have := (sh_iff (envOf ds)).2 hs
    exact ⟨_, .tail _ (.head _), fun f h => by obtain rfl := List.mem_singleton.1 h; exact hasM (by show (1 : Int) ≤ shp.I (envOf ds); omega) (by show shp.I (envOf ds) ≤ 1; omega)⟩
noncomputable def CTl := conTab ((5, conCall cYes) :: lcTabT [(6, [lcL lnV]), (9, [lcL lnV]), (7, [lcRd]), (8, [lcRd])])
theorem CTl_ok : ∀ n c, CTl n = some c → ConOk T n c := conTab_ok (all_cons' live36.ok (lcTabT_all (all_cons' (one_lcT rfl ln_P) (all_cons' (one_lcT rfl ln_D) (all_cons' (one_lcT rfl rd_P) (all_cons' (one_lcT rfl rd_D) all_nil'))))))
end Go.Proofs.YtciemdpcllpdkaaDoor
