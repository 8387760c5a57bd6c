/-
  The page's methods told of the state as a whole, by named functions, the same for the program and the document. Conditions: none.
-/
import Derived.Test.YtafkhelomlmlpaaGreatHdF
set_option linter.unusedSectionVars false
set_option linter.unusedVariables false
set_option linter.unusedSimpArgs false
namespace Go.Proofs.YtafkhelomlmlpaaGreat
open Go Go.AE Go.SX Go.RowKit
set_option maxRecDepth 1000000
section
variable [Fam]
def rowOf : List Row → Int → Row
  | [], _ => ⟨0, 0, .nil, varsX 19⟩
  | r :: l, w => if r.lo ≤ w ∧ w ≤ r.hi then r else rowOf l w
/-- The parts of a state, and what is handed over. -/
def eP (k : Nat) (d : D) : En := envOf (comps 19 d.fst ++ comps k d.snd)
def whP (e : En) : Int := whI (aX.I e)
def rdVD (d : D) : D := .i (clampI 0 255 ((rowOf rdTab (whP (eP 1 d))).val.I (eP 1 d)))
def rdSD (d : D) : D := packD ((rowOf rdTab (whP (eP 1 d))).sp.map (X.den (eP 1 d)))
def wrSD (d : D) : D := packD ((rowOf wrTab (whP (eP 2 d))).sp.map (X.den (eP 2 d)))
def toSD (d : D) : D := packD (spTo.map (X.den (eP 1 d)))
def enSD (d : D) : D := packD (spEn.map (X.den (eP 1 d)))
def chVD (d : D) : D := .i (clampI 0 5 (chV.I (eP 1 d)))
end
variable [HF]
class HOk3 : Prop where
  h20 : ∀ d, Fam.Φ 20 d = toSD d
  h21 : ∀ d, Fam.Φ 21 d = rdVD d
  h22 : ∀ d, Fam.Φ 22 d = rdSD d
  h23 : ∀ d, Fam.Φ 23 d = wrSD d
  h24 : ∀ d, Fam.Φ 24 d = enSD d
  h26 : ∀ d, Fam.Φ 26 d = chVD d
variable [HOk1] [HOk2] [HOk3]
/-- Facts of an object's parts are facts of the parts with something behind them. -/
theorem inv_app {d : D} {qs : List D} (h : tm1.inv d) : ∀ f ∈ fsPage, f.r.has (f.e.I (envOf (comps 19 d ++ qs))) := by
  intro f hf
  have h1 := h.1 f hf
  have hsc : f.e.sc 19 = true := List.all_eq_true.1 (show fsPage.all (fun f => f.e.sc 19) = true by kernel_rfl) f hf
  have ha : Agv 19 (envOf (comps 19 d)) (envOf (comps 19 d ++ qs)) := fun k hk => by
    show (comps 19 d ++ qs).getD k .u = (comps 19 d).getD k .u
    rw [List.getD_eq_getElem?_getD, List.getD_eq_getElem?_getD, List.getElem?_append_left (by rw [comps_len]; exact hk)]
  have e1 : f.e.I (envOf (comps 19 d ++ qs)) = f.e.I (envOf (comps 19 d)) := by simp only [X.I, X.sc_den ha hsc]
  rw [e1]
  exact h1
theorem rng_in {fs : List Fact} {e : En} {x : X} {lo hi : Int} (h : within (rng fs x) lo hi = true) (hf : ∀ f ∈ fs, f.r.has (f.e.I e)) : lo ≤ x.I e ∧ x.I e ≤ hi :=
  within_ok h (rng_ok (e := e) hf x)
theorem len1 {qs : List D} (h : qs.length = 1) : ∃ a, qs = [a] := by
  match qs, h with
  | [a], _ => exact ⟨a, rfl⟩
theorem len2 {qs : List D} (h : qs.length = 2) : ∃ a b, qs = [a, b] := by
  match qs, h with
  | [a, b], _ => exact ⟨a, b, rfl⟩
theorem pack_comps {l : List D} (h : l.length = 19) : comps 19 (packD l) = l := by
  have := packD_comps l
  rwa [h] at this
theorem cs_ok {e : En} {lo hi : Int} (h : (cs lo hi).r.has ((cs lo hi).e.I e)) : lo ≤ whP e ∧ whP e ≤ hi := by
  have h0 : (cs lo hi).e.I e = whP e := by
    show (Fam.Φ 3 (aX.den e)).toI = _
    rw [HOk1.h3]; rfl
  rw [h0] at h
  exact ⟨h.1 _ rfl, h.2 _ rfl⟩
theorem whI_rg (a : Int) : 0 ≤ whI a ∧ whI a ≤ 8 := by
  unfold whI
  repeat' split
  all_goals omega
def i16 (n : Nat) : SV := .z (.i .u16 (.v n))
def e1 : List X := mthE 19 1
def e2 : List X := mthE 19 2
def subF (es : List X) (l : List Fact) : List Fact := l.map fun f => ⟨f.e.sub 0 es, f.r⟩
/-! Reading. -/
theorem rd_uni : ∀ r ∈ rdTab, ∀ (w : Int), r.lo ≤ w → w ≤ r.hi → rowOf rdTab w = r := by
  refine all_cons' ?_ (all_cons' ?_ (all_cons' ?_ (all_cons' ?_ (all_cons' ?_ (all_cons' ?_ (all_cons' ?_ all_nil'))))))
  · intro w h1 h2
    have h1 : (0 : Int) ≤ w := h1
    have h2 : w ≤ (2 : Int) := h2
    rcases (by omega : w = 0 ∨ w = 1 ∨ w = 2) with rfl | rfl | rfl <;> rfl
  all_goals
    intro w h1 h2
    simp only at h1 h2
    obtain rfl := Int.le_antisymm h2 h1
    rfl
theorem rd_rg : rdTab.all (fun r => within (rng (fsPage ++ (cs r.lo r.hi :: fsRd)) r.val) 0 255 && Nat.beq r.sp.length 19) = true := by kernel_rfl
def rdW (j : Nat) : LC := ⟨2, [p0, i16 1], [some (obS j (.v 0))], subF e1 fsRd, [], .z (.i .u8 (.ap 21 (.o .pair (.v 0) (.v 1)))), [some (obS j (.ap 22 (.o .pair (.v 0) (.v 1))))]⟩
theorem rd_whole {j : Nat} {t : Tm} {f : FuncId} (hob : IsOb Tryz.prog j t) (hn : t.n = 19) (hinv : ∀ d, t.inv d → tm1.inv d) (hv : VisOk t.n j) (h : ∀ r ∈ rdTab, ((rdM r).lc j r.sp).Ok Tryz.prog f) : (rdW j).Ok Tryz.prog f := by
  refine LC.Ok.cases (l := rdTab.map fun r => subF e1 [cs r.lo r.hi]) (fun fs hfs => ?_) (fun ds hl hf => ?_)
  · obtain ⟨r, hr, rfl⟩ := List.mem_map.1 hfs
    have hall := List.all_eq_true.1 rd_rg r hr
    rw [Bool.and_eq_true] at hall
    have key : ∀ d qs, qs.length = 1 → (∀ f ∈ (rdM r).fs, f.r.has (f.e.I (envOf (comps 19 d ++ qs)))) → ∃ a, qs = [a] ∧ rowOf rdTab (whP (eP 1 (.p d a))) = r := by
      intro d qs hk hf
      obtain ⟨a, rfl⟩ := len1 hk
      obtain ⟨h1, h2⟩ := cs_ok (hf _ List.mem_cons_self)
      exact ⟨a, rfl, rd_uni r hr _ h1 h2⟩
    refine Mth.ok (m := rdM r) (j := j) (sp := r.sp) (val := .z (.i .u8 (.ap 21 (.o .pair (.v 0) (.v 1))))) (st := .ap 22 (.o .pair (.v 0) (.v 1))) (h r hr) hob hn (by decide : 0 < 19) hv ?_ (fun d qs hk hi hf => ?_) (fun d qs hk hi hf => ?_)
    · have := hr
      revert this
      have : ∀ r ∈ rdTab, (rdM r).sc = true := List.all_eq_true.1 (show rdTab.all (fun r => (rdM r).sc) = true by kernel_rfl)
      exact this r
    · obtain ⟨a, rfl, hrow⟩ := key d qs hk hf
      show Value.int .u8 (r.val.I (eP 1 (.p d a))) = Value.int .u8 (Fam.Φ 21 (.p d a)).toI
      rw [HOk3.h21]
      unfold rdVD
      rw [hrow]
      obtain ⟨h1, h2⟩ := rng_in (e := eP 1 (.p d a)) hall.1 fun f hfm => by
        rcases List.mem_append.1 hfm with hfm | hfm
        · exact inv_app (hinv d hi) f hfm
        · exact hf f hfm
      rw [clampI_eq h1 h2]; rfl
    · obtain ⟨a, rfl, hrow⟩ := key d qs hk hf
      show packD (r.sp.map (X.den (eP 1 (.p d a)))) = packD (comps 19 (Fam.Φ 22 (.p d a)))
      rw [HOk3.h22]
      unfold rdSD
      rw [hrow, pack_comps (by rw [List.length_map]; exact Nat.eq_of_beq_eq_true hall.2)]
  · obtain ⟨d, a, rfl⟩ := len2 hl
    have h1 := whI_rg (aX.I (eP 1 (.p d a)))
    have hI : ∀ lo hi, X.I (envOf [d, a]) ((cs lo hi).e.sub 0 e1) = whI (aX.I (eP 1 (.p d a))) := fun lo hi => by
      have h2 := sub0_den (es := e1) (e := envOf [d, a]) (x := (cs lo hi).e) rfl
      have h3 : (mthE 19 1).map (X.den (envOf [d, a])) = comps 19 d ++ [a] := mthE_den 19 1 rfl
      show (((cs lo hi).e.sub 0 e1).den (envOf [d, a])).toI = _
      rw [h2]
      show (Fam.Φ 3 (aX.den (envOf ((mthE 19 1).map (X.den (envOf [d, a])))))).toI = _
      rw [h3, HOk1.h3]; rfl
    have pick : ∀ r ∈ rdTab, r.lo ≤ whI (aX.I (eP 1 (.p d a))) → whI (aX.I (eP 1 (.p d a))) ≤ r.hi → ∃ fs ∈ rdTab.map fun r => subF e1 [cs r.lo r.hi], ∀ f ∈ fs, f.r.has (f.e.I (envOf [d, a])) := by
      intro r hr h1 h2
      refine ⟨_, List.mem_map.2 ⟨r, hr, rfl⟩, fun f hf => ?_⟩
      obtain rfl := List.mem_singleton.1 hf
      show (Rg.mk (some r.lo) (some r.hi)).has _
      rw [hI r.lo r.hi]
      exact hasM h1 h2
    generalize hw : whI (aX.I (eP 1 (.p d a))) = w at h1 pick
    have hr : rowOf rdTab w ∈ rdTab ∧ (rowOf rdTab w).lo ≤ w ∧ w ≤ (rowOf rdTab w).hi := by
      rcases (by omega : w = 0 ∨ w = 1 ∨ w = 2 ∨ w = 3 ∨ w = 4 ∨ w = 5 ∨ w = 6 ∨ w = 7 ∨ w = 8) with rfl | rfl | rfl | rfl | rfl | rfl | rfl | rfl | rfl <;>
        exact ⟨by simp [rowOf, rdTab], by decide, by decide⟩
    exact pick _ hr.1 hr.2.1 hr.2.2
theorem readA : (rdW 1).Ok Tryz.prog 105 := rd_whole HOk2.tm1 rfl (fun _ h => h) vis1 rdA
theorem readB : (rdW 2).Ok Tryz.prog 110 := rd_whole HOk2.tm2 rfl (fun _ h => h) vis2 rdB
/-! Writing. -/
theorem wr_uni : ∀ r ∈ wrTab, ∀ (w : Int), r.lo ≤ w → w ≤ r.hi → rowOf wrTab w = r := by
  refine all_cons' ?_ (all_cons' ?_ (all_cons' ?_ (all_cons' ?_ (all_cons' ?_ all_nil'))))
  · intro w h1 h2
    have h1 : (0 : Int) ≤ w := h1
    have h2 : w ≤ (4 : Int) := h2
    rcases (by omega : w = 0 ∨ w = 1 ∨ w = 2 ∨ w = 3 ∨ w = 4) with rfl | rfl | rfl | rfl | rfl <;> rfl
  all_goals
    intro w h1 h2
    simp only at h1 h2
    obtain rfl := Int.le_antisymm h2 h1
    rfl
theorem wr_len : wrTab.all (fun r => (wrM r).sc && Nat.beq r.sp.length 19) = true := by kernel_rfl
def wrW (j : Nat) : LC := ⟨3, [p0, i16 1, .z (.i .u8 (.v 2))], [some (obS j (.v 0))], subF e2 fsWr, [], .tu [], [some (obS j (.ap 23 (.o .pair (.v 0) (.o .pair (.v 1) (.v 2)))))]⟩
theorem wr_whole {j : Nat} {t : Tm} {f : FuncId} (hob : IsOb Tryz.prog j t) (hn : t.n = 19) (hinv : ∀ d, t.inv d → tm1.inv d) (hv : VisOk t.n j)
    (h : ∀ r ∈ wrTab, ∃ sp, ((wrM r).lc j sp).Ok Tryz.prog f ∧ ∀ e : En, (∀ f ∈ fsPage, f.r.has (f.e.I e)) → (∀ f ∈ fsWr, f.r.has (f.e.I e)) → sp.map (X.den e) = r.sp.map (X.den e)) : (wrW j).Ok Tryz.prog f := by
  refine LC.Ok.cases (l := wrTab.map fun r => subF e2 [cs r.lo r.hi]) (fun fs hfs => ?_) (fun ds hl hf => ?_)
  · obtain ⟨r, hr, rfl⟩ := List.mem_map.1 hfs
    have hall := List.all_eq_true.1 wr_len r hr
    rw [Bool.and_eq_true] at hall
    obtain ⟨sp, hsp, heq⟩ := h r hr
    refine Mth.ok (m := wrM r) (j := j) (sp := sp) (val := .tu []) (st := .ap 23 (.o .pair (.v 0) (.o .pair (.v 1) (.v 2)))) hsp hob hn (by decide : 0 < 19) hv hall.1 (fun d qs hk hi hf => rfl) (fun d qs hk hi hf => ?_)
    obtain ⟨a, b, rfl⟩ := len2 hk
    have hrow : rowOf wrTab (whP (eP 2 (.p d (.p a b)))) = r := by
      obtain ⟨h1, h2⟩ := cs_ok (hf _ List.mem_cons_self)
      exact wr_uni r hr _ h1 h2
    show packD (sp.map (X.den (eP 2 (.p d (.p a b))))) = packD (comps 19 (Fam.Φ 23 (.p d (.p a b))))
    rw [HOk3.h23]
    unfold wrSD
    rw [hrow, pack_comps (by rw [List.length_map]; exact Nat.eq_of_beq_eq_true hall.2), heq (eP 2 (.p d (.p a b))) (inv_app (hinv d hi)) fun f hfm => hf f (List.mem_cons_of_mem _ hfm)]
  · obtain ⟨d, a, b, rfl⟩ : ∃ d a b, ds = [d, a, b] := by
      match ds, hl with
      | [d, a, b], _ => exact ⟨d, a, b, rfl⟩
    have h1 := whI_rg (aX.I (eP 2 (.p d (.p a b))))
    have hI : ∀ lo hi, X.I (envOf [d, a, b]) ((cs lo hi).e.sub 0 e2) = whI (aX.I (eP 2 (.p d (.p a b)))) := fun lo hi => by
      have h2 := sub0_den (es := e2) (e := envOf [d, a, b]) (x := (cs lo hi).e) rfl
      have h3 : (mthE 19 2).map (X.den (envOf [d, a, b])) = comps 19 d ++ [a, b] := mthE_den 19 2 rfl
      show (((cs lo hi).e.sub 0 e2).den (envOf [d, a, b])).toI = _
      rw [h2]
      show (Fam.Φ 3 (aX.den (envOf ((mthE 19 2).map (X.den (envOf [d, a, b])))))).toI = _
      rw [h3, HOk1.h3]; rfl
    have pick : ∀ r ∈ wrTab, r.lo ≤ whI (aX.I (eP 2 (.p d (.p a b)))) → whI (aX.I (eP 2 (.p d (.p a b)))) ≤ r.hi → ∃ fs ∈ wrTab.map fun r => subF e2 [cs r.lo r.hi], ∀ f ∈ fs, f.r.has (f.e.I (envOf [d, a, b])) := by
      intro r hr h1 h2
      refine ⟨_, List.mem_map.2 ⟨r, hr, rfl⟩, fun f hf => ?_⟩
      obtain rfl := List.mem_singleton.1 hf
      show (Rg.mk (some r.lo) (some r.hi)).has _
      rw [hI r.lo r.hi]
      exact hasM h1 h2
    generalize hw : whI (aX.I (eP 2 (.p d (.p a b)))) = w at h1 pick
    have hr : rowOf wrTab w ∈ wrTab ∧ (rowOf wrTab w).lo ≤ w ∧ w ≤ (rowOf wrTab w).hi := by
      rcases (by omega : w = 0 ∨ w = 1 ∨ w = 2 ∨ w = 3 ∨ w = 4 ∨ w = 5 ∨ w = 6 ∨ w = 7 ∨ w = 8) with rfl | rfl | rfl | rfl | rfl | rfl | rfl | rfl | rfl <;>
        exact ⟨by simp [rowOf, wrTab], by decide, by decide⟩
    exact pick _ hr.1 hr.2.1 hr.2.2
theorem writeA : (wrW 1).Ok Tryz.prog 106 := wr_whole HOk2.tm1 rfl (fun _ h => h) vis1 fun r hr => ⟨r.sp, wrA r hr, fun _ _ _ => rfl⟩
theorem pad_eq {e : En} (hp : ∀ f ∈ fsPage, f.r.has (f.e.I e)) (hw : ∀ f ∈ fsWr, f.r.has (f.e.I e)) : sp7B.map (X.den e) = r7.sp.map (X.den e) := by
  obtain ⟨b1, b2⟩ := hw ⟨.v 20, ⟨some 0, some 255⟩⟩ (by simp [fsWr])
  obtain ⟨p1, p2⟩ := hp ⟨.v 8, ⟨some 0, some 5⟩⟩ (by simp [fsPage])
  have b1 : 0 ≤ (e.ρ 20).toI := b1 _ rfl
  have b2 : (e.ρ 20).toI ≤ 255 := b2 _ rfl
  have p1 : 0 ≤ (e.ρ 8).toI := p1 _ rfl
  have p2 : (e.ρ 8).toI ≤ 5 := p2 _ rfl
  have gen : ∀ x : X, (chg [(0, .v 20), (7, md (.v 20) 4), (8, x)]).map (X.den e) = ((chg [(0, .v 20), (7, md (.v 20) 4)]).map (X.den e)).set 8 (x.den e) := fun x => rfl
  show (chg [(0, .v 20), (7, md (.v 20) 4), (8, pad7B)]).map (X.den e) = (chg [(0, .v 20), (7, md (.v 20) 4), (8, iI (eqX' (md (dv (.v 20) 2) 2) 0) (iI (.o .and onB (eqX' (md (.v 7) 2) 0)) (iI (.o .lt (.i 5) (ad (.v 8) (.i 1))) (.i 5) (ad (.v 8) (.i 1))) (.v 8)) (.i 0))]).map (X.den e)
  rw [gen, gen]
  congr 1
  show D.i (bif decide ((e.ρ 20).toI % 4 < 2) then ((e.ρ 8).toI + (bif (decide ((e.ρ 20).toI % 4 = 1) && decide ((e.ρ 7).toI % 2 = 0)) && decide ((e.ρ 8).toI < 5) then 1 else 0)) else 0) =
    D.i (bif decide ((e.ρ 20).toI / 2 % 2 = 0) then (bif (!decide ((e.ρ 20).toI % 2 = 0)) && decide ((e.ρ 7).toI % 2 = 0) then (bif decide (5 < (e.ρ 8).toI + 1) then 5 else (e.ρ 8).toI + 1) else (e.ρ 8).toI) else 0)
  congr 1
  simp only [cond_eq_ite, decide_eq_true_eq, Bool.and_eq_true, Bool.not_eq_true', decide_eq_false_iff_not]
  repeat' split
  all_goals omega
theorem writeB : (wrW 2).Ok Tryz.prog 112 := wr_whole HOk2.tm2 rfl (fun _ h => h) vis2 fun r hr => by
  rcases wrB r hr with h | rfl
  · exact ⟨r.sp, h, fun _ _ _ => rfl⟩
  · exact ⟨sp7B, wrB7, fun e hp hw => pad_eq hp hw⟩
/-! Going on. -/
def aTOarg (e : En) : D := .p (e.ρ 15) (.p (e.ρ 16) (.p (e.ρ 17) (e.ρ 19)))
theorem axTo_ok (e : En) : axTo.B e = true := by
  show (!decide ((((e.ρ 15).toR.length : Nat) : Int) < (Fam.Φ 1 (aTOarg e)).fst.toI)) = true
  rw [HOk1.h1]
  have h : ∀ d : D, (toD d).fst.toI ≤ ((d.fst.toR.length : Nat) : Int) := fun d => by
    show clampI 0 (min 1000 (d.fst.toR.length : Nat)) _ ≤ _
    unfold clampI
    split
    · omega
    · split <;> omega
  have h := h (aTOarg e)
  rw [Bool.not_eq_true', decide_eq_false_iff_not]
  have h2 : (aTOarg e).fst = e.ρ 15 := rfl
  rw [h2] at h
  omega
def toW (j : Nat) : LC := ⟨2, [p0, .z (.i .i64 (.v 1))], [some (obS j (.v 0))], subF e1 fsTo, [], .tu [], [some (obS j (.ap 20 (.o .pair (.v 0) (.v 1))))]⟩
theorem to_whole {j : Nat} {t : Tm} {f : FuncId} (hob : IsOb Tryz.prog j t) (hn : t.n = 19) (hv : VisOk t.n j) (h : ((toM [axTo]).lc j spTo).Ok Tryz.prog f) : (toW j).Ok Tryz.prog f := by
  have h0 : ((toM []).lc j spTo).Ok Tryz.prog f := LC.Ok.drop (c := (toM []).lc j spTo) (ax := [axTo]) h fun x hx e => by obtain rfl := List.mem_singleton.1 hx; exact axTo_ok e
  refine Mth.ok (m := toM []) (j := j) (sp := spTo) (val := .tu []) (st := .ap 20 (.o .pair (.v 0) (.v 1))) h0 hob hn (by decide : 0 < 19) hv rfl (fun d qs hk hi hf => rfl) (fun d qs hk hi hf => ?_)
  obtain ⟨a, rfl⟩ := len1 hk
  show packD (spTo.map (X.den (eP 1 (.p d a)))) = packD (comps 19 (Fam.Φ 20 (.p d a)))
  rw [HOk3.h20]
  unfold toSD
  rw [pack_comps rfl]
theorem toWA : (toW 1).Ok Tryz.prog 104 := to_whole HOk2.tm1 rfl vis1 toA
theorem toWB : (toW 2).Ok Tryz.prog 174 := to_whole HOk2.tm2 rfl vis2 toB
/-! Who is entered. -/
theorem ch_rg : within (rng fsPage chV) 0 5 = true := by kernel_rfl
def chW (j : Nat) : LC := ⟨2, [p0, .z (.b (.v 1))], [some (obS j (.v 0))], [], [], .z (.i .u8 (.ap 26 (.o .pair (.v 0) (.v 1)))), [some (obS j (.v 0))]⟩
theorem ch_whole {j : Nat} {t : Tm} {f : FuncId} (hob : IsOb Tryz.prog j t) (hn : t.n = 19) (hinv : ∀ d, t.inv d → tm1.inv d) (hv : VisOk t.n j) (h : (chM.lc j (varsX 19)).Ok Tryz.prog f) : (chW j).Ok Tryz.prog f := by
  refine Mth.keep (m := chM) (j := j) (val := .z (.i .u8 (.ap 26 (.o .pair (.v 0) (.v 1))))) h hob hn (by decide : 0 < 19) hv rfl fun d qs hk hi hf => ?_
  obtain ⟨a, rfl⟩ := len1 hk
  show Value.int .u8 (chV.I (eP 1 (.p d a))) = Value.int .u8 (Fam.Φ 26 (.p d a)).toI
  rw [HOk3.h26]
  unfold chVD
  obtain ⟨h1, h2⟩ := rng_in (e := eP 1 (.p d a)) ch_rg (inv_app (hinv d hi))
  rw [clampI_eq h1 h2]; rfl
theorem chWA : (chW 1).Ok Tryz.prog 88 := ch_whole HOk2.tm1 rfl (fun _ h => h) vis1 chA
theorem chWB : (chW 2).Ok Tryz.prog 30 := ch_whole HOk2.tm2 rfl (fun _ h => h) vis2 chB
/-! Something is entered. -/
def enW (j : Nat) : LC := ⟨2, [p0, .z (.i .u8 (.v 1))], [some (obS j (.v 0))], subF e1 [⟨.v 19, ⟨some 0, some 255⟩⟩], [], .tu [], [some (obS j (.ap 24 (.o .pair (.v 0) (.v 1))))]⟩
theorem en_whole {j : Nat} {t : Tm} {f : FuncId} (hob : IsOb Tryz.prog j t) (hn : t.n = 19) (hv : VisOk t.n j) (h : (enM.lc j spEn).Ok Tryz.prog f) : (enW j).Ok Tryz.prog f := by
  refine Mth.ok (m := enM) (j := j) (sp := spEn) (val := .tu []) (st := .ap 24 (.o .pair (.v 0) (.v 1))) h hob hn (by decide : 0 < 19) hv rfl (fun d qs hk hi hf => rfl) (fun d qs hk hi hf => ?_)
  obtain ⟨a, rfl⟩ := len1 hk
  show packD (spEn.map (X.den (eP 1 (.p d a)))) = packD (comps 19 (Fam.Φ 24 (.p d a)))
  rw [HOk3.h24]
  unfold enSD
  rw [pack_comps rfl]
theorem enWA : (enW 1).Ok Tryz.prog 94 := en_whole HOk2.tm1 rfl vis1 enA
theorem enWB : (enW 2).Ok Tryz.prog 113 := en_whole HOk2.tm2 rfl vis2 enB
/-! All registers; the stamp. -/
def e0 : List X := mthE 19 0
def stW (j : Nat) : LC := ⟨1, [p0], [some (obS j (.v 0))], [], [], subSV e0 id stV, [some (obS j (.v 0))]⟩
theorem sub_val {v : SV} {d : D} (h : okSV 19 v = true) : v.den (envOf (comps 19 d ++ [])) = (subSV e0 id v).den (envOf [d]) := by
  have h1 := subSV_den (es := e0) (ρ := id) (e := envOf [d]) (x := v) h
  have h2 : e0.map (X.den (envOf [d])) = comps 19 d ++ [] := mthE_den 19 0 rfl
  rw [h1, ren_id, h2]
theorem st_whole {j : Nat} {t : Tm} {f : FuncId} (hob : IsOb Tryz.prog j t) (hn : t.n = 19) (hv : VisOk t.n j) (h : (stM.lc j (varsX 19)).Ok Tryz.prog f) : (stW j).Ok Tryz.prog f := by
  refine Mth.keep (m := stM) (j := j) (val := subSV e0 id stV) h hob hn (by decide : 0 < 19) hv rfl fun d qs hk hi hf => ?_
  obtain rfl := List.eq_nil_of_length_eq_zero hk
  exact sub_val rfl
theorem stWA : (stW 1).Ok Tryz.prog 93 := st_whole HOk2.tm1 rfl vis1 stA
theorem stWB : (stW 2).Ok Tryz.prog 35 := st_whole HOk2.tm2 rfl vis2 stB
/-! Facts asked for later. -/
end Go.Proofs.YtafkhelomlmlpaaGreat
