/-
  The bus's methods told of the state as a whole, by named functions, the same for the program and the document. Conditions: none.
-/
import Derived.Test.YtafkhelomlmlpaaGreatBusE
set_option linter.unusedSectionVars false
set_option linter.unusedVariables false
set_option linter.unusedSimpArgs false
namespace Go.Proofs.YtafkhelomlmlpaaGreat
open Go Go.AE Go.SX Go.RowKit
set_option maxRecDepth 1000000
/-! What is handed over, as one. -/
def argX (k : Nat) : X := packX ((List.range (k + 1)).map X.v)
def eB (k : Nat) (x : D) : En := envOf (comps 11 x.fst ++ comps k x.snd)
section
variable [Fam]
theorem comps_packD {l : List D} : comps l.length (packD l) = l := packD_comps l
theorem arg_den {k : Nat} {d : D} {l : List D} (hk : l.length = k + 1) : (argX (k + 1)).den (envOf (d :: l)) = .p d (packD l) := by
  unfold argX
  rw [packX_eq]
  have e : ((List.range (k + 1 + 1)).map X.v).map (X.den (envOf (d :: l))) = d :: l := by
    refine List.ext_getElem? fun i => ?_
    rw [List.map_map, List.getElem?_map]
    rcases Nat.lt_or_ge i (k + 2) with h | h
    · rw [List.getElem?_eq_getElem (by simpa using h), List.getElem?_eq_getElem (by rw [List.length_cons, hk]; exact h)]
      simp only [List.getElem_range, Option.map_some, Function.comp]
      show some ((d :: l).getD i .u) = _
      rw [List.getD_eq_getElem?_getD, List.getElem?_eq_getElem (by rw [List.length_cons, hk]; exact h)]; rfl
    · rw [List.getElem?_eq_none (by simpa using h), List.getElem?_eq_none (by rw [List.length_cons, hk]; exact h)]; rfl
  rw [e]
  cases l with
  | nil => cases hk
  | cons a l => rfl
theorem eB_pack {k : Nat} {d : D} {l : List D} (hk : l.length = k) : eB k (.p d (packD l)) = envOf (comps 11 d ++ l) := by
  subst hk
  unfold eB
  show envOf (comps 11 d ++ comps l.length (packD l)) = _
  rw [comps_packD]
theorem pack11 {l : List D} (h : l.length = 11) : comps 11 (packD l) = l := by
  have := packD_comps l
  rwa [h] at this
/-! Which case it is. -/
def rowB (l : List BRow) (lf wh bk : Int) : BRow := if lf ≤ 0 then rowAt l 0 else if wh ≤ 0 then rowAt l 1 else if wh ≤ 1 then rowAt l 2 else if wh ≤ 2 then (if bk ≤ 254 then rowAt l 3 else rowAt l 4) else if wh ≤ 4 then rowAt l 5 else rowAt l 6
def selB (l : List BRow) (e : En) : BRow := rowB l ((X.v 7).I e) (whI (adN.I e)) (bk1.I e)
def rowP (l : List BRow) (wh : Int) : BRow := if wh ≤ 0 then rowAt l 0 else if wh ≤ 1 then rowAt l 1 else rowAt l 2
def selP (l : List BRow) (e : En) : BRow := rowP l (whI (adN.I e))
def brVD (d : D) : D := .i (clampI 0 255 ((selB busRd (eB 2 d)).val.I (eB 2 d)))
def brSD (d : D) : D := packD ((selB busRd (eB 2 d)).sp.map (X.den (eB 2 d)))
def pkVD (d : D) : D := .i (clampI 0 255 ((selP busPk (eB 1 d)).val.I (eB 1 d)))
def bwSD (d : D) : D := packD ((selB busWr (eB 3 d)).sp.map (X.den (eB 3 d)))
def askSD (d : D) : D := packD (spAsk.map (X.den (eB 1 d)))
def turnSD (d : D) : D := packD (spTurn.map (X.den (envOf (comps 11 d ++ []))))
def entSD (d : D) : D := packD (spEnt.map (X.den (eB 1 d)))
end
class BOk2 [HF] : Prop where
  h41 : ∀ d, Fam.Φ 41 d = brVD d
  h42 : ∀ d, Fam.Φ 42 d = brSD d
  h43 : ∀ d, Fam.Φ 43 d = pkVD d
  h44 : ∀ d, Fam.Φ 44 d = bwSD d
  h45 : ∀ d, Fam.Φ 45 d = askSD d
  h46 : ∀ d, Fam.Φ 46 d = turnSD d
  h47 : ∀ d, Fam.Φ 47 d = entSD d
variable [HF] [HOk1] [HOk2] [HOk3] [ROk] [BOk] [BOk2]
theorem whN_I (e : En) : whN.I e = whI (adN.I e) := by
  show (Fam.Φ 3 (adN.den e)).toI = _
  rw [HOk1.h3]; rfl
theorem bank_of (n : Int) : (whI (n % 2097152) = 0 ∧ 0 ≤ n / 8192 % 256 ∧ n / 8192 % 256 ≤ 127) ∨ (whI (n % 2097152) = 1 ∧ 248 ≤ n / 8192 % 256 ∧ n / 8192 % 256 ≤ 251) ∨ (whI (n % 2097152) = 2 ∧ 128 ≤ n / 8192 % 256 ∧ n / 8192 % 256 ≤ 255) ∨ (3 ≤ whI (n % 2097152) ∧ whI (n % 2097152) ≤ 8 ∧ n / 8192 % 256 = 255) := by
  unfold whI
  split
  · exact .inl ⟨rfl, by omega, by omega⟩
  · split
    · exact .inr (.inl ⟨rfl, by omega, by omega⟩)
    · split
      · exact .inr (.inr (.inl ⟨rfl, by omega, by omega⟩))
      · exact .inr (.inr (.inr ⟨by omega, by omega, by omega⟩))
theorem f_rg {x : X} {lo hi : Option Int} {e : En} (h : (⟨lo, hi⟩ : Rg).has (x.I e)) : ∀ f ∈ [(⟨x, ⟨lo, hi⟩⟩ : Fact)], f.r.has (f.e.I e) := fun f hf => by obtain rfl := List.mem_singleton.1 hf; exact h
theorem hasLo {a n : Int} (h : a ≤ n) : (Rg.mk (some a) none).has n := ⟨fun x hx => (by cases hx; exact h), fun x hx => (by cases hx)⟩
theorem hasHi {a n : Int} (h : n ≤ a) : (Rg.mk none (some a)).has n := ⟨fun x hx => (by cases hx), fun x hx => (by cases hx; exact h)⟩
theorem wh_fs {e : En} {a b c d : Int} (h1 : a ≤ whI (adN.I e)) (h2 : whI (adN.I e) ≤ b) (h3 : c ≤ bk1.I e) (h4 : bk1.I e ≤ d) : ∀ f ∈ whF a b :: bkF c d, f.r.has (f.e.I e) := by
  refine all_cons' ?_ (all_cons' (hasM h3 h4) all_nil')
  show (Rg.mk (some a) (some b)).has (whN.I e)
  rw [whN_I]
  exact hasM h1 h2
/-- The rows of a table, told by where: its conditions. -/
def bConds : List (List Fact) := [[none1], some1 :: whF 0 0 :: bkF 0 127, some1 :: whF 1 1 :: bkF 248 251, some1 :: whF 2 2 :: bkF 128 254, some1 :: whF 2 2 :: bkF 255 255, some1 :: whF 3 4 :: bkF 255 255, some1 :: whF 5 8 :: bkF 255 255]
theorem sel_has {l : List BRow} (hl : l.map (·.fs) = bConds) (e : En) : selB l e ∈ l ∧ ∀ f ∈ (selB l e).fs, f.r.has (f.e.I e) := by
  have hlen : l.length = 7 := by
    have := congrArg List.length hl
    rwa [List.length_map] at this
  have at_ : ∀ i (hi : i < 7), rowAt l i ∈ l ∧ (rowAt l i).fs = bConds.getD i [] := by
    intro i hi
    have e1 : rowAt l i = l[i] := by
      unfold rowAt
      rw [List.getD_eq_getElem?_getD, List.getElem?_eq_getElem (by omega)]; rfl
    refine ⟨e1 ▸ List.getElem_mem _, ?_⟩
    rw [← hl, List.getD_eq_getElem?_getD, List.getElem?_map, List.getElem?_eq_getElem (by omega), e1]; rfl
  have hb := bank_of ((X.v 11).I e)
  have ha : adN.I e = (X.v 11).I e % 2097152 := rfl
  have hk : bk1.I e = (X.v 11).I e / 8192 % 256 := rfl
  rw [← ha, ← hk] at hb
  unfold selB rowB
  have fin : ∀ i (hi : i < 7), (∀ f ∈ bConds.getD i [], f.r.has (f.e.I e)) → rowAt l i ∈ l ∧ ∀ f ∈ (rowAt l i).fs, f.r.has (f.e.I e) := fun i hi h => ⟨(at_ i hi).1, (at_ i hi).2 ▸ h⟩
  split
  · rename_i h0
    exact fin 0 (by omega) (f_rg (hasHi h0))
  · rename_i h0
    have hs : some1.r.has (some1.e.I e) := hasLo (by show (1 : Int) ≤ (X.v 7).I e; omega)
    split
    · exact fin 1 (by omega) (all_cons' hs (wh_fs (by omega) (by omega) (by omega) (by omega)))
    · split
      · exact fin 2 (by omega) (all_cons' hs (wh_fs (by omega) (by omega) (by omega) (by omega)))
      · split
        · split
          · exact fin 3 (by omega) (all_cons' hs (wh_fs (by omega) (by omega) (by omega) (by omega)))
          · exact fin 4 (by omega) (all_cons' hs (wh_fs (by omega) (by omega) (by omega) (by omega)))
        · split
          · exact fin 5 (by omega) (all_cons' hs (wh_fs (by omega) (by omega) (by omega) (by omega)))
          · exact fin 6 (by omega) (all_cons' hs (wh_fs (by omega) (by omega) (by omega) (by omega)))
theorem fs_wh {e : En} {a b c d : Int} (h : ∀ f ∈ whF a b :: bkF c d, f.r.has (f.e.I e)) : a ≤ whI (adN.I e) ∧ whI (adN.I e) ≤ b ∧ c ≤ bk1.I e ∧ bk1.I e ≤ d := by
  obtain ⟨h1, h2⟩ := h _ List.mem_cons_self
  obtain ⟨h3, h4⟩ := h _ (List.mem_cons_of_mem _ List.mem_cons_self)
  have e1 : (whF a b).e.I e = whI (adN.I e) := whN_I e
  rw [e1] at h1 h2
  exact ⟨h1 _ rfl, h2 _ rfl, h3 _ rfl, h4 _ rfl⟩
theorem sel_uni {l : List BRow} {e : En} : ∀ i, i < 7 → (∀ f ∈ bConds.getD i [], f.r.has (f.e.I e)) → selB l e = rowAt l i := by
  intro i hi h
  unfold selB rowB
  match i, hi with
  | 0, _ =>
    have h0 : (X.v 7).I e ≤ 0 := (h none1 List.mem_cons_self).2 _ rfl
    rw [if_pos h0]
  | 1, _ =>
    have h0 : 1 ≤ (X.v 7).I e := (h some1 List.mem_cons_self).1 _ rfl
    obtain ⟨h1, h2, h3, h4⟩ := fs_wh fun f hf => h f (List.mem_cons_of_mem _ hf)
    rw [if_neg (by omega), if_pos (by omega)]
  | 2, _ =>
    have h0 : 1 ≤ (X.v 7).I e := (h some1 List.mem_cons_self).1 _ rfl
    obtain ⟨h1, h2, h3, h4⟩ := fs_wh fun f hf => h f (List.mem_cons_of_mem _ hf)
    rw [if_neg (by omega), if_neg (by omega), if_pos (by omega)]
  | 3, _ =>
    have h0 : 1 ≤ (X.v 7).I e := (h some1 List.mem_cons_self).1 _ rfl
    obtain ⟨h1, h2, h3, h4⟩ := fs_wh fun f hf => h f (List.mem_cons_of_mem _ hf)
    rw [if_neg (by omega), if_neg (by omega), if_neg (by omega), if_pos (by omega), if_pos (by omega)]
  | 4, _ =>
    have h0 : 1 ≤ (X.v 7).I e := (h some1 List.mem_cons_self).1 _ rfl
    obtain ⟨h1, h2, h3, h4⟩ := fs_wh fun f hf => h f (List.mem_cons_of_mem _ hf)
    rw [if_neg (by omega), if_neg (by omega), if_neg (by omega), if_pos (by omega), if_neg (by omega)]
  | 5, _ =>
    have h0 : 1 ≤ (X.v 7).I e := (h some1 List.mem_cons_self).1 _ rfl
    obtain ⟨h1, h2, h3, h4⟩ := fs_wh fun f hf => h f (List.mem_cons_of_mem _ hf)
    rw [if_neg (by omega), if_neg (by omega), if_neg (by omega), if_neg (by omega), if_pos (by omega)]
  | 6, _ =>
    have h0 : 1 ≤ (X.v 7).I e := (h some1 List.mem_cons_self).1 _ rfl
    obtain ⟨h1, h2, h3, h4⟩ := fs_wh fun f hf => h f (List.mem_cons_of_mem _ hf)
    rw [if_neg (by omega), if_neg (by omega), if_neg (by omega), if_neg (by omega), if_neg (by omega)]
/-! Tables, told of the whole. -/
theorem inv_app4 {d : D} {qs : List D} {t : Tm} (hn : t.n = 11) (ht : t.fs = fsBus) (h : t.inv d) : ∀ f ∈ fsBus, f.r.has (f.e.I (envOf (comps 11 d ++ qs))) := by
  intro f hf
  have h1 : f.r.has (f.e.I (envOf (comps 11 d))) := by
    have := h.1 f (ht ▸ hf)
    rwa [hn] at this
  have hsc : f.e.sc 11 = true := List.all_eq_true.1 (show fsBus.all (fun f => f.e.sc 11) = true by kernel_rfl) f hf
  have ha : Agv 11 (envOf (comps 11 d)) (envOf (comps 11 d ++ qs)) := fun k hk => by
    show (comps 11 d ++ qs).getD k .u = (comps 11 d).getD k .u
    rw [List.getD_eq_getElem?_getD, List.getD_eq_getElem?_getD, List.getElem?_append_left (by rw [comps_len]; exact hk)]
  have e1 : f.e.I (envOf (comps 11 d ++ qs)) = f.e.I (envOf (comps 11 d)) := by simp only [X.I, X.sc_den ha hsc]
  rw [e1]
  exact h1
theorem sub_I {k : Nat} {d : D} {l : List D} (hk : l.length = k) {x : X} (hs : x.sc (11 + k) = true) : (x.sub 0 (mthE 11 k)).I (envOf (d :: l)) = x.I (envOf (comps 11 d ++ l)) := by
  have h1 := sub0_den (es := mthE 11 k) (e := envOf (d :: l)) (x := x) (by rw [mthE_len]; exact hs)
  rw [mthE_den 11 k hk] at h1
  simp only [X.I, h1]
/-- A table of cases, told of the whole: a value and a state by two names. -/
theorem tab_whole {j k : Nat} {t : Tm} {f : FuncId} {l : List BRow} {sel : En → BRow} {args : List SV} {fsA : List Fact} {vl : BRow → SV} {wv : SV} {st : X}
    (hob : IsOb Tryz.prog j t) (hn : t.n = 11) (hv : VisOk t.n j) (hin : t.fs = fsBus)
    (hr : ∀ r ∈ l, ((⟨11, k, args, r.fs ++ fsA, [], vl r⟩ : Mth).lc j r.sp).Ok Tryz.prog f)
    (hs : l.all (fun r => (⟨11, k, args, r.fs ++ fsA, [], vl r⟩ : Mth).sc && Nat.beq r.sp.length 11) = true)
    (hsel : ∀ e, sel e ∈ l ∧ ∀ q ∈ (sel e).fs, q.r.has (q.e.I e)) (huni : ∀ e, ∀ r ∈ l, (∀ q ∈ r.fs, q.r.has (q.e.I e)) → sel e = r)
    (hval : ∀ d qs, qs.length = k → t.inv d → (∀ q ∈ fsA, q.r.has (q.e.I (envOf (comps 11 d ++ qs)))) → (vl (sel (envOf (comps 11 d ++ qs)))).den (envOf (comps 11 d ++ qs)) = wv.den (envOf (d :: qs)))
    (hst : ∀ d qs, qs.length = k → comps 11 (st.den (envOf (d :: qs))) = (sel (envOf (comps 11 d ++ qs))).sp.map (X.den (envOf (comps 11 d ++ qs)))) :
    (LC.mk (1 + k) (.z (.p 0 (.i 0) 0 0) :: args.map (subSV (mthE 11 k) id)) [some (obS j (.v 0))] (fsA.map fun q => ⟨q.e.sub 0 (mthE 11 k), q.r⟩) [] wv [some (obS j st)]).Ok Tryz.prog f := by
  refine LC.Ok.cases (l := l.map fun r => r.fs.map fun q => ⟨q.e.sub 0 (mthE 11 k), q.r⟩) (fun fs hfs => ?_) (fun ds hl hf => ?_)
  · obtain ⟨r, hrm, rfl⟩ := List.mem_map.1 hfs
    have hall := List.all_eq_true.1 hs r hrm
    rw [Bool.and_eq_true] at hall
    have key : ∀ d qs, qs.length = k → (∀ q ∈ r.fs ++ fsA, q.r.has (q.e.I (envOf (comps 11 d ++ qs)))) → sel (envOf (comps 11 d ++ qs)) = r := fun d qs hk hq => huni _ r hrm fun q hqm => hq q (List.mem_append_left _ hqm)
    have h1 := Mth.ok (m := ⟨11, k, args, r.fs ++ fsA, [], vl r⟩) (j := j) (sp := r.sp) (val := wv) (st := st) (hr r hrm) hob hn (by decide : 0 < 11) hv hall.1
      (fun d qs hk hi hq => by rw [← hval d qs hk hi fun q hqm => hq q (List.mem_append_right _ hqm), key d qs hk hq])
      (fun d qs hk hi hq => by rw [hst d qs hk, key d qs hk hq])
    unfold Mth.whole at h1
    simp only [List.map_append] at h1
    exact h1
  · obtain ⟨d, qs, rfl⟩ : ∃ d qs, ds = d :: qs := by
      cases ds with
      | nil => have : (0 : Nat) = 1 + k := hl; omega
      | cons d qs => exact ⟨d, qs, rfl⟩
    have hk : qs.length = k := by
      have : qs.length + 1 = 1 + k := hl
      omega
    obtain ⟨h1, h2⟩ := hsel (envOf (comps 11 d ++ qs))
    refine ⟨_, List.mem_map.2 ⟨_, h1, rfl⟩, fun q hq => ?_⟩
    obtain ⟨q0, hq0, rfl⟩ := List.mem_map.1 hq
    have hall := List.all_eq_true.1 hs _ h1
    rw [Bool.and_eq_true] at hall
    have hsc := hall.1
    unfold Mth.sc at hsc
    simp only [Bool.and_eq_true] at hsc
    have hq1 := List.all_eq_true.1 hsc.2.1 q0 (List.mem_append_left _ hq0)
    show q0.r.has ((q0.e.sub 0 (mthE 11 k)).I (envOf (d :: qs)))
    rw [sub_I hk hq1]
    exact h2 q0 hq0
end Go.Proofs.YtafkhelomlmlpaaGreat
