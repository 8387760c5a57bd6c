/-
  The bus's contracts, told of the whole. Conditions: none.
-/
import Derived.Test.YtafkhelomlmlpaaGreatBusD
import Derived.Test.YtafkhelomlmlpaaGreatBusD2
import Derived.Test.YtafkhelomlmlpaaGreatBusD3
import Derived.Test.YtafkhelomlmlpaaGreatBusF
set_option linter.unusedSectionVars false
set_option linter.unusedVariables false
set_option linter.unusedSimpArgs false
namespace Go.Proofs.YtafkhelomlmlpaaGreat
open Go Go.AE Go.SX Go.RowKit
set_option maxRecDepth 1000000
variable [HF] [HOk1] [HOk2] [HOk3] [ROk] [BOk] [BOk2]
def q8 (n : Nat) : Fact := ⟨.v n, ⟨some 0, some 255⟩⟩
def q32 (n : Nat) : Fact := ⟨.v n, ⟨some 0, some 4294967295⟩⟩
def i32 (n : Nat) : SV := .z (.i .u32 (.v n))
def i8 (n : Nat) : SV := .z (.i .u8 (.v n))
def busRdW (j : Nat) : LC := ⟨3, [p0, i32 1, i8 2], [some (obS j (.v 0))], [q32 1, q8 2], [], .z (.i .u8 (.ap 41 (argX 2))), [some (obS j (.ap 42 (argX 2)))]⟩
def busWrW (j : Nat) : LC := ⟨4, [p0, i32 1, i8 2, i8 3], [some (obS j (.v 0))], [q32 1, q8 2, q8 3], [], .tu [], [some (obS j (.ap 44 (argX 3)))]⟩
theorem rd_val_rg : busRd.all (fun r => within (rng (fsBus ++ (r.fs ++ fsRdB)) r.val) 0 255) = true := by kernel_rfl
theorem rg_all {fs gs hs : List Fact} {e : En} (h1 : ∀ f ∈ fs, f.r.has (f.e.I e)) (h2 : ∀ f ∈ gs, f.r.has (f.e.I e)) (h3 : ∀ f ∈ hs, f.r.has (f.e.I e)) : ∀ f ∈ fs ++ (gs ++ hs), f.r.has (f.e.I e) := fun f hf => by
  rcases List.mem_append.1 hf with hf | hf
  · exact h1 f hf
  · rcases List.mem_append.1 hf with hf | hf
    · exact h2 f hf
    · exact h3 f hf
theorem uni7 {l : List BRow} (hl : l.map (·.fs) = bConds) {e : En} : ∀ r ∈ l, (∀ q ∈ r.fs, q.r.has (q.e.I e)) → selB l e = r := by
  intro r hr h
  obtain ⟨i, hi, rfl⟩ := List.getElem_of_mem hr
  have hlen : l.length = 7 := by
    have := congrArg List.length hl
    rwa [List.length_map] at this
  have e1 : rowAt l i = l[i] := by
    unfold rowAt
    rw [List.getD_eq_getElem?_getD, List.getElem?_eq_getElem hi]; rfl
  have e2 : (l[i]).fs = bConds.getD i [] := by
    rw [← hl, List.getD_eq_getElem?_getD, List.getElem?_map, List.getElem?_eq_getElem hi]; rfl
  rw [← e1]
  exact sel_uni i (by omega) (e2 ▸ h)
theorem busRd_whole {j : Nat} {t : Tm} {f : FuncId} (hob : IsOb Tryz.prog j t) (hn : t.n = 11) (hv : VisOk t.n j) (hin : t.fs = fsBus) (hr : ∀ r ∈ busRd, ((brM r).lc j r.sp).Ok Tryz.prog f) : (busRdW j).Ok Tryz.prog f := by
  refine tab_whole (k := 2) (l := busRd) (sel := selB busRd) (args := [.z (.i .u32 (.v 11)), .z (.i .u8 (.v 12))]) (fsA := fsRdB) (vl := fun r => .z (.i .u8 r.val)) hob hn hv hin hr (by kernel_rfl) (fun e => sel_has rfl e) (fun e => uni7 rfl) (fun d qs hk hi hq => ?_) (fun d qs hk => ?_)
  · show Value.int .u8 _ = Value.int .u8 (Fam.Φ 41 ((argX 2).den (envOf (d :: qs)))).toI
    rw [arg_den hk, BOk2.h41]
    unfold brVD
    rw [eB_pack hk]
    obtain ⟨h1, h2⟩ := sel_has (l := busRd) rfl (envOf (comps 11 d ++ qs))
    obtain ⟨h3, h4⟩ := rng_in (e := envOf (comps 11 d ++ qs)) (List.all_eq_true.1 rd_val_rg _ h1) (rg_all (inv_app4 hn hin hi) h2 hq)
    rw [clampI_eq h3 h4]; rfl
  · show comps 11 (Fam.Φ 42 ((argX 2).den (envOf (d :: qs)))) = _
    rw [arg_den hk, BOk2.h42]
    unfold brSD
    rw [eB_pack hk, pack11]
    have h := List.all_eq_true.1 (show busRd.all (fun r => Nat.beq r.sp.length 11) = true by kernel_rfl) _ (sel_has (l := busRd) rfl (envOf (comps 11 d ++ qs))).1
    rw [List.length_map]
    exact Nat.eq_of_beq_eq_true h
theorem busWr_whole {j : Nat} {t : Tm} {f : FuncId} (hob : IsOb Tryz.prog j t) (hn : t.n = 11) (hv : VisOk t.n j) (hin : t.fs = fsBus) (hr : ∀ r ∈ busWr, ((bwM r).lc j r.sp).Ok Tryz.prog f) : (busWrW j).Ok Tryz.prog f := by
  refine tab_whole (k := 3) (l := busWr) (sel := selB busWr) (args := [.z (.i .u32 (.v 11)), .z (.i .u8 (.v 12)), .z (.i .u8 (.v 13))]) (fsA := fsWrB) (vl := fun r => .tu []) hob hn hv hin hr (by kernel_rfl) (fun e => sel_has rfl e) (fun e => uni7 rfl) (fun d qs hk hi hq => rfl) (fun d qs hk => ?_)
  show comps 11 (Fam.Φ 44 ((argX 3).den (envOf (d :: qs)))) = _
  rw [arg_den hk, BOk2.h44]
  unfold bwSD
  rw [eB_pack hk, pack11]
  have h := List.all_eq_true.1 (show busWr.all (fun r => Nat.beq r.sp.length 11) = true by kernel_rfl) _ (sel_has (l := busWr) rfl (envOf (comps 11 d ++ qs))).1
  rw [List.length_map]
  exact Nat.eq_of_beq_eq_true h
theorem busRdA : (busRdW 4).Ok Tryz.prog 9 := busRd_whole BOk.tm4 rfl vis4 rfl brA
theorem busWrA : (busWrW 4).Ok Tryz.prog 10 := busWr_whole BOk.tm4 rfl vis4 rfl bwA
/-! The others. -/
def busAskW (j : Nat) : LC := ⟨2, [p0, .z (.b (.v 1))], [some (obS j (.v 0))], [], [], .tu [], [some (obS j (.ap 45 (argX 1)))]⟩
def busTurnW (j : Nat) : LC := ⟨1, [p0], [some (obS j (.v 0))], [], [], .tu [], [some (obS j (.ap 46 (.v 0)))]⟩
theorem busAskA : (busAskW 4).Ok Tryz.prog 11 :=
  Mth.ok (m := askM) (j := 4) (val := .tu []) (st := .ap 45 (argX 1)) askA BOk.tm4 rfl (by decide : 0 < 11) vis4 rfl (fun d qs hk hi hq => rfl) fun d qs hk hi hq => by
    have hk : qs.length = 1 := hk
    show packD (spAsk.map (X.den (envOf (comps 11 d ++ qs)))) = packD (comps 11 (Fam.Φ 45 ((argX 1).den (envOf (d :: qs)))))
    rw [arg_den hk, BOk2.h45]
    unfold askSD
    rw [eB_pack hk, pack11 rfl]
theorem busTurnA : (busTurnW 4).Ok Tryz.prog 12 :=
  Mth.ok (m := turnM) (j := 4) (val := .tu []) (st := .ap 46 (.v 0)) turnA BOk.tm4 rfl (by decide : 0 < 11) vis4 rfl (fun d qs hk hi hq => rfl) fun d qs hk hi hq => by
    obtain rfl := List.eq_nil_of_length_eq_zero hk
    show packD _ = packD (comps 11 (Fam.Φ 46 d))
    rw [BOk2.h46]
    unfold turnSD
    rw [pack11 rfl]; rfl
/-- What is told of a state that stays. -/
theorem tell_whole {m : Mth} {f : FuncId} {val : SV} (h : (m.lc 4 (bChg [])).Ok Tryz.prog f) (hN : m.N = 11) (hsc : m.sc = true) (hok : okSV (11 + m.k) m.val = true) (hv : val = subSV (mthE 11 m.k) id m.val) : (m.whole 4 val (.v 0)).Ok Tryz.prog f := by
  obtain ⟨N, k, ar, fs, xs, v⟩ := m
  obtain rfl : N = 11 := hN
  subst hv
  refine Mth.keep (m := ⟨11, k, ar, fs, xs, v⟩) (j := 4) (val := subSV (mthE 11 k) id v) h BOk.tm4 rfl (by decide : 0 < 11) vis4 hsc fun d qs hk hi hq => ?_
  have h1 := subSV_den (es := mthE 11 k) (ρ := id) (e := envOf (d :: qs)) (x := v) (by rw [mthE_len]; exact hok)
  have h2 : (mthE 11 k).map (X.den (envOf (d :: qs))) = comps 11 d ++ qs := mthE_den 11 k hk
  rw [h1, ren_id, h2]
def bpc (i : Nat) : X := (compX 11 (.v 0)).getD i .nil
def tellW (v : SV) : LC := ⟨1, [p0], [some (obS 4 (.v 0))], [], [], v, [some (obS 4 (.v 0))]⟩
theorem left4W : (tellW (.z (.i .i64 (bpc 7)))).Ok Tryz.prog 14 := tell_whole (m := leftM) left4 rfl rfl rfl rfl
/-- All accesses, told. -/
def traceW : LC := ⟨1, [p0], [some (obS 4 (.v 0))], [], [], .z (.sl 1 (.i 0) 0 0 (.u .rlen (bpc 9)) (.u .rlen (bpc 9))), [some (obS 4 (.v 0)), some ⟨.rw aK (bpc 9), 45, true, false⟩]⟩
theorem bpc_den (e : En) (i : Nat) (hi : i < 11) : (bpc i).den e = (comps 11 (e.ρ 0)).getD i .u := by
  unfold bpc
  rw [← show (compX 11 (.v 0)).map (X.den e) = comps 11 (e.ρ 0) from compX_den e 11 (.v 0)]
  rw [List.getD_eq_getElem?_getD, List.getD_eq_getElem?_getD, List.getElem?_map, List.getElem?_eq_getElem (by rw [compX_len]; exact hi)]
  rfl
theorem traceWA : traceW.Ok Tryz.prog 13 := by
  refine traceA.inst (es := compX 11 (.v 0)) (compX_len 11 _) fun ds hl hf ha => ?_
  obtain ⟨d, rfl⟩ := len1 hl
  have he : (compX 11 (.v 0)).map (X.den (envOf [d])) = comps 11 d := compX_den _ 11 _
  have hob : denM (envOf ((compX 11 (.v 0)).map (X.den (envOf [d])))) [some (obS 4 (packX (varsX 11)))] = denM (envOf [d]) [some (obS 4 (.v 0))] := by
    rw [he]
    refine obS_same BOk.tm4 vis4 ?_ (by decide : 0 < 11)
    rw [packX_eq]
    rfl
  have h9 : ((envOf (comps 11 d)).ρ 9) = (bpc 9).den (envOf [d]) := by rw [bpc_den _ 9 (by omega)]; rfl
  refine ⟨fun f hf => (by cases hf), fun x hx => (by cases hx), rfl, hob, ?_, ?_⟩
  · show Value.slice (some ⟨1, _, none⟩) _ _ = Value.slice (some ⟨1, _, none⟩) _ _
    rw [he]
    show Value.slice _ ((((envOf (comps 11 d)).ρ 9).toR.length : Nat) : Int).toNat ((((envOf (comps 11 d)).ρ 9).toR.length : Nat) : Int).toNat = Value.slice _ ((((bpc 9).den (envOf [d])).toR.length : Nat) : Int).toNat ((((bpc 9).den (envOf [d])).toR.length : Nat) : Int).toNat
    rw [h9]; rfl
  · have h2 := (List.cons.inj hob).1
    show [_, _] = [_, _]
    rw [he] at h2 ⊢
    have e3 : (some ⟨.rw aK (.v 9), 45, true, false⟩ : Option SBlk).map (SBlk.den (envOf (comps 11 d))) = (some ⟨.rw aK (bpc 9), 45, true, false⟩ : Option SBlk).map (SBlk.den (envOf [d])) := by
      show some (ABlk.mk ((((envOf (comps 11 d)).ρ 9).toR).flatMap (rowV aK)) _ _ _ _) = some (ABlk.mk ((((bpc 9).den (envOf [d])).toR).flatMap (rowV aK)) _ _ _ _)
      rw [h9]; rfl
    exact congr (congrArg List.cons h2) (congrArg (fun x => [x]) e3)
end Go.Proofs.YtafkhelomlmlpaaGreat
