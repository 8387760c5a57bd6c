/-
  The bus's contracts, told of the whole. Conditions: none.
-/
import Derived.Test.YtnibdhcfkjmnaaaGreatBusD
import Derived.Test.YtnibdhcfkjmnaaaGreatBusD2
import Derived.Test.YtnibdhcfkjmnaaaGreatBusD3
import Derived.Test.YtnibdhcfkjmnaaaGreatBusF
set_option linter.unusedSectionVars false
set_option linter.unusedVariables false
set_option linter.unusedSimpArgs false
namespace Go.Proofs.YtnibdhcfkjmnaaaGreat
open Go Go.AE Go.SX Go.RowKit
set_option maxRecDepth 1000000
variable [HF] [HOk1] [HOk2] [HOk3] [ROk] [BOk] [BOk2]
def q8 (n : Nat) : Fact := ⟨.v n, ⟨some 0, some 255⟩⟩
def q32 (n : Nat) : Fact := ⟨.v n, ⟨some 0, some 4294967295⟩⟩
def i32 (n : Nat) : SV := .z (.i .u32 (.v n))
def i8 (n : Nat) : SV := .z (.i .u8 (.v n))
def busRdW (j : Nat) : LC := ⟨3, [p0, i32 1, i8 2], [some (obS j (.v 0))], [q32 1, q8 2], [], .z (.i .u8 (.ap 41 (argX 2))), [some (obS j (.ap 42 (argX 2)))]⟩
def busPkW (j : Nat) : LC := ⟨2, [p0, i32 1], [some (obS j (.v 0))], [q32 1], [], .z (.i .u8 (.ap 43 (argX 1))), [some (obS j (.v 0))]⟩
def busWrW (j : Nat) : LC := ⟨4, [p0, i32 1, i8 2, i8 3], [some (obS j (.v 0))], [q32 1, q8 2, q8 3], [], .tu [], [some (obS j (.ap 44 (argX 3)))]⟩
theorem rd_val_rg : busRd.all (fun r => within (rng (fsBus ++ (r.fs ++ fsRdB)) r.val) 0 255) = true := by kernel_rfl
theorem pk_val_rg : busPk.all (fun r => within (rng (fsBus ++ (r.fs ++ fsPkB)) r.val) 0 255) = true := by kernel_rfl
theorem rg_all {fs gs hs : List Fact} {e : En} (h1 : ∀ f ∈ fs, f.r.has (f.e.I e)) (h2 : ∀ f ∈ gs, f.r.has (f.e.I e)) (h3 : ∀ f ∈ hs, f.r.has (f.e.I e)) : ∀ f ∈ fs ++ (gs ++ hs), f.r.has (f.e.I e) := fun f hf => by
  rcases List.mem_append.1 hf with hf | hf
  · exact h1 f hf
  · rcases List.mem_append.1 hf with hf | hf
    · exact h2 f hf
    · exact h3 f hf
theorem uni7 {l : List BRow} (hl : l.map (·.fs) = bConds) {e : En} : ∀ r ∈ l, (∀ q ∈ r.fs, q.r.has (q.e.I e)) → selB l e = r := by
  intro r hr h
  obtain ⟨i, hi, rfl⟩ := List.getElem_of_mem hr
  have hlen : l.length = 7 := by
    have := congrArg List.length hl
    rwa [List.length_map] at this
  have e1 : rowAt l i = l[i] := by
    unfold rowAt
    rw [List.getD_eq_getElem?_getD, List.getElem?_eq_getElem hi]; rfl
  have e2 : (l[i]).fs = bConds.getD i [] := by
    rw [← hl, List.getD_eq_getElem?_getD, List.getElem?_map, List.getElem?_eq_getElem hi]; rfl
  rw [← e1]
  exact sel_uni i (by omega) (e2 ▸ h)
theorem busRd_whole {j : Nat} {t : Tm} {f : FuncId} (hob : IsOb Tryz.prog j t) (hn : t.n = 11) (hv : VisOk t.n j) (hin : t.fs = fsBus) (hr : ∀ r ∈ busRd, ((brM r).lc j r.sp).Ok Tryz.prog f) : (busRdW j).Ok Tryz.prog f := by
  refine tab_whole (k := 2) (l := busRd) (sel := selB busRd) (args := [.z (.i .u32 (.v 11)), .z (.i .u8 (.v 12))]) (fsA := fsRdB) (vl := fun r => .z (.i .u8 r.val)) hob hn hv hin hr (by kernel_rfl) (fun e => sel_has rfl e) (fun e => uni7 rfl) (fun d qs hk hi hq => ?_) (fun d qs hk => ?_)
  · show Value.int .u8 _ = Value.int .u8 (Fam.Φ 41 ((argX 2).den (envOf (d :: qs)))).toI
    rw [arg_den hk, BOk2.h41]
    unfold brVD
    rw [eB_pack hk]
    obtain ⟨h1, h2⟩ := sel_has (l := busRd) rfl (envOf (comps 11 d ++ qs))
    obtain ⟨h3, h4⟩ := rng_in (e := envOf (comps 11 d ++ qs)) (List.all_eq_true.1 rd_val_rg _ h1) (rg_all (inv_app4 hn hin hi) h2 hq)
    rw [clampI_eq h3 h4]; rfl
  · show comps 11 (Fam.Φ 42 ((argX 2).den (envOf (d :: qs)))) = _
    rw [arg_den hk, BOk2.h42]
    unfold brSD
    rw [eB_pack hk, pack11]
    have h := List.all_eq_true.1 (show busRd.all (fun r => Nat.beq r.sp.length 11) = true by kernel_rfl) _ (sel_has (l := busRd) rfl (envOf (comps 11 d ++ qs))).1
    rw [List.length_map]
    exact Nat.eq_of_beq_eq_true h
theorem uni3 {e : En} : ∀ r ∈ busPk, (∀ q ∈ r.fs, q.r.has (q.e.I e)) → selP busPk e = r := by
  intro r hr h
  obtain ⟨i, hi, rfl⟩ := List.getElem_of_mem hr
  have hl : busPk.map (·.fs) = pConds := rfl
  have hlen : busPk.length = 3 := rfl
  have e1 : rowAt busPk i = busPk[i] := by
    unfold rowAt
    rw [List.getD_eq_getElem?_getD, List.getElem?_eq_getElem hi]; rfl
  have e2 : (busPk[i]).fs = pConds.getD i [] := by
    rw [← hl, List.getD_eq_getElem?_getD, List.getElem?_map, List.getElem?_eq_getElem hi]; rfl
  rw [← e1]
  exact selP_uni i (by omega) (e2 ▸ h)
theorem busPk_whole {j : Nat} {t : Tm} {f : FuncId} (hob : IsOb Tryz.prog j t) (hn : t.n = 11) (hv : VisOk t.n j) (hin : t.fs = fsBus) (hr : ∀ r ∈ busPk, ((pkM r).lc j r.sp).Ok Tryz.prog f) : (busPkW j).Ok Tryz.prog f := by
  refine tab_whole (k := 1) (l := busPk) (sel := selP busPk) (args := [.z (.i .u32 (.v 11))]) (fsA := fsPkB) (vl := fun r => .z (.i .u8 r.val)) hob hn hv hin hr (by kernel_rfl) (fun e => selP_has e) (fun e => uni3) (fun d qs hk hi hq => ?_) (fun d qs hk => ?_)
  · show Value.int .u8 _ = Value.int .u8 (Fam.Φ 43 ((argX 1).den (envOf (d :: qs)))).toI
    rw [arg_den hk, BOk2.h43]
    unfold pkVD
    rw [eB_pack hk]
    obtain ⟨h1, h2⟩ := selP_has (envOf (comps 11 d ++ qs))
    obtain ⟨h3, h4⟩ := rng_in (e := envOf (comps 11 d ++ qs)) (List.all_eq_true.1 pk_val_rg _ h1) (rg_all (inv_app4 hn hin hi) h2 hq)
    rw [clampI_eq h3 h4]; rfl
  · have h := List.all_eq_true.1 (show busPk.all (fun r => eqL eqX r.sp (varsX 11)) = true by kernel_rfl) _ (selP_has (envOf (comps 11 d ++ qs))).1
    rw [eqL_eq (p := eqX) (fun h => eqX_eq h) h]
    show comps 11 d = _
    refine List.ext_getElem? fun i => ?_
    simp only [varsX, List.map_map, List.getElem?_map]
    rcases Nat.lt_or_ge i 11 with h | h
    · rw [List.getElem?_eq_getElem (by rw [comps_len]; exact h), List.getElem?_eq_getElem (by simpa using h)]
      simp only [List.getElem_range, Option.map_some, Function.comp]
      show _ = some ((comps 11 d ++ qs).getD i .u)
      rw [List.getD_eq_getElem?_getD, List.getElem?_append_left (by rw [comps_len]; exact h), List.getElem?_eq_getElem (by rw [comps_len]; exact h)]; rfl
    · rw [List.getElem?_eq_none (by rw [comps_len]; exact h), List.getElem?_eq_none (by simpa using h)]; rfl
theorem busWr_whole {j : Nat} {t : Tm} {f : FuncId} (hob : IsOb Tryz.prog j t) (hn : t.n = 11) (hv : VisOk t.n j) (hin : t.fs = fsBus) (hr : ∀ r ∈ busWr, ((bwM r).lc j r.sp).Ok Tryz.prog f) : (busWrW j).Ok Tryz.prog f := by
  refine tab_whole (k := 3) (l := busWr) (sel := selB busWr) (args := [.z (.i .u32 (.v 11)), .z (.i .u8 (.v 12)), .z (.i .u8 (.v 13))]) (fsA := fsWrB) (vl := fun r => .tu []) hob hn hv hin hr (by kernel_rfl) (fun e => sel_has rfl e) (fun e => uni7 rfl) (fun d qs hk hi hq => rfl) (fun d qs hk => ?_)
  show comps 11 (Fam.Φ 44 ((argX 3).den (envOf (d :: qs)))) = _
  rw [arg_den hk, BOk2.h44]
  unfold bwSD
  rw [eB_pack hk, pack11]
  have h := List.all_eq_true.1 (show busWr.all (fun r => Nat.beq r.sp.length 11) = true by kernel_rfl) _ (sel_has (l := busWr) rfl (envOf (comps 11 d ++ qs))).1
  rw [List.length_map]
  exact Nat.eq_of_beq_eq_true h
theorem busRdA : (busRdW 4).Ok Tryz.prog 20 := busRd_whole BOk.tm4 rfl vis4 rfl brA
theorem busWrA : (busWrW 4).Ok Tryz.prog 21 := busWr_whole BOk.tm4 rfl vis4 rfl bwA
theorem busPkA : (busPkW 4).Ok Tryz.prog 25 := busPk_whole BOk.tm4 rfl vis4 rfl (all_cons' pkA0 (all_cons' pkA1 (all_cons' pkA2 all_nil')))
/-! The others. -/
end Go.Proofs.YtnibdhcfkjmnaaaGreat
