/-
  The law on finding opcodes at one name: what the names stand for, contracts, and the case of a name. Conditions: none.
-/
import Derived.Test.YtciemdpcllpdkaaDoorFnP
set_option linter.unusedSectionVars false
set_option linter.unusedVariables false
set_option linter.unusedSimpArgs false
namespace Go.Proofs.YtciemdpcllpdkaaDoor
open Go Go.AE Go.SX Go.RowKit Go.Sort
set_option maxRecDepth 1000000
def noT : Tms := fun _ => none
theorem noT_ok [Fam] : TmsOk Tryd.prog noT := fun _ _ h => by cases h
open Classical in
noncomputable def phiO : Nat → D → D
  | 40, d => opD d
  | 41, d => .i (ixI (ixB d.snd.toI.toNat.toUInt8 d.fst.toS))
  | 43, d => joinD d
  | 47, _ => .i 0
  | 48, _ => .i 2
  | 49, d => .s (Lib.repeatL d.fst.toS d.snd.toI.toNat)
  | 50, _ => .i 0
  | 63, d => .i ((bkN d.toI.toNat : Nat) : Int)
  | 64, d => (match fnB d.fst.toS d.snd.toI with | some b => .p (.i ((b : Nat) : Int)) (.b true) | none => .p (.i 0) (.b false))
  | 65, d => .s (rawF d.toS)
  | 66, d => .s (srtF d.toS)
  | 67, d => .i (if d.toS ∈ rawLs then 1 else 0)
  | 68, d => .b (decide (FdP d.fst.toS d.snd.fst.toI d.snd.snd.toI))
  | 69, d => .b (decide (MoP d.fst.toS d.snd.fst.toI d.snd.snd.toS))
  | 70, d => .b (decide (LwP d.fst.toS d.snd.fst.toI d.snd.snd.fst.toI d.snd.snd.snd.fst.toI d.snd.snd.snd.snd.fst.toI d.snd.snd.snd.snd.snd.toR))
  | 71, d => .b (decide (WtQ d.fst.toS d.snd.fst.toI d.snd.snd.fst.toI d.snd.snd.snd.fst.toI d.snd.snd.snd.snd.fst.toR d.snd.snd.snd.snd.snd.fst.toI d.snd.snd.snd.snd.snd.snd.toS))
  | 72, d => .r (hasF d.toS)
  | 74, d => .b (decide (d.snd.toS = srtF (rawF d.fst.toS)))
  | 73, d => .i (if d.toS ∈ rawLs.map srtF then 1 else 0)
  | _, _ => .u
theorem phiO_ok : ∀ f p d, (rgD f p).has ((phiO f d).proj p).toI := by
  intro f p d
  have ho := op_rg d.toI.toNat
  unfold rgD
  split
  · exact hasM (by show (0 : Int) ≤ ((opR d.toI.toNat).mode : Nat); omega) (by show (((opR d.toI.toNat).mode : Nat) : Int) ≤ 19; omega)
  · exact hasM (by show (1 : Int) ≤ ((opR d.toI.toNat).size : Nat); omega) (by show (((opR d.toI.toNat).size : Nat) : Int) ≤ 7; omega)
  · exact hasM (by show (2 : Int) ≤ ((opR d.toI.toNat).cycles : Nat); omega) (by show (((opR d.toI.toNat).cycles : Nat) : Int) ≤ 17; omega)
  · refine ⟨fun x hx => ?_, fun x hx => (by cases hx)⟩
    cases hx
    show (-1 : Int) ≤ ixI (ixB d.snd.toI.toNat.toUInt8 d.fst.toS)
    cases ixB d.snd.toI.toNat.toUInt8 d.fst.toS with
    | none => exact Int.le_refl _
    | some n => show (-1 : Int) ≤ (n : Int); omega
  · exact hasM (by show (0 : Int) ≤ 0; omega) (by show (0 : Int) ≤ 393233; omega)
  · exact hasM (by show (2 : Int) ≤ 2; omega) (by show (2 : Int) ≤ 393233; omega)
  · exact ⟨fun x hx => (by cases hx; exact Int.le_refl _), fun x hx => (by cases hx)⟩
  · have := bkN_lt d.toI.toNat
    exact hasM (by show (0 : Int) ≤ (bkN d.toI.toNat : Nat); omega) (by show ((bkN d.toI.toNat : Nat) : Int) ≤ 255; omega)
  · show (⟨some 0, some 255⟩ : Rg).has (D.fst (match fnB d.fst.toS d.snd.toI with | some b => D.p (.i ((b : Nat) : Int)) (.b true) | none => .p (.i 0) (.b false))).toI
    cases hf : fnB d.fst.toS d.snd.toI with
    | none => exact hasM (by show (0 : Int) ≤ 0; omega) (by show (0 : Int) ≤ 255; omega)
    | some b =>
      have := (fn_rg hf).1
      exact hasM (by show (0 : Int) ≤ (b : Nat); omega) (by show ((b : Nat) : Int) ≤ 255; omega)
  · show (⟨some 0, some 1⟩ : Rg).has (if d.toS ∈ rawLs then 1 else 0)
    split
    · exact hasM (by omega) (by omega)
    · exact hasM (by omega) (by omega)
  · exact hasT _
theorem phiO_sh : ∀ f d d', (shD f).like d d' → phiO f d = phiO f d' := by
  intro f d d' hl
  unfold shD at hl
  split at hl
  · have h : d.toI = d'.toI := hl
    show opD d = opD d'
    unfold opD
    rw [h]
  · rfl
  · rfl
  · rfl
  · have h1 : d.fst = d'.fst := hl.1
    have h2 : d.snd.toI = d'.snd.toI := hl.2
    show D.s (Lib.repeatL d.fst.toS d.snd.toI.toNat) = D.s (Lib.repeatL d'.fst.toS d'.snd.toI.toNat)
    rw [h1, h2]
  · rfl
  · rfl
  · rfl
  · rfl
  · have h : d = d' := hl
    rw [h]
noncomputable instance dfO : DF := ⟨phiO, phiO_ok, phiO_sh⟩
instance : DOk1 := ⟨fun _ => rfl, fun _ => rfl, fun _ => rfl, fun _ => rfl⟩
/-- opcode.all, its values told by their place. -/
def opSV (b : X) : SV := .a (.ag [.z (.s (nmX b)), .z (.i .u8 (mdX b)), .z (.i .i64 (szX b)), .z (.i .i64 (cyX b))])
def allX : RangeX Tryd.prog where
  gf := 45
  n := 2
  pick := fun g cs m => match cs with
    | [] => some ([], .i 234, fun x => [.z (.i .u8 (.ap 63 x)), opSV (.ap 63 x)])
    | _ => none
  ok := by
    intro g cs m js len f e hg hp
    split at hp
    case h_2 => cases hp
    cases hp
    refine ⟨allL, ?_, ?_, ?_, all_ok.ab, ?_⟩
    · show ((allL.length : Nat) : Int) = 234
      unfold allL
      rw [List.length_map, uptoB_len]; rfl
    · intro v hv
      obtain ⟨b, _, rfl⟩ := List.mem_map.1 hv
      rfl
    · intro v hv x hx
      obtain ⟨b, _, rfl⟩ := List.mem_map.1 hv
      rcases List.mem_cons.1 hx with rfl | hx
      · rfl
      · obtain rfl := List.mem_singleton.1 hx
        rfl
    · intro e' x k v _ hx hv
      have hk : k < 234 := by
        have := (List.getElem?_eq_some_iff.1 hv).1
        unfold allL at this
        rw [List.length_map, uptoB_len] at this
        exact this
      unfold allL at hv
      rw [List.getElem?_map, bkN_get hk] at hv
      cases hv
      have hb : (X.ap 63 x).den e' = .i ((bkN k : Nat) : Int) := by
        show D.i ((bkN (x.I e').toNat : Nat) : Int) = _
        rw [hx, Int.toNat_natCast]
      have h40 : Fam.Φ 40 ((X.ap 63 x).den e') = opD (.i ((bkN k : Nat) : Int)) := by rw [hb]; rfl
      show [Value.int .u8 ((X.ap 63 x).den e').toI, .agg ⟨[.string ⟨⟨(Fam.Φ 40 ((X.ap 63 x).den e')).fst.toS⟩⟩, .int .u8 (Fam.Φ 40 ((X.ap 63 x).den e')).snd.fst.toI, .int .i64 (Fam.Φ 40 ((X.ap 63 x).den e')).snd.snd.fst.toI, .int .i64 (Fam.Φ 40 ((X.ap 63 x).den e')).snd.snd.snd.fst.toI]⟩] = _
      rw [h40, hb]
      show [Value.int .u8 ((bkN k : Nat) : Int), .agg ⟨[.string ⟨⟨(opR (((bkN k : Nat) : Int)).toNat).name⟩⟩, .int .u8 (((opR (((bkN k : Nat) : Int)).toNat).mode : Nat) : Int), .int .i64 (((opR (((bkN k : Nat) : Int)).toNat).size : Nat) : Int), .int .i64 (((opR (((bkN k : Nat) : Int)).toNat).cycles : Nat) : Int)]⟩] = _
      rw [Int.toNat_natCast]; rfl
/-! What must be whatever is asked of opcodes. -/
theorem CLo_all {T' : Tab Tryd.prog} : ∀ p ∈ (72, conCall (conSortAt namesB sortedN)) :: (73, conCall (conCompAt sortedN namesL)) :: CLd, ConOk T' p.1 p.2 := all_cons' conSrt.ok (all_cons' conCmp.ok CLd_all)
noncomputable def CLo : List (FuncId × CallF) := (72, conCall (conSortAt namesB sortedN)) :: (73, conCall (conCompAt sortedN namesL)) :: CLd
noncomputable def CO0 := conTab CLo
theorem CO0_ok : ∀ n c, CO0 n = some c → ConOk TO n c := conTab_ok CLo_all
noncomputable def lcTabO (l : List (FuncId × List LC)) : List (FuncId × CallF) := l.map fun p => (p.1, conCall (conSm (conAlt (p.2.map (conG 12 TO)))))
theorem lcTabO_all {T' : Tab Tryd.prog} {l : List (FuncId × List LC)} (h : ∀ p ∈ l, ∀ c ∈ p.2, c.ok = true ∧ c.Ok Tryd.prog p.1) : ∀ p ∈ lcTabO l, ConOk T' p.1 p.2 := fun p hp => by
  obtain ⟨q, hq, rfl⟩ := List.mem_map.1 hp
  refine Con.ok (Con.sm (Con.alt fun f hf => ?_))
  obtain ⟨c, hc, rfl⟩ := List.mem_map.1 hf
  exact conG_ok (h q hq c hc).1 (h q hq c hc).2
theorem one_lcO {c : LC} {f : FuncId} (h1 : c.ok = true) (h : c.Ok Tryd.prog f) : ∀ c' ∈ [c], c'.ok = true ∧ c'.Ok Tryd.prog f := all_cons' ⟨h1, h⟩ all_nil'
theorem yes_conT {n : FuncId} {T' : Tab Tryd.prog} (hfn : T'.fn n = true) {C : FuncId → Option CallF} (hC : ∀ n c, C n = some c → ConOk T' n c) (h : evT (envOf []) (.z (.b (.b true))) (treeOf T' W0 C 300 20 n (gI 0 []) [] []) = true) : Con Tryd.prog n cYes := by
  intro g args m ns v m' e hf hg hn
  unfold cYes at hf
  split at hf
  · cases hf
    exact ACall.of_fin (e := envOf []) hC hfn (gI_ok fun p hp => by cases hp) rfl h (denM e m)
  · cases hf
end Go.Proofs.YtciemdpcllpdkaaDoor
