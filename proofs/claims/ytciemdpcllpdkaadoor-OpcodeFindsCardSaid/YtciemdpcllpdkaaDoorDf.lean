/-
  The names of functions of this seat's laws, and the contracts of a byte's meaning. Conditions: none.
-/
import Derived.Test.YtciemdpcllpdkaaDoorOpZ
set_option linter.unusedSectionVars false
set_option linter.unusedVariables false
set_option linter.unusedSimpArgs false
namespace Go.Proofs.YtciemdpcllpdkaaDoor
open Go Go.AE Go.SX Go.RowKit
set_option maxRecDepth 1000000
/-! The names, and what is known of their ranges. -/
def rgD : Nat → List Bool → Rg
  | 40, [true, false] => ⟨some 0, some 19⟩
  | 40, [true, true, false] => ⟨some 1, some 7⟩
  | 40, [true, true, true, false] => ⟨some 2, some 17⟩
  | 41, [] => ⟨some (-1), none⟩
  | 47, [] => ⟨some 0, some 393233⟩
  | 48, [] => ⟨some 2, some 393233⟩
  | 50, [] => ⟨some 0, none⟩
  | 63, [] => ⟨some 0, some 255⟩
  | 64, [false] => ⟨some 0, some 255⟩
  | 67, [] => ⟨some 0, some 1⟩
  | _, _ => .top
def shD : Nat → Sh
  | 40 => .i
  | 44 => .p .x .i
  | 47 => .p .x .i
  | 48 => .i
  | 49 => .p .x .i
  | 50 => .p .x .i
  | 51 => .p .x .i
  | 52 => .p .x .i
  | 53 => .p .x .i
  | _ => .x
class DF where
  Φ : Nat → D → D
  ok : ∀ f p d, (rgD f p).has ((Φ f d).proj p).toI
  sh : ∀ f d d', (shD f).like d d' → Φ f d = Φ f d'
instance famD [DF] : Fam := ⟨DF.Φ, fun _ _ => noOb, rgD, DF.ok, fun _ => false, fun _ _ h => (by cases h), fun _ => [], shD, DF.sh⟩
def opD (d : D) : D :=
  let r := opR d.toI.toNat
  .p (.s r.name) (.p (.i (r.mode : Nat)) (.p (.i (r.size : Nat)) (.p (.i (r.cycles : Nat)) (.b r.known))))
variable [DF]
class DOk1 : Prop where
  h40 : ∀ d, Fam.Φ 40 d = opD d
  h41 : ∀ d, (Fam.Φ 41 d).toI = ixI (ixB d.snd.toI.toNat.toUInt8 d.fst.toS)
  h43 : ∀ d, Fam.Φ 43 d = joinD d
  h49 : ∀ d, (Fam.Φ 49 d).toS = Lib.repeatL d.fst.toS d.snd.toI.toNat
variable [DOk1]
def nmX (x : X) : X := .u .fst (.ap 40 x)
def mdX (x : X) : X := .u .fst (.u .snd (.ap 40 x))
def szX (x : X) : X := .u .fst (.u .snd (.u .snd (.ap 40 x)))
def cyX (x : X) : X := .u .fst (.u .snd (.u .snd (.u .snd (.ap 40 x))))
def knX (x : X) : X := .u .snd (.u .snd (.u .snd (.u .snd (.ap 40 x))))
def sxA (x : X) : SV := .a (.ag [.z (.s (nmX x)), .z (.i .u8 (mdX x)), .z (.i .i64 (szX x)), .z (.i .i64 (cyX x))])
def sxB (x : X) : SV := .a (.ag [.z (.s (nmX x)), .z (.i .u8 (mdX x)), .z (.i .i64 (szX x)), .z (.i .i64 (cyX x)), .z (.b (knX x))])
def sxK (x : X) : SV := .z (.b (knX x))
/-- A function of a byte: what is said of a number, and of an expression. -/
def conOp (sp : Nat → SV) (sx : X → SV) : ConF := fun g args m => match args with
  | [.a (.s (.z (.i k x)))] => bif inK g .u8 k x then (match sgl g x with
    | .i n => some ([], sp n.toNat, m)
    | x => some ([], sx x, m)) else none
  | _ => none
theorem conOp_ok {f : FuncId} {sp : Nat → SV} {sx : X → SV} (hs : ∀ b e, (sp b).den e = (sp b).den (envOf [])) (hx : ∀ e x, (sx x).den e = (sp (x.I e).toNat).den (envOf []))
    (h : ∀ b : Nat, b < 256 → ∀ m, ACall Tryd.prog f [.int .u8 (b : Nat)] m fun w m2 => w = (sp b).den (envOf []) ∧ m2 = m) : Con Tryd.prog f (conOp sp sx) := by
  intro g args m ns v m' e hf hg hn
  unfold conOp at hf
  split at hf
  case h_2 => cases hf
  rename_i k x
  cases hk : inK g .u8 k x with
  | false => rw [hk] at hf; cases hf
  | true =>
    obtain ⟨rfl, h0, h1⟩ := inK_ok hg hk
    have h0 : 0 ≤ x.I e := h0
    have h1 : x.I e ≤ 255 := h1
    rw [hk] at hf
    have key := h (x.I e).toNat (by omega) (denM e m)
    have e1 : (((x.I e).toNat : Nat) : Int) = x.I e := by omega
    rw [e1] at key
    show ACall Tryd.prog f [.int .u8 (x.I e)] (denM e m) fun w m2 => w = v.den e ∧ m2 = denM e m'
    have hsg := sgl_I hg x
    simp only [cond_true] at hf
    split at hf
    · rename_i n hn'
      cases hf
      rw [hn'] at hsg
      have e2 : n = x.I e := hsg
      rw [e2, hs]
      exact key
    · rename_i x' hx'
      cases hf
      rw [hx, hsg]
      exact key
theorem conA : Con Tryd.prog 42 (conOp spA sxA) := conOp_ok (fun _ _ => rfl) (fun e x => by
  show Value.agg ⟨[.string ⟨⟨(Fam.Φ 40 (x.den e)).fst.toS⟩⟩, .int .u8 (Fam.Φ 40 (x.den e)).snd.fst.toI, .int .i64 (Fam.Φ 40 (x.den e)).snd.snd.fst.toI, .int .i64 (Fam.Φ 40 (x.den e)).snd.snd.snd.fst.toI]⟩ = _
  rw [DOk1.h40]; rfl) ofA
theorem conB : Con Tryd.prog 13 (conOp spB sxB) := conOp_ok (fun _ _ => rfl) (fun e x => by
  show Value.agg ⟨[.string ⟨⟨(Fam.Φ 40 (x.den e)).fst.toS⟩⟩, .int .u8 (Fam.Φ 40 (x.den e)).snd.fst.toI, .int .i64 (Fam.Φ 40 (x.den e)).snd.snd.fst.toI, .int .i64 (Fam.Φ 40 (x.den e)).snd.snd.snd.fst.toI, .bool (Fam.Φ 40 (x.den e)).snd.snd.snd.snd.toB]⟩ = _
  rw [DOk1.h40]; rfl) ofB
theorem conKn : Con Tryd.prog 43 (conOp spK sxK) := conOp_ok (fun _ _ => rfl) (fun e x => by
  show Value.bool (Fam.Φ 40 (x.den e)).snd.snd.snd.snd.toB = _
  rw [DOk1.h40]; rfl) ofK
theorem alt2 {n : FuncId} {f f' : ConF} (h : Con Tryd.prog n f) (h' : Con Tryd.prog n f') : Con Tryd.prog n (conAlt [f, f']) := Con.alt (all_cons' h (all_cons' h' all_nil'))
theorem conIBx : Con Tryd.prog 156 (conAlt [conP oIndexByte, conIxS 41]) := alt2 conIB (conIxS_ok DOk1.h41 fun s c W => Tryd.strings_IndexByte s c W)
theorem conJNx : Con Tryd.prog 57 (conJoinR 43) := conJoinR_ok DOk1.h43 Tryd.strings_Join_none Tryd.strings_Join
def CLd : List (FuncId × CallF) := [(156, conCall (conAlt [conP oIndexByte, conIxS 41])), (33, conCall (conP oIndex)), (97, conCall (conP oTrimRight)), (57, conCall (conJoinR 43)),
  (42, conCall (conOp spA sxA)), (13, conCall (conOp spB sxB)), (43, conCall (conOp spK sxK))]
theorem CLd_all {T' : Tab Tryd.prog} : ∀ p ∈ CLd, ConOk T' p.1 p.2 :=
  all_cons' conIBx.ok (all_cons' conIX.ok (all_cons' conTR.ok (all_cons' conJNx.ok (
  all_cons' conA.ok (all_cons' conB.ok (all_cons' conKn.ok all_nil'))
  ))))
end Go.Proofs.YtciemdpcllpdkaaDoor
