/-
  A bus over a page made of nothing. Conditions: none.
-/
import Derived.Test.YtnibdhcfkjmnaaaGreatNil
set_option linter.unusedSectionVars false
set_option linter.unusedVariables false
set_option linter.unusedSimpArgs false
namespace Go.Proofs.YtnibdhcfkjmnaaaGreat
open Go Go.AE Go.SX Go.RowKit
set_option maxRecDepth 1000000
variable [HF] [HOk1] [HOk2] [HOk3] [ROk] [BOk]
def rom0 (w : Bool) : Option SBlk := some ⟨.by (.v 0), bif w then 5 else 0, w, false⟩
def bud1 : X := iI (.o .lt (.v 1) (.i 0)) (.i 0) (iI (.o .lt (.i maxB) (.v 1)) (.i maxB) (.v 1))
def busN : X := packX [.i 0, .b false, .b false, .b false, .v 0, zerosX, newX0 .nil, bud1, .b false, .nil, .i 0]
def fsBN : List Fact := [⟨.v 1, ⟨some (-9223372036854775808), some 9223372036854775807⟩⟩, ⟨.u .len (.v 0), ⟨some 0, some 140737488351232⟩⟩]
def lcBusN (w : Bool) (k j : Nat) (o : Option SBlk) : LC := ⟨2, [.z (.sl 1 (.i 0) 0 0 (.u .len (.v 0)) (.u .len (.v 0))), p0, .z (.i .i64 (.v 1))], [some (obS k (newX0 .nil)), rom0 w], fsBN, [], .z (.p 2 (.i 0) 0 0), [none, o, some (obS j busN)]⟩
def nES : List X := [newX0 .nil, .v 0, .v 1]
theorem prN_0 (e : En) (i : Nat) (h : (i = 18 ∨ i = 10) ∨ (i = 12 ∨ i = 14)) : ((prX (.v 0) i).den (envOf (nES.map (X.den e)))).toI = 0 := by
  rcases h with (rfl | rfl) | (rfl | rfl) <;> rfl
theorem busN_of {w : Bool} {k j : Nat} {f : FuncId} {o o' : Option SBlk} (ho : ∀ a b : D, o.map (SBlk.den (envOf (nES.map (X.den (envOf [a, b]))))) = o'.map (SBlk.den (envOf [a, b]))) (h : (lcBusNew w k j o).Ok Tryz.prog f) : (lcBusN w k j o').Ok Tryz.prog f := by
  refine h.inst (es := nES) rfl fun ds hl hf ha => ?_
  obtain ⟨a, b, rfl⟩ := len2 hl
  obtain ⟨r1, r2⟩ := hf _ List.mem_cons_self
  obtain ⟨q1, q2⟩ := hf _ (List.mem_cons_of_mem _ List.mem_cons_self)
  refine ⟨all_cons' ⟨r1, r2⟩ (all_cons' ⟨q1, q2⟩ (all_cons' ?_ (all_cons' ?_ (all_cons' ?_ (all_cons' ?_ all_nil'))))), fun x hx => (by cases hx), rfl, rfl, rfl, ?_⟩
  · show (Rg.mk (some 0) (some 0)).has ((prX (.v 0) 18).den _).toI
    rw [prN_0 _ _ (.inl (.inl rfl))]; exact hasM (Int.le_refl _) (Int.le_refl _)
  · show (Rg.mk none (some 0)).has ((prX (.v 0) 10).den _).toI
    rw [prN_0 _ _ (.inl (.inr rfl))]; exact ⟨fun _ h => (by cases h), fun y hy => by cases hy; exact Int.le_refl _⟩
  · show (Rg.mk none (some 0)).has ((prX (.v 0) 12).den _).toI
    rw [prN_0 _ _ (.inr (.inl rfl))]; exact ⟨fun _ h => (by cases h), fun y hy => by cases hy; exact Int.le_refl _⟩
  · show (Rg.mk none (some 0)).has ((prX (.v 0) 14).den _).toI
    rw [prN_0 _ _ (.inr (.inr rfl))]; exact ⟨fun _ h => (by cases h), fun y hy => by cases hy; exact Int.le_refl _⟩
  · exact congrArg (fun x => [none, x, some ((obS j busN).den (envOf [a, b]))]) (ho a b)
theorem busNA : (lcBusN false 1 4 (rom0 false)).Ok Tryz.prog 11 := busN_of (fun _ _ => rfl) busNewA
/-! No image at all. -/
/-- A function that needs nothing and says yes, by some contracts. -/
theorem yesC {n : FuncId} {C : FuncId → Option CallF} (hC : ∀ n c, C n = some c → ConOk TI n c) (hfn : TI.fn n = true) (h : evT (envOf []) (.z (.b (.b true))) (treeOf TI W0 C 300 20 n (gI 0 []) [] []) = true) : Con Tryz.prog n cYes := by
  intro g args m ns v m' e hf hg hn
  unfold cYes at hf
  split at hf
  · cases hf
    exact ACall.of_fin (e := envOf []) hC hfn (gI_ok fun p hp => by cases hp) rfl h (denM e m)
  · cases hf
def consR : List (FuncId × List LC) := [(83, [ramRd]), (87, [ramWr8, ramWr]), (59, [ramNw])]
noncomputable def CR : FuncId → Option CallF := conLC 12 TI consR
theorem CR_ok : ∀ n c, CR n = some c → ConOk TI n c := conLC_ok (all_cons' (all_cons' ⟨rfl, ramRd_ok⟩ all_nil') (all_cons' (all_cons' ⟨rfl, ramWr8_ok⟩ (all_cons' ⟨rfl, ramWr_ok⟩ all_nil')) (all_cons' (all_cons' ⟨rfl, ramNw_ok⟩ all_nil') all_nil')))
end Go.Proofs.YtnibdhcfkjmnaaaGreat
