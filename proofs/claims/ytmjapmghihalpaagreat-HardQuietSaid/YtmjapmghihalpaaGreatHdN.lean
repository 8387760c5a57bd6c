/-
  The page made with feeds, of the program and of the document: made, or why not. Conditions: none.
-/
import Derived.Test.YtmjapmghihalpaaGreatHdJ
set_option linter.unusedSectionVars false
set_option linter.unusedVariables false
set_option linter.unusedSimpArgs false
namespace Go.Proofs.YtmjapmghihalpaaGreat.gen
open Go Go.AE Go.SX Go.RowKit
set_option maxRecDepth 1000000
variable [HF]
def mF : SMem := [some ⟨.by (.v 0), 0, false, false⟩, some ⟨.by (.v 1), 0, false, false⟩, some ⟨.by (.v 2), 0, false, false⟩, some ⟨.rw eK (.v 3), 0, false, false⟩]
def aF : List SV := [.a (.ag [slB 0 0, slB 1 1, slB 2 2]), .a (.s (slOf 3 3))]
def fsF : List Fact := [⟨.u .len (.v 0), ⟨some 0, some 9223372036854775807⟩⟩, ⟨.u .len (.v 1), ⟨some 0, some 9223372036854775807⟩⟩, ⟨.u .len (.v 2), ⟨some 0, some 9223372036854775807⟩⟩, ⟨.u .rlen (.v 3), ⟨some 0, some 9223372036854775807⟩⟩]
def longX : X := .o .or (.o .lt (.i 10000) (.u .len (.v 0))) (.o .or (.o .lt (.i 10000) (.u .len (.v 1))) (.o .lt (.i 10000) (.u .len (.v 2))))
def ap8 : X := .ap 8 (.v 3)
def rl3 : X := .u .rlen (.v 3)
def badX' : X := .o .or longX (.o .or (.o .lt (.i 1000) rl3) (.o .lt ap8 rl3))
def ckEr : X := .t .i (.o .lt (.i 1000) rl3) (.i 2) (.t .i (.o .lt ap8 rl3) (.t .i (.o .lt (lnX (.v 3) ap8) (.i 4)) (.i 7) (.i 8)) (.i 0))
def ckAt : X := .t .i (.o .lt (.i 1000) rl3) (.i 1000) (.t .i (.o .lt ap8 rl3) ap8 (.i 0))
def badV : SV := .tu [.s (.z .p0), .ag [.z (.i .i64 (.t .i longX (.i 2) ckEr)), .z (.i .i64 (.t .i longX (.i 0) ckAt))]]
def newX (p d e l : X) : X := packX [.i 0, .i 0, .i 0, .b false, .i 3072, .i 0, .b false, .i 0, .i 0, p, .i 0, d, .i 0, e, .i 0, l, .i 0, .b false, .i 0]
def newV : SV := .tu [.s (.z (.p 4 (.i 0) 0 0)), .ag [.z (.i .i64 (.i 0)), .z (.i .i64 (.i 0))]]
def loF (n : Nat) : Fact := ⟨.u .len (.v n), ⟨some 0, some 10000⟩⟩
def hiF (n : Nat) : Fact := ⟨.u .len (.v n), ⟨some 10001, some 9223372036854775807⟩⟩
def elF : Fact := ⟨.u .rlen (.v 3), ⟨some 0, some 1000⟩⟩
def ehF : Fact := ⟨.u .rlen (.v 3), ⟨some 1001, some 9223372036854775807⟩⟩
def fsN : List Fact := [loF 0, loF 1, loF 2, elF]
def lcNew1 (j : Nat) (xs : List X) : LC := ⟨4, aF, mF, fsN ++ fsF, xs, newV, mF ++ [some (obS j (newX (.v 2) (.v 0) (.v 1) (.v 3)))]⟩
/-- Made: nothing is too long, and no edge is wrong. -/
def lcNew (j : Nat) : LC := lcNew1 j [.u .not (.o .lt ap8 rl3)]
def lcBd (l : List Fact) (xs : List X) : LC := ⟨4, aF, mF, l ++ fsF, xs, badV, mF⟩
/-- Not made. -/
def lcBad : LC := lcBd [] [badX']
def badCs : List (List Fact × List X) := [([hiF 0], []), ([loF 0, hiF 1], []), ([loF 0, loF 1, hiF 2], []), ([loF 0, loF 1, loF 2, ehF], []), ([loF 0, loF 1, loF 2, elF], [.o .lt ap8 rl3])]
variable [HOk1] [HOk2] [HOk4]
def dnX (k : Int) : X := .u .not (upX (.v 3) (.i 0) (.i k))
def okA : List X := [.u .not (.o .lt ap8 rl3), .ap 7 (.v 3), dnX 0, dnX 1, dnX 2, dnX 3]
theorem dn_ok (k : Int) (e : En) : (dnX k).B e = true := by
  show (!(Fam.Φ 0 (.p (e.ρ 3) (.p (.i 0) (.i k)))).toB) = true
  rw [HOk1.h0]; rfl
theorem newA1 : (lcNew1 1 okA).Ok Tryz.prog 13 := nw_ok (cls := [(4, 1)]) rfl rfl (by kernel_rfl)
theorem newB1 : (lcNew1 2 okA).Ok Tryz.prog 14 := nw_ok (cls := [(4, 2)]) rfl rfl (by kernel_rfl)
theorem ap8_ok {ds : List D} (h : (X.u .not (.o .lt ap8 rl3)).B (envOf ds) = true) : (X.ap 7 (.v 3)).B (envOf ds) = true := by
  have h : (!decide ((Fam.Φ 8 ((envOf ds).ρ 3)).toI < ((((envOf ds).ρ 3).toR.length : Nat) : Int))) = true := h
  rw [HOk4.h8] at h
  show (Fam.Φ 7 ((envOf ds).ρ 3)).toB = true
  rw [HOk1.h7]
  generalize (envOf ds).ρ 3 = L at h ⊢
  rw [Bool.not_eq_true', decide_eq_false_iff_not] at h
  have h : ¬ ((badF L.toR L.toR.length 0 0 : Nat) : Int) < ((L.toR.length : Nat) : Int) := h
  show okL L.toR = true
  unfold okL
  refine List.all_eq_true.2 fun j hj => decide_eq_true ?_
  exact badF_ok L.toR.length 0 0 (by omega) (by omega) j (Nat.zero_le _) (List.mem_range.1 hj)
theorem new_conv {j : Nat} {f : FuncId} (h : (lcNew1 j okA).Ok Tryz.prog f) : (lcNew j).Ok Tryz.prog f :=
  h.conv rfl rfl rfl fun ds hl hf ha => ⟨hf, all_cons' (ha _ List.mem_cons_self) (all_cons' (ap8_ok (ha _ List.mem_cons_self)) (all_cons' (dn_ok 0 _) (all_cons' (dn_ok 1 _) (all_cons' (dn_ok 2 _) (all_cons' (dn_ok 3 _) all_nil'))))), rfl, rfl⟩
theorem newA : (lcNew 1).Ok Tryz.prog 13 := new_conv newA1
theorem newB : (lcNew 2).Ok Tryz.prog 14 := new_conv newB1
theorem bad_cases {f : FuncId} (h : ∀ p ∈ badCs, (lcBd p.1 p.2).Ok Tryz.prog f) : lcBad.Ok Tryz.prog f := by
  refine ⟨fun ds hl hf ha => ?_⟩
  have hb : (X.B (envOf ds) badX') = true := ha _ List.mem_cons_self
  have hb : ((decide (10000 < ((((envOf ds).ρ 0).toS.length : Nat) : Int)) || (decide (10000 < ((((envOf ds).ρ 1).toS.length : Nat) : Int)) || decide (10000 < ((((envOf ds).ρ 2).toS.length : Nat) : Int)))) || (decide (1000 < ((((envOf ds).ρ 3).toR.length : Nat) : Int)) || X.B (envOf ds) (.o .lt ap8 rl3))) = true := hb
  have g0 := (hf ⟨.u .len (.v 0), ⟨some 0, some 9223372036854775807⟩⟩ (by show _ ∈ fsF; simp [fsF])).2 _ rfl
  have g1 := (hf ⟨.u .len (.v 1), ⟨some 0, some 9223372036854775807⟩⟩ (by show _ ∈ fsF; simp [fsF])).2 _ rfl
  have g2 := (hf ⟨.u .len (.v 2), ⟨some 0, some 9223372036854775807⟩⟩ (by show _ ∈ fsF; simp [fsF])).2 _ rfl
  have g3 := (hf ⟨.u .rlen (.v 3), ⟨some 0, some 9223372036854775807⟩⟩ (by show _ ∈ fsF; simp [fsF])).2 _ rfl
  have g0 : ((((envOf ds).ρ 0).toS.length : Nat) : Int) ≤ 9223372036854775807 := g0
  have g1 : ((((envOf ds).ρ 1).toS.length : Nat) : Int) ≤ 9223372036854775807 := g1
  have g2 : ((((envOf ds).ρ 2).toS.length : Nat) : Int) ≤ 9223372036854775807 := g2
  have g3 : ((((envOf ds).ρ 3).toR.length : Nat) : Int) ≤ 9223372036854775807 := g3
  have use : ∀ p ∈ badCs, (∀ q ∈ p.1, q.r.has (q.e.I (envOf ds))) → (∀ x ∈ p.2, x.B (envOf ds) = true) → ACall Tryz.prog f (lcBad.args.map (SV.den (envOf ds))) (denM (envOf ds) lcBad.mem) fun w m2 => w = lcBad.val.den (envOf ds) ∧ m2 = denM (envOf ds) lcBad.out := fun p hp h1 h2 =>
    (h p hp).call ds hl (fun q hq => by
      rcases List.mem_append.1 hq with hq | hq
      · exact h1 q hq
      · exact hf q hq) h2
  have lo : ∀ n : Nat, ((((envOf ds).ρ n).toS.length : Nat) : Int) ≤ 10000 → (loF n).r.has ((loF n).e.I (envOf ds)) := fun n h => hasM (Int.natCast_nonneg _) h
  by_cases c0 : 10000 < ((((envOf ds).ρ 0).toS.length : Nat) : Int)
  · exact use ([hiF 0], []) (by simp [badCs]) (all_cons' (hasM (by show (10001 : Int) ≤ ((((envOf ds).ρ 0).toS.length : Nat) : Int); omega) g0) all_nil') all_nil'
  by_cases c1 : 10000 < ((((envOf ds).ρ 1).toS.length : Nat) : Int)
  · exact use ([loF 0, hiF 1], []) (by simp [badCs]) (all_cons' (lo 0 (by omega)) (all_cons' (hasM (by show (10001 : Int) ≤ ((((envOf ds).ρ 1).toS.length : Nat) : Int); omega) g1) all_nil')) all_nil'
  by_cases c2 : 10000 < ((((envOf ds).ρ 2).toS.length : Nat) : Int)
  · exact use ([loF 0, loF 1, hiF 2], []) (by simp [badCs]) (all_cons' (lo 0 (by omega)) (all_cons' (lo 1 (by omega)) (all_cons' (hasM (by show (10001 : Int) ≤ ((((envOf ds).ρ 2).toS.length : Nat) : Int); omega) g2) all_nil'))) all_nil'
  by_cases c3 : 1000 < ((((envOf ds).ρ 3).toR.length : Nat) : Int)
  · exact use ([loF 0, loF 1, loF 2, ehF], []) (by simp [badCs]) (all_cons' (lo 0 (by omega)) (all_cons' (lo 1 (by omega)) (all_cons' (lo 2 (by omega)) (all_cons' (hasM (by show (1001 : Int) ≤ ((((envOf ds).ρ 3).toR.length : Nat) : Int); omega) g3) all_nil')))) all_nil'
  rw [decide_eq_false c0, decide_eq_false c1, decide_eq_false c2, decide_eq_false c3] at hb
  simp only [Bool.false_or] at hb
  exact use ([loF 0, loF 1, loF 2, elF], [.o .lt ap8 rl3]) (by simp [badCs]) (all_cons' (lo 0 (by omega)) (all_cons' (lo 1 (by omega)) (all_cons' (lo 2 (by omega)) (all_cons' (hasM (Int.natCast_nonneg _) (by show ((((envOf ds).ρ 3).toR.length : Nat) : Int) ≤ 1000; omega)) all_nil')))) (all_cons' hb all_nil')
theorem badA : lcBad.Ok Tryz.prog 13 := bad_cases (all_cons' (nw_ok (cls := []) rfl rfl (by kernel_rfl)) (all_cons' (nw_ok (cls := []) rfl rfl (by kernel_rfl)) (all_cons' (nw_ok (cls := []) rfl rfl (by kernel_rfl)) (all_cons' (nw_ok (cls := []) rfl rfl (by kernel_rfl)) (all_cons' (nw_ok (cls := []) rfl rfl (by kernel_rfl)) all_nil')))))
theorem badB : lcBad.Ok Tryz.prog 14 := bad_cases (all_cons' (nw_ok (cls := []) rfl rfl (by kernel_rfl)) (all_cons' (nw_ok (cls := []) rfl rfl (by kernel_rfl)) (all_cons' (nw_ok (cls := []) rfl rfl (by kernel_rfl)) (all_cons' (nw_ok (cls := []) rfl rfl (by kernel_rfl)) (all_cons' (nw_ok (cls := []) rfl rfl (by kernel_rfl)) all_nil')))))
end Go.Proofs.YtmjapmghihalpaaGreat.gen
