/-
  The law TimingLists: for every byte and all facts the call returns true and its arguments read as before; the tied card. Conditions: those of the row's own cells (the two tables laid).
-/
import Derived.Test.YtfohjnfdgegfcaaDoorTimOpen
import Derived.Test.YtfohjnfdgegfcaaDoorTimLive
import Derived.Test.YtfohjnfdgegfcaaDoorLaid
import Derived.Test.YtfohjnfdgegfcaaDoorTie
import Derived.Test.YtfohjnfdgegfcaaDoorCards
import Derived.SevenTiedAt
namespace Go.Proofs.YtfohjnfdgegfcaaDoor.lists
open Go Go.Shelf Go.ChangeShapes Go.WideShapes Go.ChangeAt Go.RowKit Go.Lib
set_option maxRecDepth 100000

theorem walk (a0 : Int) (t d k : Bool) (n : Int) (w0 : (Lit.int .u8 a0).wf = true) (w : World) (hg : Go.AE.Good w fun _ => False) :
    Calls Tryd.prog 5 #[.int .u8 a0, .agg ⟨[.bool t, .bool d, .bool k, .int .i64 n]⟩] w fun e w' => e = .returned (.bool true) ∧ Below w.heap.size w w' := by
  obtain ⟨b, hb, rfl⟩ := u8_wf w0
  obtain ⟨nm, md, z, c, kn, x, h20, h52, h26, hx, hB⟩ := words b hb t d k n
  have hs : x.length < 2 ^ 40 := by have := hx.most; omega
  exact met (f5 b md z c t d k kn n nm x _ (fun h1 h2 => by rw [hB h2, blkW_len]; omega) h20 live (f22' b t d k n x hx.ne hs hx.letters h52) (f23' b t d k n x h52) (f24 x hs) (kinds_lift hx.ne (f25 x hs hx.letters)) h26) rfl rfl hg

theorem witness_row (os : Os) {H : Type} (enc : TypeId × Value → H) :
    (OpenSpec.ofChange Rows.timingListsSpec).preRow enc Tryd.prog Tryd.f5 Rows.timingListsRow.domain false Rows.timingListsRow.laid ((laidWorld os).forCall (fun _ _ => 0) ⟨#[], #[.int .u8 0, .agg #[.bool false, .bool false, .bool false, .int .i64 0]], []⟩).memory #[.int .u8 0, .agg #[.bool false, .bool false, .bool false, .int .i64 0]] := by
  have hw : (DataW.whole enc Tryd.prog ((laidWorld os).forCall (fun _ _ => 0) ⟨#[], #[.int .u8 0, .agg #[.bool false, .bool false, .bool false, .int .i64 0]], []⟩).memory Tryd.f5.params.toList (OpenSpec.ofChange Rows.timingListsSpec).vars false #[Value.int .u8 0, Value.agg #[.bool false, .bool false, .bool false, .int .i64 0]].toList 8).map (fun x => (x.1, x.2.1)) =
      some ([.lit (.int .u8 0), .agg [.lit (.bool false), .lit (.bool false), .lit (.bool false), .lit (.int .i64 0)]], []) := by kernel_rfl
  obtain ⟨⟨x1, x2, x3⟩, hx, hx1⟩ := Option.map_eq_some_iff.1 hw
  simp only [Prod.mk.injEq] at hx1
  obtain ⟨rfl, rfl⟩ := hx1
  exact OpenSpec.preRow_of_cond 8 hx (by kernel_rfl) (fun k hk => by cases hk) (by kernel_rfl) (laid_met os _)

set_option maxHeartbeats 2000000 in
theorem lifted (os : Os) (started : os.Started) (H : Type) (enc : TypeId × Value → H) (F : Stop.Interp) :
    ReturnsInHanded {} Tryd.checked os 5 .any ((OpenSpec.ofChange Rows.timingListsSpec).preRow enc Tryd.prog Tryd.f5 Rows.timingListsRow.domain false Rows.timingListsRow.laid) (((OpenSpec.ofChange Rows.timingListsSpec).at F).post enc Tryd.prog Tryd.f5 false true false false) := by
  refine returnsInHanded_of_row (C := Tryd.checked) (s := OpenSpec.ofChange Rows.timingListsSpec) own started (by kernel_rfl) Tryd.func5
    (witness_row_atRef (enc := enc) (C := Tryd.checked) false (laidWorld os) #[.int .u8 0, .agg #[.bool false, .bool false, .bool false, .int .i64 0]] rfl (by kernel_rfl) (by kernel_rfl) (by kernel_rfl) (witness_row os enc)) ?_
  intro W base args ds gs before hval0 hW _ _ _ _ hsh _
  have hval : ∀ (j : Nat) t v, Tryd.f5.params[j]? = some t → args[j]? = some v → Value.okWide Tryd.prog W .any base t v := hval0
  have hW' := hW
  obtain ⟨p, q, hA0, hV, rfl, hfz, hnd⟩ := hW
  have hA : DataW.TrodAll enc Tryd.prog W 0 (fun _ => true) true Tryd.f5.params.toList args.toList ds p := hA0
  rw [Tryd.params5] at hA hval
  obtain ⟨v0, vs0, d0, ds0, p0, q0, hargs, rfl, rfl, h0, r0⟩ := trodAll_cons hA
  obtain ⟨v1, vs1, d1, ds1, p1, q1, rfl, rfl, rfl, h1, r1⟩ := trodAll_cons r0
  obtain ⟨rfl, rfl, rfl⟩ := trodAll_nil r1
  obtain rfl : args = #[v0, v1] := by cases args; simp_all
  obtain ⟨rfl, rfl⟩ := trodVars_none hV
  obtain ⟨a0, rfl, rfl, rfl, w0⟩ := open_int Tryd.underlying5 (hval 0 5 v0 rfl rfl) h0
  obtain ⟨t, d, k, n, rfl⟩ := facts_open (hval 1 35 v1 rfl rfl) h1
  clear hA0 hval0
  have hlt : ∀ x ∈ p1, x.block < W.heap.size := fun x hx => hW'.lt x (by simp [hx])
  simp only [List.append_nil] at hW'
  refine (walk a0 t d k n w0 W (good_of_shape hsh)).mono fun e W' ⟨he, bel⟩ => ?_
  subst he
  refine ⟨_, rfl, _, _, _, [], [] ++ (p1 ++ []), [], hW', ?_, ?_, ?_, bel.frame _, fun h => by cases h⟩
  · exact trodAll_cons_mk (shut_bool Tryd.underlying4 true) trodAll_mk0
  · exact trodAll_cons_mk (shut_int Tryd.underlying5 w0) (trodAll_cons_mk (Below.trod laidB (by kernel_rfl) (of_decide_eq_true (by kernel_rfl)) h1 bel hlt) trodAll_mk0)
  · rfl

theorem over : Rows.TimingListsSaid :=
  OpenClaim.holds_of_cond 5 Tryd.f5 rfl rfl rfl rfl rfl rfl rfl ⟨rfl, rfl, rfl, rfl, rfl⟩ rfl rfl rfl rfl rfl (by kernel_rfl) Tryd.func5 (by kernel_rfl)
    (of_decide_eq_true (by kernel_rfl)) (by unfold Func.isWrapper; first | (rw [if_pos (by decide +kernel)]; kernel_rfl) | (rw [if_neg (by decide +kernel)]; exact ⟨rfl, rfl⟩))
    (fun os started H enc _ F0 => by rw [OpenClaim.pre_eq_preRow]; exact lifted os started H enc F0)

theorem card_holds : Rows.TimingListsCardSaid :=
  Claim7.holds_tied_plain_at .later [] [.data, .pinned] true (true, "881133d6d16515624d535ab7bd4624a4501de260d312577857deca64af231a78") false
    over (fun _ h => by cases h) (by kernel_rfl) (fun _ h => by cases h) timingLists_row_tie rfl ⟨rfl, rfl⟩ (by kernel_rfl) rfl
    (fun f fn hf hfn => by
      obtain rfl : f = 5 := Option.some.inj ((show Tryd.prog.funcNamed "gannet/gannetlaw29.TimingLists" = some 5 by kernel_rfl).symm.trans hf) |>.symm
      obtain rfl : fn = Tryd.f5 := (Option.some.inj (Tryd.func5.symm.trans hfn)).symm
      exact ⟨by kernel_rfl, fun j t ht => by
        rw [Tryd.params5] at ht
        rcases j with _ | _ | j
        · obtain rfl : (5 : TypeId) = t := by simpa using ht
          exact (show Tryd.prog.wantsStandIn 5 = false by kernel_rfl)
        · obtain rfl : (35 : TypeId) = t := by simpa using ht
          exact (show Tryd.prog.wantsStandIn 35 = false by kernel_rfl)
        · simp at ht⟩)
    (by kernel_rfl)
end Go.Proofs.YtfohjnfdgegfcaaDoor.lists
