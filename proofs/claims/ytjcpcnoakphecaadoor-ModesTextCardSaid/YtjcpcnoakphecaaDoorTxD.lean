/-
  An instruction written, by one contract for both. Conditions: none.
-/
import Derived.Test.YtjcpcnoakphecaaDoorTxC
import Derived.Test.YtjcpcnoakphecaaDoorTxB0
import Derived.Test.YtjcpcnoakphecaaDoorTxB1
import Derived.Test.YtjcpcnoakphecaaDoorTxB2
import Derived.Test.YtjcpcnoakphecaaDoorTxB3
set_option linter.unusedSectionVars false
set_option linter.unusedVariables false
set_option linter.unusedSimpArgs false
namespace Go.Proofs.YtjcpcnoakphecaaDoor
open Go Go.AE Go.SX Go.RowKit
set_option maxRecDepth 1000000
noncomputable section
theorem casesX {c : LC} {f : FuncId} {l : List (List Fact × List X)} (h : ∀ q ∈ l, (LC.mk c.n c.args c.mem (q.1 ++ c.fs) (q.2 ++ c.as) c.val c.out).Ok Tryd.prog f)
    (hc : ∀ ds : List D, ds.length = c.n → (∀ f ∈ c.fs, f.r.has (f.e.I (envOf ds))) → (∀ x ∈ c.as, x.B (envOf ds) = true) → ∃ q ∈ l, (∀ f ∈ q.1, f.r.has (f.e.I (envOf ds))) ∧ ∀ x ∈ q.2, x.B (envOf ds) = true) : c.Ok Tryd.prog f := by
  refine ⟨fun ds hl hfs has => ?_⟩
  obtain ⟨q, hm, hf, hx⟩ := hc ds hl hfs has
  exact (h q hm).call ds hl (fun f hfm => by
    rcases List.mem_append.1 hfm with h1 | h1
    · exact hf f h1
    · exact hfs f h1) (fun x hxm => by
    rcases List.mem_append.1 hxm with h1 | h1
    · exact hx x h1
    · exact has x h1)
def xs1 : List X := [.u .not (knX (pB 0))]
def xs2 : List X := [knX (pB 0), .o .lt lenR szB]
def ltB : X := .o .lt (.v 1) lenB
theorem byA1 : (lcTa fsT (xs1 ++ [ltB]) byX (.i 1)).Ok Tryd.prog 88 := LC.Ok.of_treeF (L := noJ) (lem := noX) (T := T) (W := W0) (n := 12) (cf := 300) (d := 20) (opn := []) (cls := []) (fun _ _ _ h => by cases h) (fun _ _ h => by cases h) CM_ok noT_ok rfl rfl (by kernel_rfl)
theorem byA2 : (lcTa fsT (xs2 ++ [ltB]) byX (.i 1)).Ok Tryd.prog 88 := LC.Ok.of_treeF (L := noJ) (lem := noX) (T := T) (W := W0) (n := 12) (cf := 300) (d := 20) (opn := []) (cls := []) (fun _ _ _ h => by cases h) (fun _ _ h => by cases h) CM_ok noT_ok rfl rfl (by kernel_rfl)
theorem byB1 : (lcTa fsT (xs1 ++ [ltB]) byX (.i 1)).Ok Tryd.prog 34 := LC.Ok.of_treeF (L := noJ) (lem := noX) (T := T) (W := W0) (n := 12) (cf := 300) (d := 20) (opn := []) (cls := []) (fun _ _ _ h => by cases h) (fun _ _ h => by cases h) CM_ok noT_ok rfl rfl (by kernel_rfl)
theorem byB2 : (lcTa fsT (xs2 ++ [ltB]) byX (.i 1)).Ok Tryd.prog 34 := LC.Ok.of_treeF (L := noJ) (lem := noX) (T := T) (W := W0) (n := 12) (cf := 300) (d := 20) (opn := []) (cls := []) (fun _ _ _ h => by cases h) (fun _ _ h => by cases h) CM_ok noT_ok rfl rfl (by kernel_rfl)
theorem notB {x : X} {e : En} (h : (X.u .not x).B e = true) : x.B e = false := by
  have h : (!x.B e) = true := h
  rwa [Bool.not_eq_true'] at h
theorem lenR_I (e : En) (h0 : 0 ≤ (e.ρ 1).toI) (h1 : (e.ρ 1).toI < (((e.ρ 0).toS.length : Nat) : Int)) : lenR.I e = ((tlM e).length : Nat) := by
  show (e.ρ 1).toI * (-1) + (((e.ρ 0).toS.length : Nat) : Int) = _
  unfold tlM
  rw [List.length_drop]; omega
theorem un1 (e : En) (h0 : 0 ≤ (e.ρ 1).toI) (h1 : (e.ρ 1).toI < (((e.ρ 0).toS.length : Nat) : Int)) (h : ∀ x ∈ xs1, x.B e = true) : gdF (tlM e) = false := by
  have hk := notB (h _ (.head _))
  rw [kn_B e h0] at hk
  unfold gdF
  rw [hk]; rfl
theorem un2 (e : En) (h0 : 0 ≤ (e.ρ 1).toI) (h1 : (e.ρ 1).toI < (((e.ρ 0).toS.length : Nat) : Int)) (h : ∀ x ∈ xs2, x.B e = true) : gdF (tlM e) = false := by
  have hs := lt_outM (h _ (.tail _ (.head _)))
  rw [lenR_I e h0 h1, sz_I e h0] at hs
  unfold gdF
  cases hb : Nat.ble (rcF (tlM e)).size (tlM e).length with
  | false => simp
  | true =>
    have := Nat.le_of_ble_eq_true hb
    omega
theorem op_len : ∀ b : Nat, b < 256 → (opR b).name.length ≤ 4 := by decide +kernel
theorem op_sz : ∀ b : Nat, b < 256 → (opR b).known = true → (((opR b).size : Nat) : Int) = szM (opR b).mode := by decide +kernel
theorem by_lt (e : En) : ((pB 0).I e).toNat < 256 := by
  have := ((e.ρ 0).toS.getD (e.ρ 1).toI.toNat 0).toNat_lt
  show ((((e.ρ 0).toS.getD (e.ρ 1).toI.toNat 0).toNat : Nat) : Int).toNat < 256
  omega
theorem nmAx_ok (e : En) : nmAx.B e = true := by
  have := op_len _ (by_lt e)
  show (!decide ((4 : Int) < (((opR ((pB 0).I e).toNat).name.length : Nat) : Int))) = true
  rw [decide_eq_false (by omega)]; rfl
theorem md_conv {m : Nat} {f : FuncId} {tx n : X} (hm : m < 20) (h : (lcTx m tx n).Ok Tryd.prog f) (ht : ∀ e : En, MdG e m → tx.S e = txtF (tlM e) (e.ρ 2).toI) (hn : ∀ e : En, MdG e m → n.I e = txtN (tlM e)) : (lcTa (mdFs m ++ fsT) ([knX (pB 0)] ++ [ltB]) (.u .fst tx0) (.u .snd tx0)).Ok Tryd.prog f :=
  h.conv rfl rfl rfl fun ds hl hf ha => by
    have h0 : 0 ≤ ((envOf ds).ρ 1).toI := (hf _ (List.mem_append.2 (.inr (.tail _ (.tail _ (.head _)))))).1 _ rfl
    have h1 : ((envOf ds).ρ 1).toI < ((((envOf ds).ρ 0).toS.length : Nat) : Int) := lt_outM (ha _ (.tail _ (.head _)))
    have g1 := hf _ (List.mem_append.2 (.inl (.head _)))
    have g2 := hf _ (List.mem_append.2 (.inl (.tail _ (.head _))))
    have g3 := hf _ (List.mem_append.2 (.inl (.tail _ (.tail _ (.head _)))))
    have e1 : (m : Int) ≤ (mdX (pB 0)).I (envOf ds) := g1.1 _ rfl
    have e2 : (mdX (pB 0)).I (envOf ds) ≤ (m : Int) := g1.2 _ rfl
    have e3 : szM m ≤ szB.I (envOf ds) := g2.1 _ rfl
    have e4 : szB.I (envOf ds) ≤ szM m := g2.2 _ rfl
    have e5 : szM m ≤ lenR.I (envOf ds) := g3.1 _ rfl
    rw [md_I _ h0] at e1 e2
    rw [lenR_I _ h0 h1] at e5
    have hg : MdG (envOf ds) m := ⟨h0, by omega, by omega, e5, by rw [← kn_B _ h0]; exact ha _ (.head _)⟩
    refine ⟨fun q hq => ?_, all_cons' (P := fun x : X => x.B (envOf ds) = true) (ha _ (.head _)) (all_cons' (P := fun x : X => x.B (envOf ds) = true) (nmAx_ok _) (all_cons' (P := fun x : X => x.B (envOf ds) = true) (ha _ (.tail _ (.head _))) all_nil')), ?_, rfl⟩
    · rcases List.mem_append.1 hq with h | h
      · exact hf q (List.mem_append.2 (.inl h))
      · exact hf q (List.mem_append.2 (.inr (.tail _ h)))
    · show Value.tuple ⟨[.string ⟨⟨tx.S (envOf ds)⟩⟩, .int .i64 (n.I (envOf ds))]⟩ = Value.tuple ⟨[.string ⟨⟨txtF (tlM (envOf ds)) ((envOf ds).ρ 2).toI⟩⟩, .int .i64 (txtN (tlM (envOf ds)))]⟩
      rw [ht _ hg, hn _ hg]
def csT : List (List Fact × List X) := ([], xs1) :: ([], xs2) :: (List.range 20).map fun m => (mdFs m, [knX (pB 0)])
theorem csT_ok (e : En) (h0 : 0 ≤ (e.ρ 1).toI) (h1 : (e.ρ 1).toI < (((e.ρ 0).toS.length : Nat) : Int)) (h2 : lenR.I e ≤ 500000) : ∃ q ∈ csT, (∀ f ∈ q.1, f.r.has (f.e.I e)) ∧ ∀ x ∈ q.2, x.B e = true := by
  cases hk : (knX (pB 0)).B e with
  | false => exact ⟨_, .head _, (fun f h => by cases h), all_cons' (P := fun x : X => x.B e = true) (by show (!(knX (pB 0)).B e) = true; rw [hk]; rfl) all_nil'⟩
  | true =>
    by_cases hs : lenR.I e < szB.I e
    · exact ⟨_, .tail _ (.head _), (fun f h => by cases h), all_cons' (P := fun x : X => x.B e = true) hk (all_cons' (P := fun x : X => x.B e = true) (decide_eq_true hs) all_nil')⟩
    · have hz : szB.I e = szM (rcF (tlM e)).mode := by
        have hb := by_lt e
        have hk2 := hk
        rw [kn_B e h0] at hk2
        rw [sz_I e h0]
        have hb2 : ((tlM e).getD 0 0).toNat < 256 := ((tlM e).getD 0 0).toNat_lt
        exact op_sz _ hb2 hk2
      have hm : (rcF (tlM e)).mode < 20 := by
        have := op_rg ((tlM e).getD 0 0).toNat
        unfold rcF; omega
      refine ⟨(mdFs (rcF (tlM e)).mode, [knX (pB 0)]), .tail _ (.tail _ (List.mem_map.2 ⟨_, List.mem_range.2 hm, rfl⟩)), ?_, all_cons' (P := fun x : X => x.B e = true) hk all_nil'⟩
      have k1 := md_I e h0
      exact all_cons' (P := fun f : Fact => f.r.has (f.e.I e)) (hasM (by rw [k1]; exact Int.le_refl _) (by rw [k1]; exact Int.le_refl _)) (all_cons' (P := fun f : Fact => f.r.has (f.e.I e)) (hasM (by rw [hz]; exact Int.le_refl _) (by rw [hz]; exact Int.le_refl _)) (all_cons' (P := fun f : Fact => f.r.has (f.e.I e)) (hasM (by show szM _ ≤ lenR.I e; omega) h2) all_nil'))
theorem tz_all {f : FuncId} (h1 : (lcTa fsT (xs1 ++ [ltB]) byX (.i 1)).Ok Tryd.prog f) (h2 : (lcTa fsT (xs2 ++ [ltB]) byX (.i 1)).Ok Tryd.prog f) (hm : ∀ m, m < 20 → (lcTa (mdFs m ++ fsT) ([knX (pB 0)] ++ [ltB]) (.u .fst tx0) (.u .snd tx0)).Ok Tryd.prog f) : lcTz.Ok Tryd.prog f := by
  refine casesX (l := csT) (fun q hq => ?_) fun ds hl hf ha => csT_ok _ ((hf _ (.tail _ (.tail _ (.head _)))).1 _ rfl) (lt_outM (ha _ (.head _))) ((hf _ (.head _)).2 _ rfl)
  rcases List.mem_cons.1 hq with rfl | hq
  · exact tz_by h1 un1
  rcases List.mem_cons.1 hq with rfl | hq
  · exact tz_by h2 un2
  obtain ⟨m, hmr, rfl⟩ := List.mem_map.1 hq
  exact hm m (List.mem_range.1 hmr)
theorem tz_a : lcTz.Ok Tryd.prog 88 := tz_all byA1 byA2 fun m hm => md_conv (m := m) (tx := txP m) (n := szB) hm (by
  match m, hm with
  | 0, _ => exact txA0
  | 1, _ => exact txA1
  | 2, _ => exact txA2
  | 3, _ => exact txA3
  | 4, _ => exact txA4
  | 5, _ => exact txA5
  | 6, _ => exact txA6
  | 7, _ => exact txA7
  | 8, _ => exact txA8
  | 9, _ => exact txA9
  | 10, _ => exact txA10
  | 11, _ => exact txA11
  | 12, _ => exact txA12
  | 13, _ => exact txA13
  | 14, _ => exact txA14
  | 15, _ => exact txA15
  | 16, _ => exact txA16
  | 17, _ => exact txA17
  | 18, _ => exact txA18
  | 19, _ => exact txA19
  | _ + 20, h => exact absurd h (by omega)) (fun e h => txP_S e m h hm) (fun e h => (txt_of h).2.symm)
theorem tz_b : lcTz.Ok Tryd.prog 34 := tz_all byB1 byB2 fun m hm => md_conv (m := m) (tx := txQ m) (n := (nQ m)) hm (by
  match m, hm with
  | 0, _ => exact txB0
  | 1, _ => exact txB1
  | 2, _ => exact txB2
  | 3, _ => exact txB3
  | 4, _ => exact txB4
  | 5, _ => exact txB5
  | 6, _ => exact txB6
  | 7, _ => exact txB7
  | 8, _ => exact txB8
  | 9, _ => exact txB9
  | 10, _ => exact txB10
  | 11, _ => exact txB11
  | 12, _ => exact txB12
  | 13, _ => exact txB13
  | 14, _ => exact txB14
  | 15, _ => exact txB15
  | 16, _ => exact txB16
  | 17, _ => exact txB17
  | 18, _ => exact txB18
  | 19, _ => exact txB19
  | _ + 20, h => exact absurd h (by omega)) (fun e h => txQ_S e m h hm) (fun e h => nQ_I e _ h)
end
end Go.Proofs.YtjcpcnoakphecaaDoor
