/-
  An instruction written: both values are the text in plain words. Conditions: none.
-/
import Derived.Test.YtjcpcnoakphecaaDoorTxA
set_option linter.unusedSectionVars false
set_option linter.unusedVariables false
set_option linter.unusedSimpArgs false
namespace Go.Proofs.YtjcpcnoakphecaaDoor
open Go Go.AE Go.SX Go.RowKit
set_option maxRecDepth 1000000
def tlM (e : En) : List UInt8 := (e.ρ 0).toS.drop (e.ρ 1).toI.toNat
theorem pB_I (e : En) (h : 0 ≤ (e.ρ 1).toI) : ∀ k : Nat, (pB k).I e = gbb (tlM e) k := by
  intro k
  have h0 : ∀ m : Nat, (((e.ρ 0).toS.getD ((e.ρ 1).toI.toNat + m) 0).toNat : Int) = gbb (tlM e) m := by
    intro m
    unfold gbb tlM
    simp [List.getD_eq_getElem?_getD, List.getElem?_drop]
  cases k with
  | zero => exact h0 0
  | succ k =>
    rw [← h0 (k + 1)]
    show (((e.ρ 0).toS.getD ((e.ρ 1).toI + ((k + 1 : Nat) : Int)).toNat 0).toNat : Int) = _
    rw [show ((e.ρ 1).toI + ((k + 1 : Nat) : Int)).toNat = (e.ρ 1).toI.toNat + (k + 1) from by omega]
theorem cX_S (e : En) (a b : X) : (cX a b).S e = a.S e ++ b.S e := rfl
theorem sX_S (e : En) (l : List UInt8) : (X.s l).S e = l := rfl
theorem D2_S (e : En) (x : X) : (D2 x).S e = h2 (x.I e) := rfl
theorem D4_S (e : En) (x : X) : (D4 x).S e = h4 (x.I e) := rfl
theorem wX_I (e : En) (h : 0 ≤ (e.ρ 1).toI) (k : Nat) : (wX k).I e = wdF (tlM e) k := by
  unfold wdF
  rw [← pB_I e h k, ← pB_I e h (k + 1)]; rfl
theorem gbb_rg (l : List UInt8) (k : Nat) : 0 ≤ gbb l k ∧ gbb l k ≤ 255 := by
  have := (l.getD k 0).toNat_lt
  unfold gbb; omega
theorem i8_of {n : Int} (h0 : 0 ≤ n) (h1 : n ≤ 255) : IntKind.i8.wrap n = if 127 < n then n - 256 else n := by
  simp [IntKind.wrap, IntKind.bits, IntKind.signed]
  split <;> split <;> omega
structure MdG (e : En) (m : Nat) : Prop where
  off : 0 ≤ (e.ρ 1).toI
  md : (rcF (tlM e)).mode = m
  sz : szB.I e = szM m
  len : szM m ≤ ((tlM e).length : Nat)
  kn : (rcF (tlM e)).known = true
theorem sz_I (e : En) (h : 0 ≤ (e.ρ 1).toI) : szB.I e = ((rcF (tlM e)).size : Nat) := by
  show (((opR ((pB 0).I e).toNat).size : Nat) : Int) = _
  rw [pB_I e h 0]
  unfold gbb rcF
  rw [Int.toNat_natCast]
theorem md_I (e : En) (h : 0 ≤ (e.ρ 1).toI) : (mdX (pB 0)).I e = ((rcF (tlM e)).mode : Nat) := by
  show (((opR ((pB 0).I e).toNat).mode : Nat) : Int) = _
  rw [pB_I e h 0]
  unfold gbb rcF
  rw [Int.toNat_natCast]
theorem kn_B (e : En) (h : 0 ≤ (e.ρ 1).toI) : (knX (pB 0)).B e = (rcF (tlM e)).known := by
  show (opR ((pB 0).I e).toNat).known = _
  rw [pB_I e h 0]
  unfold gbb rcF
  rw [Int.toNat_natCast]
theorem nm_S (e : En) (h : 0 ≤ (e.ρ 1).toI) : (nmX (pB 0)).S e = (rcF (tlM e)).name := by
  show (opR ((pB 0).I e).toNat).name = _
  rw [pB_I e h 0]
  unfold gbb rcF
  rw [Int.toNat_natCast]
theorem tgP_I (e : En) (h : 0 ≤ (e.ρ 1).toI) {k : Nat} (hk : szB.I e = (k + 1 : Nat)) : tgP.I e = tgF (e.ρ 2).toI (szB.I e) (gbb (tlM e) k) := by
  have hg := gbb_rg (tlM e) k
  have hi : (X.o .nth (.v 0) (.o .add (.o .add (.v 1) szB) (.i (-1)))).I e = gbb (tlM e) k := by
    show (((e.ρ 0).toS.getD ((e.ρ 1).toI + szB.I e + (-1)).toNat 0).toNat : Int) = _
    unfold gbb tlM
    rw [hk, show ((e.ρ 1).toI + ((k + 1 : Nat) : Int) + (-1)).toNat = (e.ρ 1).toI.toNat + k from by omega]
    simp [List.getD_eq_getElem?_getD, List.getElem?_drop]
  show ((e.ρ 2).toI + IntKind.i8.wrap ((X.o .nth (.v 0) (.o .add (.o .add (.v 1) szB) (.i (-1)))).I e) + szB.I e) % 65536 = _
  rw [hi, i8_of hg.1 hg.2]
  rfl
theorem sg_I (e : En) (k : Nat) : (sgX k).I e = if 127 < (pB k).I e then -256 else 0 := by
  show (bif decide (127 < (pB k).I e) then (-256 : Int) else 0) = _
  rw [Bool.cond_decide]
theorem tgQ1_I (e : En) (h : 0 ≤ (e.ρ 1).toI) : tgQ1.I e = tgF (e.ρ 2).toI (szB.I e) (gbb (tlM e) 1) := by
  show ((e.ρ 2).toI + (pB 1).I e + szB.I e + (sgX 1).I e) % 65536 = _
  rw [sg_I, pB_I e h 1]
  unfold tgF
  congr 1
  split <;> omega
theorem tgQ2_I (e : En) (h : 0 ≤ (e.ρ 1).toI) : tgQ2.I e = tgF (e.ρ 2).toI (szB.I e) (gbb (tlM e) 2) := by
  show ((e.ρ 2).toI + (pB 2).I e + (sgX 2).I e + szB.I e) % 65536 = _
  rw [sg_I, pB_I e h 2]
  unfold tgF
  congr 1
  split <;> omega
theorem opP_S (e : En) (m : Nat) (h : MdG e m) (hm : m < 20) (h0 : m ≠ 0) : (opP m).S e = opF (tlM e) (e.ρ 2).toI (szB.I e) m := by
  have ho := h.off
  match m, hm, h0, h with
  | 1, _, _, _ | 2, _, _, _ | 3, _, _, _ | 4, _, _, _ | 8, _, _, _ | 9, _, _, _ | 10, _, _, _ | 13, _, _, _ | 14, _, _, _ => simp only [opP, opF, cX_S, sX_S, D2_S, pB_I e ho, List.append_assoc, List.cons_append, List.nil_append]
  | 5, _, _, _ | 6, _, _, _ | 7, _, _, _ | 15, _, _, _ | 16, _, _, _ | 17, _, _, _ | 18, _, _, _ | 19, _, _, _ => simp only [opP, opF, cX_S, sX_S, D2_S, D4_S, pB_I e ho, wX_I e ho, List.append_assoc, List.cons_append, List.nil_append]
  | 11, _, _, h => simp only [opP, opF, D4_S, tgP_I e ho (k := 1) h.sz]
  | 12, _, _, h => simp only [opP, opF, cX_S, sX_S, D2_S, D4_S, pB_I e ho, tgP_I e ho (k := 2) h.sz, List.append_assoc, List.cons_append, List.nil_append]
  | _ + 20, hm, _, _ => exact absurd hm (by omega)
theorem opQ_S (e : En) (m : Nat) (h : MdG e m) (hm : m < 20) (h0 : m ≠ 0) : (opQ m).S e = opF (tlM e) (e.ρ 2).toI (szB.I e) m := by
  have ho := h.off
  match m, hm, h0, h with
  | 1, _, _, _ | 2, _, _, _ | 3, _, _, _ | 4, _, _, _ | 8, _, _, _ | 9, _, _, _ | 10, _, _, _ | 13, _, _, _ | 14, _, _, _ => simp only [opQ, opF, cX_S, sX_S, D2_S, pB_I e ho, List.append_assoc, List.cons_append, List.nil_append]
  | 5, _, _, _ | 6, _, _, _ | 7, _, _, _ | 15, _, _, _ | 16, _, _, _ | 17, _, _, _ | 18, _, _, _ | 19, _, _, _ => simp only [opQ, opF, cX_S, sX_S, D2_S, D4_S, pB_I e ho, wX_I e ho, List.append_assoc, List.cons_append, List.nil_append]
  | 11, _, _, h => simp only [opQ, opF, D4_S, tgQ1_I e ho]
  | 12, _, _, h => simp only [opQ, opF, cX_S, sX_S, D2_S, D4_S, pB_I e ho, tgQ2_I e ho, List.append_assoc, List.cons_append, List.nil_append]
  | _ + 20, hm, _, _ => exact absurd hm (by omega)
theorem gd_of {e : En} {m : Nat} (h : MdG e m) : gdF (tlM e) = true := by
  unfold gdF
  have h1 := sz_I e h.off
  have h2 := h.sz
  have h3 := h.len
  rw [h.kn, Nat.ble_eq_true_of_le (show (rcF (tlM e)).size ≤ (tlM e).length from by omega)]; rfl
theorem txt_of {e : En} {m : Nat} (h : MdG e m) : txtF (tlM e) (e.ρ 2).toI = (bif Nat.beq m 0 then (rcF (tlM e)).name else (rcF (tlM e)).name ++ 32 :: opF (tlM e) (e.ρ 2).toI (szB.I e) m) ∧ txtN (tlM e) = szB.I e := by
  unfold txtF txtN
  rw [gd_of h, h.md, sz_I e h.off]
  exact ⟨rfl, rfl⟩
theorem txP_S (e : En) (m : Nat) (h : MdG e m) (hm : m < 20) : (txP m).S e = txtF (tlM e) (e.ρ 2).toI := by
  rw [(txt_of h).1]
  unfold txP
  cases hz : Nat.beq m 0 with
  | true => exact nm_S e h.off
  | false =>
    have h0 : m ≠ 0 := fun q => by rw [q] at hz; cases hz
    show ((nmX (pB 0)).S e ++ [32]) ++ (opP m).S e = _
    rw [nm_S e h.off, opP_S e m h hm h0, List.append_assoc]; rfl
theorem txQ_S (e : En) (m : Nat) (h : MdG e m) (hm : m < 20) : (txQ m).S e = txtF (tlM e) (e.ρ 2).toI := by
  rw [(txt_of h).1]
  unfold txQ
  cases hz : Nat.beq m 0 with
  | true => exact nm_S e h.off
  | false =>
    have h0 : m ≠ 0 := fun q => by rw [q] at hz; cases hz
    show ((nmX (pB 0)).S e ++ [32]) ++ (opQ m).S e = _
    rw [nm_S e h.off, opQ_S e m h hm h0, List.append_assoc]; rfl
theorem nQ_I (e : En) (m : Nat) (h : MdG e m) : (nQ m).I e = txtN (tlM e) := by
  rw [(txt_of h).2]
  unfold nQ
  cases hz : Nat.beq m 0 with
  | true =>
    have h0 : m = 0 := Nat.eq_of_beq_eq_true hz
    rw [h.sz, h0]; rfl
  | false => rfl
noncomputable section
theorem lt_outM {a b : X} {e : En} (h : (X.o .lt a b).B e = true) : a.I e < b.I e := of_decide_eq_true h
def byX : X := cX (.s [46, 98, 121, 116, 101, 32]) (D2 (pB 0))
theorem byX_S (e : En) (h : 0 ≤ (e.ρ 1).toI) : byX.S e = byF (tlM e) := by
  show [46, 98, 121, 116, 101, 32] ++ h2 ((pB 0).I e) = _
  rw [pB_I e h 0]; rfl
def txX (b off a : X) : X := .ap 103 (.o .pair b (.o .pair off a))
def tx0 : X := txX (.v 0) (.v 1) (.v 2)
def lcTa (fs : List Fact) (xs : List X) (tx n : X) : LC := ⟨3, [.z (.sl 0 (.v 1) 1 0 lenR lenR), .z (.i .u16 (.v 2))], [bLk false], fs, xs, .tu [.s (.z (.s tx)), .s (.z (.i .i64 n))], [bLk false]⟩
def fsT : List Fact := ⟨lenR, ⟨some 1, some 500000⟩⟩ :: atFs
def lcTz : LC := lcTa fsT [.o .lt (.v 1) lenB] (.u .fst tx0) (.u .snd tx0)
theorem tz_by {f : FuncId} {xs : List X} (h : (lcTa fsT (xs ++ [.o .lt (.v 1) lenB]) byX (.i 1)).Ok Tryd.prog f) (hx : ∀ e : En, 0 ≤ (e.ρ 1).toI → (e.ρ 1).toI < (((e.ρ 0).toS.length : Nat) : Int) → (∀ x ∈ xs, x.B e = true) → gdF (tlM e) = false) : (lcTa fsT (xs ++ [.o .lt (.v 1) lenB]) (.u .fst tx0) (.u .snd tx0)).Ok Tryd.prog f :=
  h.conv rfl rfl rfl fun ds hl hf ha => ⟨hf, ha, by
    have h0 : 0 ≤ ((envOf ds).ρ 1).toI := (hf _ (.tail _ (.tail _ (.head _)))).1 _ rfl
    have h1 : ((envOf ds).ρ 1).toI < ((((envOf ds).ρ 0).toS.length : Nat) : Int) := lt_outM (ha _ (List.mem_append.2 (.inr (.head _))))
    have hg := hx (envOf ds) h0 h1 fun x hm => ha x (List.mem_append.2 (.inl hm))
    show Value.tuple ⟨[.string ⟨⟨byX.S (envOf ds)⟩⟩, .int .i64 1]⟩ = Value.tuple ⟨[.string ⟨⟨txtF (tlM (envOf ds)) ((envOf ds).ρ 2).toI⟩⟩, .int .i64 (txtN (tlM (envOf ds)))]⟩
    rw [byX_S _ h0]
    unfold txtF txtN
    rw [hg]; rfl, rfl⟩
end
end Go.Proofs.YtjcpcnoakphecaaDoor
