/-
  An abstract logic for the model, and a symbolic executor over it (part 10). Conditions: none.
-/
import Derived.Test.YtciemdpcllpdkaaDoorLog9
import Derived.Lib.Join
import Derived.Lib.Repeat
set_option linter.unusedVariables false
set_option linter.unusedSimpArgs false
set_option linter.unnecessarySimpa false
set_option linter.constructorNameAsVariable false
noncomputable section
namespace Go.SX
set_option linter.unusedSectionVars false
open Go Go.AE
set_option linter.constructorNameAsVariable false
set_option linter.unusedSimpArgs false
set_option linter.unusedVariables false
variable {P : Program} [Fam]
def alikeX (n : Nat) (g : Gm) (a b : X) : Bool := eqX a b || taut n g (.o .eq a b)
theorem alikeX_ok {n : Nat} {g : Gm} {e : En} (hg : g.ok e) {a b : X} (h : alikeX n g a b = true) : a.I e = b.I e := by
  unfold alikeX at h
  rw [Bool.or_eq_true] at h
  rcases h with h | h
  · rw [eqX_eq h]
  · have : decide (a.I e = b.I e) = true := taut_ok n g _ hg h
    exact of_decide_eq_true this
def alikeB (n : Nat) (g : Gm) (a b : X) : Bool := eqX a b || taut n g (.o .beq a b)
theorem alikeB_ok {n : Nat} {g : Gm} {e : En} (hg : g.ok e) {a b : X} (h : alikeB n g a b = true) : a.B e = b.B e := by
  unfold alikeB at h
  rw [Bool.or_eq_true] at h
  rcases h with h | h
  · rw [eqX_eq h]
  · have : (a.B e == b.B e) = true := taut_ok n g _ hg h
    simpa using this
def alikeSt (n : Nat) (g : Gm) (a b : X) : Bool := eqX a b || taut n g (.o .seq a b)
theorem alikeSt_ok {n : Nat} {g : Gm} {e : En} (hg : g.ok e) {a b : X} (h : alikeSt n g a b = true) : a.S e = b.S e := by
  unfold alikeSt at h
  rw [Bool.or_eq_true] at h
  rcases h with h | h
  · rw [eqX_eq h]
  · have : (a.S e == b.S e) = true := taut_ok n g _ hg h
    simpa using this
def alikeRo (n : Nat) (g : Gm) (a b : X) : Bool := eqX a b || taut n g (.o .req a b)
theorem alikeRo_ok {n : Nat} {g : Gm} {e : En} (hg : g.ok e) {a b : X} (h : alikeRo n g a b = true) : a.R e = b.R e := by
  unfold alikeRo at h
  rw [Bool.or_eq_true] at h
  rcases h with h | h
  · rw [eqX_eq h]
  · have : decide (a.R e = b.R e) = true := taut_ok n g _ hg h
    exact of_decide_eq_true this
def alike0 (n : Nat) (g : Gm) : S0 → S0 → Bool
  | .b x, .b y => alikeB n g x y
  | .i k x, .i k' y => eqK k k' && alikeX n g x y
  | .s x, .s y => alikeSt n g x y
  | .p j (.i x) w c, .p j' (.i y) w' c' => Nat.beq j j' && Nat.beq (x.toNat * w + c) (y.toNat * w' + c')
  | .p0, .p0 => true
  | .sl j (.i x) w c l m, .sl j' (.i y) w' c' l' m' => Nat.beq j j' && (Nat.beq (x.toNat * w + c) (y.toNat * w' + c') && (alikeX n g l l' && alikeX n g m m'))
  | .sl0, .sl0 => true
  | .sl j x w c l m, .sl j' y w' c' l' m' => Nat.beq j j' && (alikeX n g x y && (Nat.beq w w' && (Nat.beq c c' && (alikeX n g l l' && alikeX n g m m'))))
  | _, _ => false
theorem alike0_ok {n : Nat} {g : Gm} {e : En} (hg : g.ok e) {a b : S0} (h : alike0 n g a b = true) : a.den e = b.den e := by
  unfold alike0 at h
  split at h
  · show Value.bool _ = Value.bool _
    rw [alikeB_ok hg h]
  · rw [Bool.and_eq_true] at h
    show Value.int _ _ = Value.int _ _
    rw [eqK_eq h.1, alikeX_ok hg h.2]
  · show Value.string _ = Value.string _
    rw [alikeSt_ok hg h]
  · simp only [Bool.and_eq_true] at h
    show Value.pointer (some ⟨_, (X.I e (.i _)).toNat * _ + _, none⟩) = Value.pointer (some ⟨_, (X.I e (.i _)).toNat * _ + _, none⟩)
    rw [Nat.eq_of_beq_eq_true h.1]
    congr 3
    exact Nat.eq_of_beq_eq_true h.2
  · rfl
  · simp only [Bool.and_eq_true] at h
    obtain ⟨h1, h2, h3, h4⟩ := h
    show Value.slice (some ⟨_, (X.I e (.i _)).toNat * _ + _, none⟩) _ _ = Value.slice (some ⟨_, (X.I e (.i _)).toNat * _ + _, none⟩) _ _
    rw [Nat.eq_of_beq_eq_true h1, alikeX_ok hg h3, alikeX_ok hg h4]
    congr 3
    exact Nat.eq_of_beq_eq_true h2
  · rfl
  · simp only [Bool.and_eq_true] at h
    obtain ⟨h1, h2, h3, h4, h5, h6⟩ := h
    show Value.slice (some ⟨_, (X.I e _).toNat * _ + _, none⟩) _ _ = Value.slice (some ⟨_, (X.I e _).toNat * _ + _, none⟩) _ _
    rw [Nat.eq_of_beq_eq_true h1, alikeX_ok hg h2, Nat.eq_of_beq_eq_true h3, Nat.eq_of_beq_eq_true h4, alikeX_ok hg h5, alikeX_ok hg h6]
  · cases h
def alikeS (n : Nat) (g : Gm) : SS → SS → Bool
  | .z x, .z y => alike0 n g x y
  | .nf, .nf => true
  | .ni, .ni => true
  | _, _ => false
theorem alikeS_ok {n : Nat} {g : Gm} {e : En} (hg : g.ok e) {a b : SS} (h : alikeS n g a b = true) : a.den e = b.den e := by
  unfold alikeS at h
  split at h
  · exact alike0_ok hg h
  · rfl
  · rfl
  · cases h
theorem eqL_den {α : Type} {p : α → α → Bool} {f : α → Value} (hp : ∀ x y, p x y = true → f x = f y) : ∀ {l l' : List α}, eqL p l l' = true → l.map f = l'.map f
  | [], [], _ => rfl
  | [], _ :: _, h => by cases h
  | _ :: _, [], h => by cases h
  | x :: l, y :: l', h => by
    have h : (p x y && eqL p l l') = true := h
    rw [Bool.and_eq_true] at h
    rw [List.map_cons, List.map_cons, hp x y h.1, eqL_den hp h.2]
def alikeA (n : Nat) (g : Gm) : SA → SA → Bool
  | .s x, .s y => alikeS n g x y
  | .ag l, .ag l' => eqL (alikeS n g) l l'
  | _, _ => false
theorem alikeA_ok {n : Nat} {g : Gm} {e : En} (hg : g.ok e) {a b : SA} (h : alikeA n g a b = true) : a.den e = b.den e := by
  unfold alikeA at h
  split at h
  · exact alikeS_ok hg h
  · show Value.agg _ = Value.agg _
    rw [eqL_den (fun x y hxy => alikeS_ok hg hxy) h]
  · cases h
def alikeV (n : Nat) (g : Gm) : SV → SV → Bool
  | .a x, .a y => alikeA n g x y
  | .tu l, .tu l' => eqL (alikeA n g) l l'
  | _, _ => false
theorem alikeV_ok {n : Nat} {g : Gm} {e : En} (hg : g.ok e) {a b : SV} (h : alikeV n g a b = true) : a.den e = b.den e := by
  unfold alikeV at h
  split at h
  · exact alikeA_ok hg h
  · show Value.tuple _ = Value.tuple _
    rw [eqL_den (fun x y hxy => alikeA_ok hg hxy) h]
  · cases h
def alikeC (n : Nat) (g : Gm) : SC → SC → Bool
  | .cs l, .cs l' => eqL (alikeS n g) l l'
  | .by x, .by y => alikeSt n g x y
  | .rw ks x, .rw ks' y => catC.eqCK ks ks' && alikeRo n g x y
  | .ob k x, .ob k' y => Nat.beq k k' && eqX x y
  | _, _ => false
theorem alikeC_ok {n : Nat} {g : Gm} {e : En} (hg : g.ok e) {a b : SC} (h : alikeC n g a b = true) : a.den e = b.den e ∧ a.obj e = b.obj e := by
  unfold alikeC at h
  split at h
  · exact ⟨eqL_den (fun x y hxy => alikeS_ok hg hxy) h, rfl⟩
  · refine ⟨?_, rfl⟩
    show (X.S e _).map Byt = (X.S e _).map Byt
    rw [alikeSt_ok hg h]
  · rw [Bool.and_eq_true] at h
    refine ⟨?_, rfl⟩
    show (X.R e _).flatMap (rowV _) = (X.R e _).flatMap (rowV _)
    rw [eqCK_eq h.1, alikeRo_ok hg h.2]
  · rw [Bool.and_eq_true] at h
    rw [Nat.eq_of_beq_eq_true h.1, eqX_eq h.2]
    exact ⟨rfl, rfl⟩
  · cases h
def subS0 (es : List X) (ρ : Nat → Nat) : S0 → S0
  | .b x => .b (x.sub 0 es)
  | .i k x => .i k (x.sub 0 es)
  | .s x => .s (x.sub 0 es)
  | .p j x w c => .p (ρ j) (x.sub 0 es) w c
  | .p0 => .p0
  | .sl j x w c n m => .sl (ρ j) (x.sub 0 es) w c (n.sub 0 es) (m.sub 0 es)
  | .sl0 => .sl0
def subSS (es : List X) (ρ : Nat → Nat) : SS → SS
  | .z x => .z (subS0 es ρ x)
  | .fn f a b => .top
  | .nf => .nf
  | .ni => .ni
  | .top => .top
def subC (es : List X) (ρ : Nat → Nat) : SC → SC
  | .cs l => .cs (l.map (subSS es ρ))
  | .by x => .by (x.sub 0 es)
  | .rw ks x => .rw ks (x.sub 0 es)
  | .ob k x => .ob k (x.sub 0 es)
def subB (es : List X) (ρ : Nat → Nat) (b : SBlk) : SBlk := { b with c := subC es ρ b.c }
def noFn : SS → Bool
  | .fn _ _ _ => false
  | _ => true
def okC (n : Nat) (c : SC) : Bool := c.sc n && (match c with
  | .cs l => l.all noFn
  | _ => true)
theorem ext_env (ds : List D) : (⟨fun _ => .u⟩ : En).ext 0 ds = envOf ds := by
  show En.mk _ = En.mk _
  congr 1
  funext n
  show (bif Nat.ble 0 n && Nat.blt n (0 + ds.length) then ds.getD (n - 0) .u else .u) = ds.getD n .u
  rcases Nat.lt_or_ge n ds.length with hl | hl
  · have h1 : Nat.ble 0 n = true := Nat.ble_eq ▸ Nat.zero_le n
    have h2 : Nat.blt n (0 + ds.length) = true := by rw [Nat.blt_eq]; omega
    rw [h1, h2]; rfl
  · have h2 : Nat.blt n (0 + ds.length) = false := by
      cases h : Nat.blt n (0 + ds.length) with
      | false => rfl
      | true => rw [Nat.blt_eq] at h; omega
    rw [h2, Bool.and_false]
    show D.u = _
    rw [List.getD_eq_getElem?_getD, List.getElem?_eq_none hl]; rfl
theorem sub0_den {es : List X} {e : En} {x : X} (h : x.sc es.length = true) : (x.sub 0 es).den e = x.den (envOf (es.map (X.den e))) := by
  have h1 := X.sub_den (b := 0) (es := es) (e := ⟨fun _ => .u⟩) (e' := e) (fun _ hk => by omega) (x := x) (by rw [Nat.zero_add]; exact h)
  rw [h1, ext_env]
theorem subS0_den {es : List X} {ρ : Nat → Nat} {e : En} {x : S0} (h : x.sc es.length = true) : (subS0 es ρ x).den e = renS ρ (x.den (envOf (es.map (X.den e)))) := by
  cases x with
  | b x => show Value.bool ((x.sub 0 es).den e).toB = _; rw [sub0_den h]; rfl
  | i k x => show Value.int k ((x.sub 0 es).den e).toI = _; rw [sub0_den h]; rfl
  | s x => show Value.string ⟨⟨((x.sub 0 es).den e).toS⟩⟩ = _; rw [sub0_den h]; rfl
  | p j x w c => show Value.pointer (some ⟨ρ j, ((x.sub 0 es).den e).toI.toNat * w + c, none⟩) = _; rw [sub0_den h]; rfl
  | p0 => rfl
  | sl j x w c n m =>
    have h : (x.sc es.length && (n.sc es.length && m.sc es.length)) = true := h
    simp only [Bool.and_eq_true] at h
    show Value.slice (some ⟨ρ j, ((x.sub 0 es).den e).toI.toNat * w + c, none⟩) ((n.sub 0 es).den e).toI.toNat ((m.sub 0 es).den e).toI.toNat = _
    rw [sub0_den h.1, sub0_den h.2.1, sub0_den h.2.2]; rfl
  | sl0 => rfl
theorem subSS_den {es : List X} {ρ : Nat → Nat} {e : En} {x : SS} (h : x.sc es.length = true) (hf : noFn x = true) : (subSS es ρ x).den e = renS ρ (x.den (envOf (es.map (X.den e)))) := by
  cases x with
  | z x => exact subS0_den h
  | fn f a b => cases hf
  | nf => rfl
  | ni => rfl
  | top => rfl
theorem map_ren {l : List SS} {es : List X} {ρ : Nat → Nat} {e : En} (h : l.all (SS.sc es.length) = true) (hf : l.all noFn = true) : (l.map (subSS es ρ)).map (SS.den e) = (l.map (SS.den (envOf (es.map (X.den e))))).map (renS ρ) := by
  rw [List.map_map, List.map_map]
  exact List.map_congr_left fun x hx => subSS_den (List.all_eq_true.1 h x hx) (List.all_eq_true.1 hf x hx)
theorem renS_byts (ρ : Nat → Nat) (l : List UInt8) : (l.map Byt).map (renS ρ) = l.map Byt := by
  rw [List.map_map]
  exact List.map_congr_left fun _ _ => rfl
theorem renS_row (ρ : Nat → Nat) : ∀ (ks : List CK) (l : List A), (rowV ks l).map (renS ρ) = rowV ks l
  | [], _ => rfl
  | k :: ks, [] => by
    show renS ρ (k.val (.i 0)) :: (rowV ks []).map (renS ρ) = _
    rw [renS_row ρ ks []]
    cases k <;> rfl
  | k :: ks, a :: l => by
    show renS ρ (k.val a) :: (rowV ks l).map (renS ρ) = _
    rw [renS_row ρ ks l]
    cases k <;> rfl
theorem renS_rows (ρ : Nat → Nat) (ks : List CK) (R : List (List A)) : (R.flatMap (rowV ks)).map (renS ρ) = R.flatMap (rowV ks) := by
  induction R with
  | nil => rfl
  | cons r R ih => rw [List.flatMap_cons, List.map_append, renS_row, ih]
theorem renS_vis (ρ : Nat → Nat) (l : List VC) (d : D) : (l.map (VC.val d)).map (renS ρ) = l.map (VC.val d) := by
  rw [List.map_map]
  exact List.map_congr_left fun v _ => by cases v <;> rfl
theorem subC_den {es : List X} {ρ : Nat → Nat} {e : En} {c : SC} (h : okC es.length c = true) : (subC es ρ c).den e = (c.den (envOf (es.map (X.den e)))).map (renS ρ) ∧ (subC es ρ c).obj e = c.obj (envOf (es.map (X.den e))) := by
  unfold okC at h
  rw [Bool.and_eq_true] at h
  cases c with
  | cs l => exact ⟨map_ren h.1 h.2, rfl⟩
  | «by» x =>
    refine ⟨?_, rfl⟩
    show (((x.sub 0 es).den e).toS).map Byt = _
    rw [sub0_den h.1]
    exact (renS_byts ρ _).symm
  | rw ks x =>
    refine ⟨?_, rfl⟩
    show (((x.sub 0 es).den e).toR).flatMap (rowV ks) = _
    rw [sub0_den h.1]
    exact (renS_rows ρ ks _).symm
  | ob k x =>
    refine ⟨?_, ?_⟩
    · show (Fam.vis k).map (VC.val ((x.sub 0 es).den e)) = _
      rw [sub0_den h.1]
      exact (renS_vis ρ _ _).symm
    · show some (Fam.ob k ((x.sub 0 es).den e)) = _
      rw [sub0_den h.1]; rfl
theorem subB_den {es : List X} {ρ : Nat → Nat} {e : En} {b : SBlk} (h : okC es.length b.c = true) : (subB es ρ b).den e = renBlk ρ (b.den (envOf (es.map (X.den e)))) := by
  obtain ⟨h1, h2⟩ := subC_den (ρ := ρ) (e := e) h
  show ABlk.mk ((subC es ρ b.c).den e) _ _ _ ((subC es ρ b.c).obj e) = _
  rw [h1, h2]; rfl
structure Tm where
  n : Nat
  mem : SMem
  fs : List Fact
  as : List X
def okOB (n : Nat) : Option SBlk → Bool
  | none => true
  | some b => okC n b.c
def rootOk : Option SBlk → Bool
  | some b => b.w || (match b.c with | .ob _ _ => true | _ => false)
  | none => false
def low0 (n : Nat) : S0 → Bool
  | .p j _ _ _ => Nat.blt j n
  | .sl j _ _ _ _ _ => Nat.blt j n
  | _ => true
def lowSS (n : Nat) : SS → Bool
  | .z x => low0 n x
  | _ => true
def lowC (n : Nat) : SC → Bool
  | .cs l => l.all (lowSS n)
  | _ => true
def lowOB (n : Nat) : Option SBlk → Bool
  | some b => lowC n b.c
  | none => true
def Tm.ok (t : Tm) : Bool := Nat.blt 0 t.mem.length && (t.mem.all (okOB t.n) && (t.mem.all (lowOB t.mem.length) && (rootOk (t.mem.getD 0 none) && (t.fs.all (fun f => f.e.sc t.n) && t.as.all (X.sc t.n)))))
def comps : Nat → D → List D
  | 0, _ => []
  | 1, d => [d]
  | n + 2, d => d.fst :: comps (n + 1) d.snd
def compX : Nat → X → List X
  | 0, _ => []
  | 1, x => [x]
  | n + 2, x => mkFst x :: compX (n + 1) (mkSnd x)
theorem compX_den (e : En) : ∀ (n : Nat) (x : X), (compX n x).map (X.den e) = comps n (x.den e)
  | 0, _ => rfl
  | 1, _ => rfl
  | n + 2, x => by
    show (mkFst x).den e :: (compX (n + 1) (mkSnd x)).map (X.den e) = _
    rw [compX_den e (n + 1), mkFst_den, mkSnd_den]; rfl
theorem compX_len : ∀ (n : Nat) (x : X), (compX n x).length = n
  | 0, _ => rfl
  | 1, _ => rfl
  | n + 2, x => by show (compX (n + 1) (mkSnd x)).length + 1 = _; rw [compX_len (n + 1)]
def packX : List X → X
  | [] => .nil
  | [x] => x
  | x :: l => .o .pair x (packX l)
theorem packX_den (e : En) : ∀ (l : List X), comps l.length ((packX l).den e) = l.map (X.den e)
  | [] => rfl
  | [x] => rfl
  | x :: y :: l => by
    show (x.den e) :: comps (l.length + 1) ((packX (y :: l)).den e) = _
    rw [show l.length + 1 = (y :: l).length from rfl, packX_den e (y :: l)]; rfl
def Tm.inv (t : Tm) (d : D) : Prop := (∀ f ∈ t.fs, f.r.has (f.e.I (envOf (comps t.n d)))) ∧ ∀ c ∈ t.as, c.B (envOf (comps t.n d)) = true
def IsOb (P : Program) (k : Nat) (t : Tm) : Prop := t.ok = true ∧ ∀ d, Fam.ob k d = obT P (denM (envOf (comps t.n d)) t.mem) (t.inv d)
def obS (k : Nat) (x : X) : SBlk := ⟨.ob k x, 0, false, false⟩
theorem obS_den (e : En) (k : Nat) (x : X) : (obS k x).den e = obBlk ((Fam.vis k).map (VC.val (x.den e))) 0 false (Fam.ob k (x.den e)) := rfl
def openS (j : Nat) (t : Tm) (x : X) (m : SMem) : SMem :=
  m.set j ((t.mem.getD 0 none).map (subB (compX t.n x) (opR j m.length))) ++ t.mem.tail.map fun b => b.map (subB (compX t.n x) (opR j m.length))
theorem subOB_den {es : List X} {ρ : Nat → Nat} {e : En} {b : Option SBlk} (h : okOB es.length b = true) : (b.map (subB es ρ)).map (SBlk.den e) = (b.map (SBlk.den (envOf (es.map (X.den e))))).map (renBlk ρ) := by
  cases b with
  | none => rfl
  | some b => exact congrArg some (subB_den h)
theorem openS_den {e : En} {j : Nat} {t : Tm} (ht : t.ok = true) {x : X} {m : SMem} : denM e (openS j t x m) = openM j (denM (envOf (comps t.n (x.den e))) t.mem) (denM e m) := by
  unfold Tm.ok at ht
  simp only [Bool.and_eq_true] at ht
  obtain ⟨h0, h1, _⟩ := ht
  have hb : ∀ b ∈ t.mem, okOB (compX t.n x).length b = true := by rw [compX_len]; exact List.all_eq_true.1 h1
  unfold openS openM
  rw [denM_app, denM_set, denM_len, ← compX_den e]
  have h00 : 0 < t.mem.length := by rwa [Nat.blt_eq] at h0
  congr 1
  · congr 1
    have e1 : (denM (envOf ((compX t.n x).map (X.den e))) t.mem).getD 0 none = (t.mem.getD 0 none).map (SBlk.den (envOf ((compX t.n x).map (X.den e)))) := by
      simp only [denM, List.getD_eq_getElem?_getD, List.getElem?_map, List.getElem?_eq_getElem h00, Option.map_some, Option.getD_some]
    rw [e1]
    refine subOB_den (hb _ ?_)
    rw [List.getD_eq_getElem?_getD, List.getElem?_eq_getElem h00]
    exact List.getElem_mem h00
  · unfold denM
    rw [List.map_map, ← List.map_tail, List.map_map]
    refine List.map_congr_left fun b hbm => ?_
    exact subOB_den (hb b (List.mem_of_mem_tail hbm))
end Go.SX
end
noncomputable section
namespace Go.SX
set_option linter.unusedSectionVars false
open Go Go.AE
set_option linter.constructorNameAsVariable false
set_option linter.unusedSimpArgs false
set_option linter.unusedVariables false
variable {P : Program} [Fam]
def blkChk (n : Nat) (g : Gm) (es : List X) (js : List Nat) (m : SMem) : List (Option SBlk) → Nat → Bool
  | [], _ => true
  | none :: l, i => blkChk n g es js m l (i + 1)
  | some b :: l, i => (match m[js.getD i 0]? with
    | some (some a) => alikeC n g a.c (subC es (fun i => js.getD i 0) b.c) && (Nat.beq a.elem b.elem && (eqB a.w b.w && (!b.ex || a.ex)))
    | _ => false) && blkChk n g es js m l (i + 1)
theorem blkChk_get {n : Nat} {g : Gm} {es : List X} {js : List Nat} {m : SMem} : ∀ {l : List (Option SBlk)} {i t : Nat} {b : SBlk}, blkChk n g es js m l i = true → l[t]? = some (some b) →
    ∃ a, m[js.getD (i + t) 0]? = some (some a) ∧ alikeC n g a.c (subC es (fun i => js.getD i 0) b.c) = true ∧ a.elem = b.elem ∧ a.w = b.w ∧ (b.ex = true → a.ex = true)
  | [], _, _, _, _, h => by simp at h
  | x :: l, i, 0, b, hc, h => by
    simp only [List.getElem?_cons_zero, Option.some.injEq] at h
    subst h
    unfold blkChk at hc
    rw [Bool.and_eq_true] at hc
    have h1 := hc.1
    split at h1
    · rename_i a ha
      simp only [Bool.and_eq_true, Bool.or_eq_true, Bool.not_eq_true'] at h1
      refine ⟨a, ha, h1.1, Nat.eq_of_beq_eq_true h1.2.1, eqB_eq h1.2.2.1, fun hx => ?_⟩
      rcases h1.2.2.2 with h2 | h2
      · rw [hx] at h2; cases h2
      · exact h2
    · cases h1
  | x :: l, i, t + 1, b, hc, h => by
    have h : l[t]? = some (some b) := by simpa using h
    have hc' : blkChk n g es js m l (i + 1) = true := by
      cases x with
      | none => exact hc
      | some y =>
        unfold blkChk at hc
        rw [Bool.and_eq_true] at hc
        exact hc.2
    have := blkChk_get hc' h
    rw [show i + 1 + t = i + (t + 1) from by omega] at this
    exact this
def visChk (n : Nat) (g : Gm) : List SS → List SS → Bool
  | [], [] => true
  | .top :: l, _ :: l' => visChk n g l l'
  | x :: l, y :: l' => alikeS n g x y && visChk n g l l'
  | _, _ => false
theorem visChk_ok {n : Nat} {g : Gm} {e : En} (hg : g.ok e) : ∀ {l l' : List SS}, visChk n g l l' = true → F2 Less (l'.map (SS.den e)) (l.map (SS.den e))
  | [], [], _ => .nil
  | [], _ :: _, h => by cases h
  | x :: l, [], h => by
    unfold visChk at h
    split at h <;> simp_all
  | x :: l, y :: l', h => by
    by_cases hx : x = .top
    · subst hx
      exact .cons (.inl rfl) (visChk_ok hg h)
    · have h : (alikeS n g x y && visChk n g l l') = true := by
        unfold visChk at h
        split at h
        · simp_all
        · simp_all
        · rename_i _ _ _ _ _ h1 h2
          simp only [List.cons.injEq] at h1 h2
          obtain ⟨rfl, rfl⟩ := h1
          obtain ⟨rfl, rfl⟩ := h2
          exact h
        · simp_all
      rw [Bool.and_eq_true] at h
      exact .cons (.inr (alikeS_ok hg h.1)) (visChk_ok hg h.2)
def isOb : SC → Bool
  | .ob _ _ => true
  | _ => false
def keepS (m : SMem) (j : Nat) : Bool := match m[j]? with
  | some (some b) => !b.w && !isOb b.c
  | _ => false
theorem keepS_den (e : En) (m : SMem) (j : Nat) : keepB (denM e m) j = keepS m j := by
  unfold keepB keepS denM
  rw [List.getElem?_map]
  cases m[j]? with
  | none => rfl
  | some b => cases b with
    | none => rfl
    | some b =>
      show (!b.w && (b.c.obj e).isNone) = (!b.w && !isOb b.c)
      cases b.c <;> rfl
def killS : List Nat → SMem → SMem
  | [], m => m
  | j :: js, m => killS js (bif keepS m j then m else m.set j none)
theorem killS_den (e : En) : ∀ (js : List Nat) (m : SMem), denM e (killS js m) = killL js (denM e m)
  | [], _ => rfl
  | j :: js, m => by
    show denM e (killS js (bif keepS m j then m else m.set j none)) = killL js (bif keepB (denM e m) j then denM e m else (denM e m).set j none)
    rw [killS_den e js, keepS_den]
    cases keepS m j with
    | true => rfl
    | false => rw [cond_false, cond_false, denM_set]; rfl
def packE (es : List X) : X := match es with
  | .u .fst x :: _ => bif eqL eqX es (compX es.length x) then x else packX es
  | es => packX es
theorem packE_den (e : En) (es : List X) : comps es.length ((packE es).den e) = es.map (X.den e) := by
  unfold packE
  split
  · rename_i x l
    cases h : eqL eqX (X.u .fst x :: l) (compX (X.u .fst x :: l).length x) with
    | false => exact packX_den e _
    | true =>
      have := eqL_eq (p := eqX) (fun h => eqX_eq h) h
      simp only [cond_true]
      rw [← compX_den e, ← this]
  · exact packX_den e _
def visAt (n : Nat) (g : Gm) (k : Nat) (x : X) : Option (Option SBlk) → Bool
  | some (some ⟨.cs l, _, _, _⟩) => visChk n g (visS k x) l
  | _ => false
theorem visAt_ok {n : Nat} {g : Gm} {k : Nat} {x : X} {b : Option (Option SBlk)} (h : visAt n g k x b = true) : ∃ b0 l, b = some (some b0) ∧ b0.c = .cs l ∧ visChk n g (visS k x) l = true := by
  unfold visAt at h
  split at h
  · exact ⟨_, _, rfl, rfl, h⟩
  · cases h
def closeS (n : Nat) (g : Gm) (k : Nat) (t : Tm) (js : List Nat) (es : List X) (m : SMem) : Option SMem :=
  let x := packE es
  bif Nat.beq js.length t.mem.length && (nodupB js && (js.all (fun j => Nat.blt j m.length) && (Nat.beq es.length t.n && (blkChk n g es js m t.mem 0 &&
    (t.fs.all (fun f => factX f 0 es g) && (t.as.all (fun c => taut n g (c.sub 0 es)) && visAt n g k x m[js.getD 0 0]?))))))
  then some ((killS js m).set (js.getD 0 0) (some (obS k x))) else none
theorem closeS_ok {n : Nat} {g : Gm} {e : En} (hg : g.ok e) {k : Nat} {t : Tm} (hk : IsOb P k t) {js : List Nat} {es : List X} {m m' : SMem} (h : closeS n g k t js es m = some m') {n₀ : Nat} {a : List Value} : SeesP P n₀ a (denM e m) a (denM e m') := by
  unfold closeS at h
  simp only at h
  cases hc : (Nat.beq js.length t.mem.length && (nodupB js && (js.all (fun j => Nat.blt j m.length) && (Nat.beq es.length t.n && (blkChk n g es js m t.mem 0 &&
    (t.fs.all (fun f => factX f 0 es g) && (t.as.all (fun c => taut n g (c.sub 0 es)) && visAt n g k (packE es) m[js.getD 0 0]?))))))) with
  | false => rw [hc] at h; cases h
  | true =>
  rw [hc] at h
  simp only [cond_true, Option.some.injEq] at h
  subst h
  simp only [Bool.and_eq_true] at hc
  obtain ⟨h1, h2, h3, h4, h5, h6, h7, h8⟩ := hc
  have h1 := Nat.eq_of_beq_eq_true h1
  have h4 := Nat.eq_of_beq_eq_true h4
  obtain ⟨hok, hob⟩ := hk
  have hok' := hok
  unfold Tm.ok at hok'
  simp only [Bool.and_eq_true] at hok'
  obtain ⟨q0, q1, q2, q3, q4, q5⟩ := hok'
  have q0 : 0 < t.mem.length := by rwa [Nat.blt_eq] at q0
  have henv : comps t.n ((packE es).den e) = es.map (X.den e) := by rw [← h4]; exact packE_den e es
  rw [denM_set, killS_den]
  show SeesP P n₀ a (denM e m) a ((killL js (denM e m)).set (js.getD 0 0) (some ((obS k (packE es)).den e)))
  rw [obS_den, hob, henv]
  have hx : ∀ (tt : Nat) (b : ABlk), (denM (envOf (es.map (X.den e))) t.mem)[tt]? = some (some b) → ∃ b0, t.mem[tt]? = some (some b0) ∧ b = b0.den (envOf (es.map (X.den e))) := by
    intro tt b hb
    simp only [denM, List.getElem?_map, Option.map_eq_some_iff] at hb
    obtain ⟨x, hx, hb⟩ := hb
    obtain ⟨b0, rfl, rfl⟩ := hb
    exact ⟨b0, hx, rfl⟩
  -- the root
  obtain ⟨br, lr, hbr, hlr, h8⟩ := visAt_ok h8
  obtain ⟨b0, hb0⟩ : ∃ b0, t.mem[0]? = some (some b0) := by
    unfold rootOk at q3
    rw [List.getD_eq_getElem?_getD, List.getElem?_eq_getElem q0] at q3
    rw [List.getElem?_eq_getElem q0]
    cases hx : t.mem[0] with
    | none => rw [hx] at q3; cases q3
    | some b => exact ⟨b, rfl⟩
  have hrootA : ∃ a, m[js.getD (0 + 0) 0]? = some (some a) ∧ alikeC n g a.c (subC es (fun i => js.getD i 0) b0.c) = true ∧ a.elem = b0.elem ∧ a.w = b0.w ∧ (b0.ex = true → a.ex = true) := blkChk_get h5 hb0
  obtain ⟨ar, har, halike, _, _, _⟩ := hrootA
  rw [Nat.zero_add, hbr] at har
  obtain rfl : br = ar := Option.some.inj (Option.some.inj har)
  have okb : ∀ {tt : Nat} {b : SBlk}, t.mem[tt]? = some (some b) → okC es.length b.c = true := by
    intro tt b hb
    rw [h4]
    exact List.all_eq_true.1 q1 _ (List.mem_of_getElem? hb)
  have okl : ∀ {tt : Nat} {b : SBlk}, t.mem[tt]? = some (some b) → ((b.c.den (envOf (es.map (X.den e)))).all (lowS t.mem.length)) = true := by
    intro tt b hb
    have hl : lowC t.mem.length b.c = true := List.all_eq_true.1 q2 _ (List.mem_of_getElem? hb)
    have hf := okb hb
    unfold okC at hf
    rw [Bool.and_eq_true] at hf
    cases hbc : b.c with
    | cs l =>
      rw [hbc] at hl hf
      show (l.map (SS.den _)).all _ = true
      rw [List.all_map, List.all_eq_true]
      intro x hx
      have h1 := List.all_eq_true.1 hl x hx
      have h2 := List.all_eq_true.1 hf.2 x hx
      show lowS _ (x.den _) = true
      cases x with
      | z y => cases y with
        | p j x w c => show decide (j < _) = true; have h1 : Nat.blt j t.mem.length = true := h1; rw [Nat.blt_eq] at h1; exact decide_eq_true h1
        | sl j x w c n m => show decide (j < _) = true; have h1 : Nat.blt j t.mem.length = true := h1; rw [Nat.blt_eq] at h1; exact decide_eq_true h1
        | _ => rfl
      | fn f a b => cases h2
      | _ => rfl
    | «by» x => exact all_lowS_le (Nat.zero_le _) (bytes_low _)
    | rw ks x =>
      refine List.all_eq_true.2 fun v hv => ?_
      obtain ⟨r, _, hv⟩ := List.mem_flatMap.1 hv
      exact List.all_eq_true.1 (all_lowS_le (Nat.zero_le _) (rowV_low ks r)) v hv
    | ob k' x =>
      refine List.all_eq_true.2 fun v hv => ?_
      obtain ⟨vc, _, rfl⟩ := List.mem_map.1 hv
      cases vc <;> rfl
  refine SeesP.trans (fun c g0 g1 A W hl hr ha => ⟨g1, hr, ha⟩) (Sees.close (tm := denM (envOf (es.map (X.den e))) t.mem) (inv := t.inv ((packE es).den e)) ?_ (by rw [denM_len]; exact h1) (by omega) (nodupB_ok h2) ?_ ?_ (b0 := b0.den (envOf (es.map (X.den e)))) (denM_get hb0) (fun h => by cases h) ?_ ?_)
  · refine ⟨fun f hf => ?_, fun c hc => ?_⟩
    · rw [henv]
      have := factX_ok hg (List.all_eq_true.1 h6 f hf) (e0 := ⟨fun _ => .u⟩) (fun _ hk => by omega)
      rw [ext_env] at this
      exact this
    · rw [henv]
      have := taut_ok n g _ hg (List.all_eq_true.1 h7 c hc)
      simp only [X.B] at this ⊢
      rwa [sub0_den (by rw [h4]; exact List.all_eq_true.1 q5 c hc)] at this
  · intro tt b hb
    obtain ⟨b1, hb1, rfl⟩ := hx tt b hb
    obtain ⟨a1, ha1, hal, he1, hw1, hx1⟩ := blkChk_get h5 hb1
    rw [Nat.zero_add] at ha1
    obtain ⟨e1, e2⟩ := alikeC_ok hg hal
    obtain ⟨e3, e4⟩ := subC_den (e := e) (ρ := fun i => js.getD i 0) (okb hb1)
    refine ⟨by rw [denM_len]; exact okl hb1, a1.den e, denM_get ha1, hw1, e2.trans e4, e1.trans e3, he1, hx1⟩
  · intro j hj
    rw [denM_len]
    have := List.all_eq_true.1 h3 j hj
    rwa [Nat.blt_eq] at this
  · unfold rootOk at q3
    rw [List.getD_eq_getElem?_getD, hb0] at q3
    simp only [Option.getD_some, Bool.or_eq_true] at q3
    rcases q3 with q3 | q3
    · exact .inl q3
    · refine .inr ?_
      show b0.c.obj _ ≠ none
      cases hbc : b0.c <;> rw [hbc] at q3 <;> first | (cases q3; done) | (intro h; cases h)
  · have e1 := (alikeC_ok hg halike).1
    have e3 := (subC_den (e := e) (ρ := fun i => js.getD i 0) (okb hb0)).1
    show F2 Less ((b0.c.den (envOf (es.map (X.den e)))).map (renS fun i => js.getD i 0)) ((Fam.vis k).map (VC.val ((packE es).den e)))
    rw [← e3, ← e1, ← visS_den, hlr]
    exact visChk_ok hg h8
end Go.SX
end
noncomputable section
namespace Go.SX
set_option linter.unusedSectionVars false
open Go Go.AE
set_option linter.constructorNameAsVariable false
set_option linter.unusedSimpArgs false
set_option linter.unusedVariables false
variable {P : Program} [Fam]
structure MS where
  js : List (Option Nat)
  es : List (Option X)
def MS.bj (st : MS) (t j : Nat) : MS := match st.js[t]? with
  | some none => { st with js := st.js.set t (some j) }
  | _ => st
def MS.bx (st : MS) (i : Nat) (x : X) : MS := match st.es[i]? with
  | some none => { st with es := st.es.set i (some x) }
  | _ => st
def mt0 (st : MS) : S0 → S0 → MS
  | .b (.v i), .b y => st.bx i y
  | .i _ (.v i), .i _ y => st.bx i y
  | .s (.v i), .s y => st.bx i y
  | .p t _ _ _, .p j _ _ _ => st.bj t j
  | .sl t x _ _ n c, .sl j x' _ _ n' c' =>
    let st := st.bj t j
    let st := match x with | .v i => st.bx i x' | _ => st
    let st := match n with | .v i => st.bx i n' | _ => st
    match c with | .v i => st.bx i c' | _ => st
  | _, _ => st
def mtS (st : MS) : SS → SS → MS
  | .z x, .z y => mt0 st x y
  | _, _ => st
def mtL : List SS → List SS → MS → MS
  | x :: l, y :: l', st => mtL l l' (mtS st x y)
  | _, _, st => st
def mtC (st : MS) : SC → SC → MS
  | .cs l, .cs l' => mtL l l' st
  | .by (.v i), .by y => st.bx i y
  | .rw _ (.v i), .rw _ y => st.bx i y
  | .ob _ (.v i), .ob _ y => st.bx i y
  | _, _ => st
def mtA (st : MS) : SA → SA → MS
  | .s x, .s y => mtS st x y
  | .ag l, .ag l' => mtL l l' st
  | _, _ => st
def mtLA : List SA → List SA → MS → MS
  | x :: l, y :: l', st => mtLA l l' (mtA st x y)
  | _, _, st => st
def mtV (st : MS) : SV → SV → MS
  | .a x, .a y => mtA st x y
  | .tu l, .tu l' => mtLA l l' st
  | _, _ => st
def mtVs : List SV → List SV → MS → MS
  | x :: l, y :: l', st => mtVs l l' (mtV st x y)
  | _, _, st => st
def nilAt (j i : Nat) (B : Option SBlk) (m : SMem) : SMem := match m[j]? with
  | some (some b) => (match b.c with
    | .cs l => (match l[i]? with
      | some (.z .sl0) => (m.set j (some { b with c := .cs (l.set i (.z (.sl m.length (.i 0) 0 0 (.i 0) (.i 0)))) })) ++ [B]
      | _ => m)
    | _ => m)
  | _ => m
theorem nilAt_ok {n₀ : Nat} {a : List Value} {e : En} (j i : Nat) (B : Option SBlk) (m : SMem) : SeesP P n₀ a (denM e m) a (denM e (nilAt j i B m)) := by
  have rfl' : SeesP P n₀ a (denM e m) a (denM e m) := fun c g₀ g A W _ hr ha => ⟨g, hr, ha⟩
  unfold nilAt
  split
  case h_2 => exact rfl'
  rename_i b hb
  split
  case h_2 => exact rfl'
  rename_i l hl
  split
  case h_2 => exact rfl'
  rename_i hi
  have hc : (b.den e).cells = l.map (SS.den e) := by show b.c.den e = _; rw [hl]; rfl
  have h1 := SeesP.nilCell (P := P) (n₀ := n₀) (a := a) (m := denM e m) (j := j) (i := i) (b := b.den e) (denM_get hb) (by rw [hc, List.getElem?_map, hi]; rfl) (B.map (SBlk.den e))
  rw [denM_app, denM_set]
  have e1 : (some { b with c := .cs (l.set i (.z (.sl m.length (.i 0) 0 0 (.i 0) (.i 0)))) } : Option SBlk).map (SBlk.den e) = some { (b.den e) with cells := (b.den e).cells.set i (.slice (some ⟨(denM e m).length, 0, none⟩) 0 0) } := by
    rw [hc, denM_len]
    show some (ABlk.mk ((l.set i _).map (SS.den e)) b.elem b.w b.ex (SC.obj e (.cs _))) = some (ABlk.mk _ b.elem b.w b.ex (b.c.obj e))
    rw [hl, List.map_set]; rfl
  rw [e1]
  exact h1
def emptyOf : Option SBlk → Option SBlk
  | some b => match b.c with
    | .by _ => some { b with c := .by (.s []) }
    | .rw ks _ => some { b with c := .rw ks .nil }
    | _ => none
  | none => none
def nilL (t : Tm) (j : Nat) : List SS → List SS → Nat → SMem → SMem
  | .z (.sl t' _ _ _ _ _) :: l, .z .sl0 :: l', i, m => nilL t j l l' (i + 1) (nilAt j i (emptyOf (t.mem.getD t' none)) m)
  | _ :: l, _ :: l', i, m => nilL t j l l' (i + 1) m
  | _, _, _, m => m
theorem nilL_ok {n₀ : Nat} {a : List Value} {e : En} (t : Tm) (j : Nat) : ∀ (l l' : List SS) (i : Nat) (m : SMem), SeesP P n₀ a (denM e m) a (denM e (nilL t j l l' i m))
  | [], _, _, m => by unfold nilL; exact fun c g₀ g A W _ hr ha => ⟨g, hr, ha⟩
  | x :: l, [], i, m => by
    have : nilL t j (x :: l) [] i m = m := by unfold nilL; split <;> simp_all
    rw [this]; exact fun c g₀ g A W _ hr ha => ⟨g, hr, ha⟩
  | x :: l, y :: l', i, m => by
    unfold nilL
    split
    · rename_i h1 h2
      simp only [List.cons.injEq] at h1 h2
      obtain ⟨_, rfl⟩ := h1
      obtain ⟨_, rfl⟩ := h2
      exact (nilAt_ok j _ _ _).trans (nilL_ok t j _ _ _ _)
    · rename_i h1 h2
      simp only [List.cons.injEq] at h1 h2
      obtain ⟨_, rfl⟩ := h1
      obtain ⟨_, rfl⟩ := h2
      exact nilL_ok t j _ _ _ _
    · exact fun c g₀ g A W _ hr ha => ⟨g, hr, ha⟩
def normAt (g : Gm) (T : Tab P) (tc : SC) (j : Nat) (m : SMem) : SMem := match m[j]?, tc with
  | some (some b), .by _ => m.set j (some { b with c := norm g T b.elem b.c })
  | some (some b), .rw _ _ => m.set j (some { b with c := norm g T b.elem b.c })
  | _, _ => m
theorem normAt_den {g : Gm} {e : En} (hg : g.ok e) (T : Tab P) (tc : SC) (j : Nat) (m : SMem) : denM e (normAt g T tc j m) = denM e m := by
  have key : ∀ b : SBlk, m[j]? = some (some b) → denM e (m.set j (some { b with c := norm g T b.elem b.c })) = denM e m := by
    intro b hb
    rw [denM_set]
    refine List.ext_getElem? fun i => ?_
    rw [List.getElem?_set]
    split
    · rename_i h
      subst h
      have := denM_get (e := e) hb
      rw [if_pos (lt_of_getElem? this), this]
      show some (some (ABlk.mk ((norm g T b.elem b.c).den e) _ _ _ ((norm g T b.elem b.c).obj e))) = _
      rw [norm_den hg, norm_obj]; rfl
    · rfl
  unfold normAt
  split
  · rename_i b x hb; exact key b hb
  · rename_i b ks x hb; exact key b hb
  · rfl
def fixM (g : Gm) (T : Tab P) (t : Tm) : Nat → Nat → MS → SMem → MS × SMem
  | 0, _, st, m => (st, m)
  | n + 1, i, st, m => match t.mem[i]?, st.js[i]? with
    | some (some tb), some (some j) =>
      let m1 := normAt g T tb.c j m
      let m2 := match tb.c, m1[j]? with
        | .cs tl, some (some b) => (match b.c with | .cs l => nilL t j tl l 0 m1 | _ => m1)
        | _, _ => m1
      let st := match m2[j]? with
        | some (some b) => mtC st tb.c b.c
        | _ => st
      fixM g T t n (i + 1) st m2
    | _, _ => fixM g T t n (i + 1) st m
theorem fixM_ok {n₀ : Nat} {a : List Value} {g : Gm} {e : En} (hg : g.ok e) (T : Tab P) (t : Tm) : ∀ (n i : Nat) (st : MS) (m : SMem), SeesP P n₀ a (denM e m) a (denM e (fixM g T t n i st m).2)
  | 0, _, _, m => fun c g₀ g A W _ hr ha => ⟨g, hr, ha⟩
  | n + 1, i, st, m => by
    unfold fixM
    split
    · rename_i tb j _ _
      simp only
      have h1 : SeesP P n₀ a (denM e m) a (denM e (normAt g T tb.c j m)) := by
        rw [normAt_den hg]; exact fun c g₀ g A W _ hr ha => ⟨g, hr, ha⟩
      refine h1.trans (SeesP.trans ?_ (fixM_ok hg T t n _ _ _))
      split
      · split
        · exact nilL_ok t j _ _ _ _
        · exact fun c g₀ g A W _ hr ha => ⟨g, hr, ha⟩
      · exact fun c g₀ g A W _ hr ha => ⟨g, hr, ha⟩
    · exact fixM_ok hg T t n _ _ _
def getAll {α : Type} : List (Option α) → Option (List α)
  | [] => some []
  | some x :: l => (getAll l).map (x :: ·)
  | none :: _ => none
def orL : List (Option X) → List X → List (Option X)
  | some x :: l, _ :: hs => some x :: orL l hs
  | none :: l, h :: hs => some h :: orL l hs
  | l, _ => l
def closeAt (n : Nat) (g : Gm) (T : Tab P) (k : Nat) (t : Tm) (hs : List X) (j : Nat) (m : SMem) : Option SMem :=
  match fixM g T t t.mem.length 0 ⟨(List.replicate t.mem.length none).set 0 (some j), List.replicate t.n none⟩ m with
  | (st, m1) => match getAll st.js, getAll (orL st.es hs) with
    | some js, some es => closeS n g k t js es m1
    | _, _ => none
theorem closeAt_ok {n : Nat} {g : Gm} {e : En} (hg : g.ok e) {T : Tab P} {k : Nat} {t : Tm} (hk : IsOb P k t) {hs : List X} {j : Nat} {m m' : SMem} (h : closeAt n g T k t hs j m = some m') {n₀ : Nat} {a : List Value} : SeesP P n₀ a (denM e m) a (denM e m') := by
  unfold closeAt at h
  have h1 := fixM_ok (P := P) (n₀ := n₀) (a := a) hg T t t.mem.length 0 ⟨(List.replicate t.mem.length none).set 0 (some j), List.replicate t.n none⟩ m
  revert h h1
  generalize fixM g T t t.mem.length 0 ⟨(List.replicate t.mem.length none).set 0 (some j), List.replicate t.n none⟩ m = r
  obtain ⟨st, m1⟩ := r
  intro h h1
  simp only at h
  split at h
  · exact h1.trans (closeS_ok hg hk h)
  · cases h
end Go.SX
end
noncomputable section
namespace Go.SX
set_option linter.unusedSectionVars false
open Go Go.AE
set_option linter.constructorNameAsVariable false
set_option linter.unusedSimpArgs false
set_option linter.unusedVariables false
variable {P : Program} [Fam]
structure LC where
  n : Nat
  args : List SV
  mem : SMem
  fs : List Fact
  as : List X
  val : SV
  out : SMem
structure LC.Ok (P : Program) (f : FuncId) (c : LC) : Prop where
  call : ∀ ds : List D, ds.length = c.n → (∀ f ∈ c.fs, f.r.has (f.e.I (envOf ds))) → (∀ x ∈ c.as, x.B (envOf ds) = true) →
    ACall P f (c.args.map (SV.den (envOf ds))) (denM (envOf ds) c.mem) fun w m2 => w = c.val.den (envOf ds) ∧ m2 = denM (envOf ds) c.out
def subSA (es : List X) (ρ : Nat → Nat) : SA → SA
  | .s x => .s (subSS es ρ x)
  | .ag l => .ag (l.map (subSS es ρ))
def subSV (es : List X) (ρ : Nat → Nat) : SV → SV
  | .a x => .a (subSA es ρ x)
  | .tu l => .tu (l.map (subSA es ρ))
  | .gd c x => .top
def okSA (n : Nat) : SA → Bool
  | .s x => x.sc n && noFn x
  | .ag l => l.all (SS.sc n) && l.all noFn
def okSV (n : Nat) : SV → Bool
  | .a x => okSA n x
  | .tu l => l.all (okSA n)
  | .gd _ _ => false
theorem SS.den_scalar (e : En) (x : SS) : scalarV (x.den e) = true := by
  cases x with
  | z y => cases y <;> rfl
  | _ => rfl
theorem subSA_den {es : List X} {ρ : Nat → Nat} {e : En} {x : SA} (h : okSA es.length x = true) : (subSA es ρ x).den e = ren1 ρ (x.den (envOf (es.map (X.den e)))) ∧ (subSA es ρ x).den e = ren ρ (x.den (envOf (es.map (X.den e)))) := by
  cases x with
  | s x =>
    have h : (x.sc es.length && noFn x) = true := h
    rw [Bool.and_eq_true] at h
    have h1 : (subSS es ρ x).den e = renS ρ (x.den (envOf (es.map (X.den e)))) := subSS_den h.1 h.2
    have h2 := SS.den_scalar (envOf (es.map (X.den e))) x
    refine ⟨?_, ?_⟩
    · show (subSS es ρ x).den e = _
      rw [h1]; exact (ren1_scalar h2).symm
    · show (subSS es ρ x).den e = _
      rw [h1]; exact (ren_scalar h2).symm
  | ag l =>
    have h : (l.all (SS.sc es.length) && l.all noFn) = true := h
    rw [Bool.and_eq_true] at h
    have h1 := map_ren (ρ := ρ) (e := e) h.1 h.2
    refine ⟨?_, ?_⟩
    · show Value.agg ⟨(l.map (subSS es ρ)).map (SS.den e)⟩ = Value.agg ⟨_⟩
      rw [h1]
    · show Value.agg ⟨(l.map (subSS es ρ)).map (SS.den e)⟩ = Value.agg ⟨_⟩
      rw [h1]
theorem subSV_den {es : List X} {ρ : Nat → Nat} {e : En} {x : SV} (h : okSV es.length x = true) : (subSV es ρ x).den e = ren ρ (x.den (envOf (es.map (X.den e)))) := by
  cases x with
  | a x => exact (subSA_den h).2
  | tu l =>
    show Value.tuple ⟨(l.map (subSA es ρ)).map (SA.den e)⟩ = Value.tuple ⟨(l.map _).map _⟩
    rw [List.map_map, List.map_map]
    congr 2
    exact List.map_congr_left fun x hx => (subSA_den (List.all_eq_true.1 h x hx)).1
  | gd c x => cases h
def lowSA (n : Nat) : SA → Bool
  | .s x => lowSS n x
  | .ag l => l.all (lowSS n)
def lowSV (n : Nat) : SV → Bool
  | .a x => lowSA n x
  | .tu l => l.all (lowSA n)
  | .gd _ _ => false
theorem lowSS_den {n : Nat} {x : SS} (e : En) (h : lowSS n x = true) (hf : noFn x = true) : AE.lowS n (x.den e) = true := by
  cases x with
  | z y => cases y with
    | p j x w c => show decide (j < _) = true; have h1 : Nat.blt j n = true := h; rw [Nat.blt_eq] at h1; exact decide_eq_true h1
    | sl j x w c a b => show decide (j < _) = true; have h1 : Nat.blt j n = true := h; rw [Nat.blt_eq] at h1; exact decide_eq_true h1
    | _ => rfl
  | fn f a b => cases hf
  | _ => rfl
theorem lowAll_den {n : Nat} {l : List SS} (e : En) (h : l.all (lowSS n) = true) (hf : l.all noFn = true) : (l.map (SS.den e)).all (AE.lowS n) = true := by
  rw [List.all_map, List.all_eq_true]
  exact fun x hx => lowSS_den e (List.all_eq_true.1 h x hx) (List.all_eq_true.1 hf x hx)
theorem low1_scalar {n : Nat} {v : Value} (h : scalarV v = true) : low1 n v = AE.lowS n v := by
  cases v <;> first | rfl | cases h
theorem low_scalar {n : Nat} {v : Value} (h : scalarV v = true) : low n v = AE.lowS n v := by
  cases v <;> first | rfl | cases h
theorem lowSA_den {n k : Nat} {x : SA} (e : En) (h : lowSA n x = true) (hf : okSA k x = true) : low1 n (x.den e) = true ∧ low n (x.den e) = true := by
  cases x with
  | s x =>
    have hf : (x.sc k && noFn x) = true := hf
    rw [Bool.and_eq_true] at hf
    have h1 := lowSS_den e h hf.2
    have h2 := SS.den_scalar e x
    refine ⟨?_, ?_⟩
    · show low1 n (x.den e) = true
      rw [low1_scalar h2]; exact h1
    · show low n (x.den e) = true
      rw [low_scalar h2]; exact h1
  | ag l =>
    have hf : (l.all (SS.sc k) && l.all noFn) = true := hf
    rw [Bool.and_eq_true] at hf
    exact ⟨lowAll_den e h hf.2, lowAll_den e h hf.2⟩
theorem lowSV_den {n k : Nat} {x : SV} (e : En) (h : lowSV n x = true) (hf : okSV k x = true) : low n (x.den e) = true := by
  cases x with
  | a x => exact (lowSA_den e h hf).2
  | tu l =>
    show ((l.map (SA.den e)).all (low1 n)) = true
    rw [List.all_map, List.all_eq_true]
    exact fun x hx => (lowSA_den e (List.all_eq_true.1 h x hx) (List.all_eq_true.1 hf x hx)).1
  | gd c x => cases h
def LC.ok (c : LC) : Bool := c.args.all (okSV c.n) && (c.args.all (lowSV c.mem.length) && (c.mem.all (okOB c.n) && (c.mem.all (lowOB c.mem.length) && (c.fs.all (fun f => f.e.sc c.n) && (c.as.all (X.sc c.n) && (okSV c.n c.val && (c.out.all (okOB c.n) && Nat.ble c.mem.length c.out.length)))))))
def putSB : List (Nat × Option SBlk) → SMem → SMem
  | [], m => m
  | (j, b) :: l, m => putSB l (m.set j b)
theorem putSB_den (e : En) : ∀ (l : List (Nat × Option SBlk)) (m : SMem), denM e (putSB l m) = putL (l.map fun p => (p.1, p.2.map (SBlk.den e))) (denM e m)
  | [], _ => rfl
  | (j, b) :: l, m => by
    show denM e (putSB l (m.set j b)) = putL _ ((denM e m).set j _)
    rw [putSB_den e l, denM_set]
def ownS (m : SMem) (i : Nat) : Bool := match m.getD i none with
  | some b => b.w || (match b.c with | .ob _ _ => true | _ => false)
  | none => false
theorem denM_getD (e : En) (m : SMem) (i : Nat) : (denM e m).getD i none = (m.getD i none).map (SBlk.den e) := by
  simp only [denM, List.getD_eq_getElem?_getD, List.getElem?_map]
  cases m[i]? <;> rfl
theorem ownS_den (e : En) (m : SMem) (i : Nat) : ownAt (denM e m) i = ownS m i := by
  unfold ownAt ownS
  rw [denM_getD]
  cases h : m.getD i none with
  | none => rfl
  | some b =>
    show (b.w || (b.c.obj e).isSome) = (b.w || (match b.c with | .ob _ _ => true | _ => false))
    cases b.c <;> rfl
def backS (js : List Nat) (ρ : Nat → Nat) (es : List X) (c : LC) (m : SMem) : SMem :=
  putSB ((List.range js.length).filterMap fun i => bif ownS c.mem i then some (js.getD i 0, (c.out.getD i none).map (subB es ρ)) else none) m
def mtBs (m : SMem) : List (Option SBlk) → Nat → MS → MS
  | some b :: l, i, st => mtBs m l (i + 1) (match st.js[i]? with
    | some (some j) => (match m[j]? with
      | some (some a) => mtC st b.c a.c
      | _ => st)
    | _ => st)
  | none :: l, i, st => mtBs m l (i + 1) st
  | [], _, st => st
def normBs (g : Gm) (T : Tab P) : List (Option SBlk) → List (Option Nat) → SMem → SMem
  | some b :: l, some j :: js, m => normBs g T l js (normAt g T b.c j m)
  | _ :: l, _ :: js, m => normBs g T l js m
  | _, _, m => m
theorem normBs_den {g : Gm} {e : En} (hg : g.ok e) (T : Tab P) : ∀ (l : List (Option SBlk)) (js : List (Option Nat)) (m : SMem), denM e (normBs g T l js m) = denM e m
  | [], _, _ => by unfold normBs; rfl
  | _ :: _, [], _ => by unfold normBs; split <;> simp_all
  | x :: l, y :: js, m => by
    unfold normBs
    split
    · rename_i h1 h2
      simp only [List.cons.injEq] at h1 h2
      obtain ⟨_, rfl⟩ := h1
      obtain ⟨_, rfl⟩ := h2
      rw [normBs_den hg T, normAt_den hg]
    · rename_i h1 h2
      simp only [List.cons.injEq] at h1 h2
      obtain ⟨_, rfl⟩ := h1
      obtain ⟨_, rfl⟩ := h2
      exact normBs_den hg T _ _ _
    · rfl
def lcBlk (n : Nat) (g : Gm) (es : List X) (js : List Nat) (m : SMem) : List (Option SBlk) → Nat → Bool
  | [], _ => true
  | none :: l, i => lcBlk n g es js m l (i + 1)
  | some b :: l, i => (match m[js.getD i 0]? with
    | some (some a) => alikeC n g a.c (subC es (fun i => js.getD i 0) b.c) && ((!b.w || Nat.beq a.elem b.elem) && (eqB a.w b.w && (!b.ex || a.ex)))
    | _ => false) && lcBlk n g es js m l (i + 1)
theorem lcBlk_get {n : Nat} {g : Gm} {es : List X} {js : List Nat} {m : SMem} : ∀ {l : List (Option SBlk)} {i t : Nat} {b : SBlk}, lcBlk n g es js m l i = true → l[t]? = some (some b) →
    ∃ a, m[js.getD (i + t) 0]? = some (some a) ∧ alikeC n g a.c (subC es (fun i => js.getD i 0) b.c) = true ∧ (b.w = true → a.elem = b.elem) ∧ a.w = b.w ∧ (b.ex = true → a.ex = true)
  | [], _, _, _, _, h => by simp at h
  | x :: l, i, 0, b, hc, h => by
    simp only [List.getElem?_cons_zero, Option.some.injEq] at h
    subst h
    unfold lcBlk at hc
    rw [Bool.and_eq_true] at hc
    have h1 := hc.1
    split at h1
    · rename_i a ha
      simp only [Bool.and_eq_true, Bool.or_eq_true, Bool.not_eq_true'] at h1
      refine ⟨a, ha, h1.1, fun hw => ?_, eqB_eq h1.2.2.1, fun hx => ?_⟩
      · rcases h1.2.1 with h2 | h2
        · rw [hw] at h2; cases h2
        · exact Nat.eq_of_beq_eq_true h2
      · rcases h1.2.2.2 with h2 | h2
        · rw [hx] at h2; cases h2
        · exact h2
    · cases h1
  | x :: l, i, t + 1, b, hc, h => by
    have h : l[t]? = some (some b) := by simpa using h
    have hc' : lcBlk n g es js m l (i + 1) = true := by
      cases x with
      | none => exact hc
      | some y =>
        unfold lcBlk at hc
        rw [Bool.and_eq_true] at hc
        exact hc.2
    have := lcBlk_get hc' h
    rw [show i + 1 + t = i + (t + 1) from by omega] at this
    exact this
theorem filterMap_congr' {α β : Type} {f k : α → Option β} : ∀ {l : List α}, (∀ x ∈ l, f x = k x) → l.filterMap f = l.filterMap k
  | [], _ => rfl
  | x :: l, h => by
    rw [List.filterMap_cons, List.filterMap_cons, h x List.mem_cons_self, filterMap_congr' (l := l) fun y hy => h y (List.mem_cons_of_mem _ hy)]
def conG (n : Nat) (T : Tab P) (c : LC) : ConF := fun g args m0 =>
  let st := mtVs c.args args ⟨List.replicate c.mem.length none, List.replicate c.n none⟩
  let m := normBs g T c.mem st.js m0
  let st := mtBs m c.mem 0 st
  match getAll st.js, getAll st.es with
  | some js, some es =>
    bif Nat.beq js.length c.mem.length && (Nat.beq es.length c.n && (nodupB js && (js.all (fun j => Nat.blt j m.length) && (eqL (alikeV n g) args (c.args.map (subSV es (place js m.length))) && (lcBlk n g es js m c.mem 0 && c.fs.all (fun f => factX f 0 es g))))))
    then some (c.as.map (X.sub 0 es), subSV es (place js m.length) c.val, backS js (place js m.length) es c m ++ (c.out.drop c.mem.length).map fun b => b.map (subB es (place js m.length)))
    else none
  | _, _ => none
theorem conG_ok {n : Nat} {T : Tab P} {f : FuncId} {c : LC} (hc : c.ok = true) (h : c.Ok P f) : Con P f (conG n T c) := by
  intro g args mm0 ns v m' e hcon hg hns
  unfold conG at hcon
  simp only at hcon
  generalize hst : mtBs (normBs g T c.mem (mtVs c.args args ⟨List.replicate c.mem.length none, List.replicate c.n none⟩).js mm0) c.mem 0 (mtVs c.args args ⟨List.replicate c.mem.length none, List.replicate c.n none⟩) = st at hcon
  have hden : denM e (normBs g T c.mem (mtVs c.args args ⟨List.replicate c.mem.length none, List.replicate c.n none⟩).js mm0) = denM e mm0 := normBs_den hg T _ _ _
  generalize normBs g T c.mem (mtVs c.args args ⟨List.replicate c.mem.length none, List.replicate c.n none⟩).js mm0 = m at hcon hden
  split at hcon
  case h_2 => cases hcon
  rename_i js es _ _
  cases hb : (Nat.beq js.length c.mem.length && (Nat.beq es.length c.n && (nodupB js && (js.all (fun j => Nat.blt j m.length) && (eqL (alikeV n g) args (c.args.map (subSV es (place js m.length))) && (lcBlk n g es js m c.mem 0 && c.fs.all (fun f => factX f 0 es g))))))) with
  | false => rw [hb] at hcon; cases hcon
  | true =>
  rw [hb] at hcon
  simp only [cond_true, Option.some.injEq, Prod.mk.injEq] at hcon
  obtain ⟨rfl, rfl, rfl⟩ := hcon
  simp only [Bool.and_eq_true] at hb
  obtain ⟨h1, h2, h3, h4, h5, h6, h7⟩ := hb
  have h1 := Nat.eq_of_beq_eq_true h1
  have h2 := Nat.eq_of_beq_eq_true h2
  unfold LC.ok at hc
  simp only [Bool.and_eq_true] at hc
  obtain ⟨c1, c2, c3, c4, c5, c6, c7, c8, c9⟩ := hc
  have c9 := Nat.le_of_ble_eq_true c9
  have hds : (es.map (X.den e)).length = c.n := by rw [List.length_map, h2]
  have hcall := h.call (es.map (X.den e)) hds (fun f hf => by
    have := factX_ok hg (List.all_eq_true.1 h7 f hf) (e0 := ⟨fun _ => .u⟩) (fun _ hk => by omega)
    rw [ext_env] at this
    exact this) (fun x hx => by
    have := hns (x.sub 0 es) (List.mem_map.2 ⟨x, hx, rfl⟩)
    simp only [X.B] at this ⊢
    rwa [sub0_den (by rw [h2]; exact List.all_eq_true.1 c6 x hx)] at this)
  have okb : ∀ {tt : Nat} {b : SBlk}, c.mem[tt]? = some (some b) → okC es.length b.c = true := by
    intro tt b hb
    rw [h2]
    exact List.all_eq_true.1 c3 _ (List.mem_of_getElem? hb)
  have hargs : args.map (SV.den e) = (c.args.map (SV.den (envOf (es.map (X.den e))))).map (ren (place js (denM e m).length)) := by
    rw [denM_len, eqL_den (fun x y hxy => alikeV_ok hg hxy) h5, List.map_map, List.map_map]
    exact List.map_congr_left fun x hx => subSV_den (by rw [h2]; exact List.all_eq_true.1 c1 x hx)
  have hshow : ShowsW (denM e m) js (denM (envOf (es.map (X.den e))) c.mem) := by
    refine ⟨by rw [denM_len, h1], nodupB_ok h3, fun j hj => ?_, fun i b hb => ?_⟩
    · rw [denM_len]
      have := List.all_eq_true.1 h4 j hj
      rwa [Nat.blt_eq] at this
    · simp only [denM, List.getElem?_map, Option.map_eq_some_iff] at hb
      obtain ⟨x, hx, hb⟩ := hb
      obtain ⟨b0, rfl, rfl⟩ := hb
      obtain ⟨a1, ha1, hal, he1, hw1, hx1⟩ := lcBlk_get h6 hx
      rw [Nat.zero_add] at ha1
      obtain ⟨e1, e2⟩ := alikeC_ok hg hal
      obtain ⟨e3, e4⟩ := subC_den (e := e) (ρ := fun i => js.getD i 0) (okb hx)
      refine ⟨?_, a1.den e, denM_get ha1, hw1, e2.trans e4, e1.trans e3, he1, hx1⟩
      have hl : lowC c.mem.length b0.c = true := List.all_eq_true.1 c4 _ (List.mem_of_getElem? hx)
      have hf := okb hx
      unfold okC at hf
      rw [Bool.and_eq_true] at hf
      show ((b0.c.den _).all _) = true
      cases hbc : b0.c with
      | cs l =>
        rw [hbc] at hl hf
        rw [h1]
        exact lowAll_den _ hl hf.2
      | «by» x => exact all_lowS_le (Nat.zero_le _) (bytes_low _)
      | rw ks x =>
        refine List.all_eq_true.2 fun v hv => ?_
        obtain ⟨r, _, hv⟩ := List.mem_flatMap.1 hv
        exact List.all_eq_true.1 (all_lowS_le (Nat.zero_le _) (rowV_low ks r)) v hv
      | ob k' x =>
        refine List.all_eq_true.2 fun v hv => ?_
        obtain ⟨vc, _, rfl⟩ := List.mem_map.1 hv
        cases vc <;> rfl
  have hlow : (c.args.map (SV.den (envOf (es.map (X.den e))))).all (low js.length) = true := by
    rw [List.all_map, List.all_eq_true, h1]
    exact fun x hx => lowSV_den (k := c.n) _ (List.all_eq_true.1 c2 x hx) (List.all_eq_true.1 c1 x hx)
  have hfr := ACall.frameW (K := fun v a b => v = c.val.den (envOf (es.map (X.den e))) ∧ a = (denM (envOf (es.map (X.den e))) c.out).take c.mem.length ∧ b = (denM (envOf (es.map (X.den e))) c.out).drop c.mem.length)
    (hcall.mono fun w m2 hw => ⟨(denM (envOf (es.map (X.den e))) c.out).take c.mem.length, (denM (envOf (es.map (X.den e))) c.out).drop c.mem.length, by rw [List.take_append_drop]; exact hw.2, by rw [List.length_take, denM_len, denM_len]; omega, hw.1, rfl, rfl⟩) (denM e m) js hshow hlow
  rw [← hargs] at hfr
  rw [← hden]
  refine hfr.mono ?_
  rintro w m2 ⟨v0, m0', nb, ⟨rfl, rfl, rfl⟩, rfl, rfl⟩
  refine ⟨?_, ?_⟩
  · rw [denM_len]
    exact (subSV_den (by rw [h2]; exact c7)).symm
  · rw [denM_app]
    have okO : ∀ b ∈ c.out, okOB es.length b = true := fun b hb => by rw [h2]; exact List.all_eq_true.1 c8 b hb
    congr 1
    · unfold backM backS
      rw [putSB_den, denM_len]
      congr 1
      rw [List.map_filterMap]
      refine filterMap_congr' fun i hi => ?_
      have hil := List.mem_range.1 hi
      rw [ownS_den]
      cases ownS c.mem i with
      | false => rfl
      | true =>
        simp only [cond_true, Option.map_some]
        congr 2
        have e1 : ((denM (envOf (es.map (X.den e))) c.out).take c.mem.length).getD i none = (c.out.getD i none).map (SBlk.den (envOf (es.map (X.den e)))) := by
          rw [← denM_getD, List.getD_eq_getElem?_getD, List.getD_eq_getElem?_getD, List.getElem?_take, if_pos (by omega)]
        rw [e1]
        refine (subOB_den ?_).symm
        rw [List.getD_eq_getElem?_getD]
        cases hx : c.out[i]? with
        | none => rfl
        | some x => exact okO x (List.mem_of_getElem? hx)
    · rw [denM_len]
      unfold denM
      rw [← List.map_drop, List.map_map, List.map_map]
      exact List.map_congr_left fun b hb => (subOB_den (okO b (List.mem_of_mem_drop hb))).symm
end Go.SX
end
noncomputable section
namespace Go.SX
set_option linter.unusedSectionVars false
open Go Go.AE
set_option linter.constructorNameAsVariable false
set_option linter.unusedSimpArgs false
set_option linter.unusedVariables false
variable {P : Program} [Fam]
def reS0 (ρ : Nat → Option Nat) : S0 → SS
  | .p j x w c => match ρ j with
    | some i => .z (.p i x w c)
    | none => .top
  | .sl j x w c n m => match ρ j with
    | some i => .z (.sl i x w c n m)
    | none => .top
  | x => .z x
def reSS (ρ : Nat → Option Nat) : SS → SS
  | .z x => reS0 ρ x
  | x => x
theorem reSS_den (ρ : Nat → Option Nat) (e : En) {x : SS} (hf : noFn x = true) : (reSS ρ x).den e = reS ρ (x.den e) := by
  cases x with
  | z y => cases y with
    | p j x w c =>
      show (reS0 ρ (.p j x w c)).den e = reS ρ (.pointer (some ⟨j, _, none⟩))
      unfold reS0 reS
      simp only
      cases ρ j <;> rfl
    | sl j x w c n m =>
      show (reS0 ρ (.sl j x w c n m)).den e = reS ρ (.slice (some ⟨j, _, none⟩) _ _)
      unfold reS0 reS
      simp only
      cases ρ j <;> rfl
    | _ => rfl
  | fn f a b => cases hf
  | _ => rfl
def reSA (ρ : Nat → Option Nat) : SA → SA
  | .s x => .s (reSS ρ x)
  | .ag l => .ag (l.map (reSS ρ))
def noFnA : SA → Bool
  | .s x => noFn x
  | .ag l => l.all noFn
theorem reSA_den (ρ : Nat → Option Nat) (e : En) {x : SA} (hf : noFnA x = true) : (reSA ρ x).den e = re1 ρ (x.den e) := by
  cases x with
  | s x =>
    show (reSS ρ x).den e = re1 ρ (x.den e)
    rw [reSS_den ρ e hf, re1_scalar (SS.den_scalar e x)]
  | ag l =>
    show Value.agg ⟨(l.map (reSS ρ)).map (SS.den e)⟩ = Value.agg ⟨(l.map (SS.den e)).map (reS ρ)⟩
    rw [List.map_map, List.map_map]
    congr 2
    exact List.map_congr_left fun x hx => reSS_den ρ e (List.all_eq_true.1 hf x hx)
def reSV (ρ : Nat → Option Nat) : SV → SV
  | .a x => .a (reSA ρ x)
  | .tu l => .tu (l.map (reSA ρ))
  | .gd c x => .gd c x
def noFnV : SV → Bool
  | .a x => noFnA x
  | .tu l => l.all noFnA
  | .gd _ _ => false
theorem SA.notTup (e : En) (x : SA) (ρ : Nat → Option Nat) : re ρ (x.den e) = re1 ρ (x.den e) := by
  cases x with
  | s x =>
    have := SS.den_scalar e x
    show re ρ (x.den e) = re1 ρ (x.den e)
    cases h : x.den e <;> first | rfl | (rw [h] at this; cases this)
  | ag l => rfl
theorem reSV_den (ρ : Nat → Option Nat) (e : En) {x : SV} (hf : noFnV x = true) : (reSV ρ x).den e = re ρ (x.den e) := by
  cases x with
  | a x =>
    show (reSA ρ x).den e = re ρ (x.den e)
    rw [SA.notTup, reSA_den ρ e hf]
  | tu l =>
    show Value.tuple ⟨(l.map (reSA ρ)).map (SA.den e)⟩ = Value.tuple ⟨(l.map (SA.den e)).map (re1 ρ)⟩
    rw [List.map_map, List.map_map]
    congr 2
    exact List.map_congr_left fun x hx => reSA_den ρ e (List.all_eq_true.1 hf x hx)
  | gd c x => cases hf
def reC (ρ : Nat → Option Nat) : SC → SC
  | .cs l => .cs (l.map (reSS ρ))
  | c => c
def noFnC : SC → Bool
  | .cs l => l.all noFn
  | _ => true
theorem reS_vis (ρ : Nat → Option Nat) (l : List VC) (d : D) : (l.map (VC.val d)).map (reS ρ) = l.map (VC.val d) := by
  rw [List.map_map]
  exact List.map_congr_left fun v _ => by cases v <;> rfl
theorem reC_den (ρ : Nat → Option Nat) (e : En) {c : SC} (hf : noFnC c = true) : (reC ρ c).den e = (c.den e).map (reS ρ) ∧ (reC ρ c).obj e = c.obj e := by
  cases c with
  | cs l =>
    refine ⟨?_, rfl⟩
    show (l.map (reSS ρ)).map (SS.den e) = (l.map (SS.den e)).map (reS ρ)
    rw [List.map_map, List.map_map]
    exact List.map_congr_left fun x hx => reSS_den ρ e (List.all_eq_true.1 hf x hx)
  | «by» x => exact ⟨(reS_byts ρ _).symm, rfl⟩
  | rw ks x => exact ⟨(reS_rows ρ ks _).symm, rfl⟩
  | ob k x => exact ⟨(reS_vis ρ _ _).symm, rfl⟩
theorem ren00_id (v : Value) : ren00 id v = v := by
  unfold ren00
  split <;> rfl
theorem ren01_id (v : Value) : ren01 id v = v := by
  unfold ren01
  split
  · rename_i l
    rw [show l.map (ren00 id) = l from (List.map_congr_left fun v _ => ren00_id v).trans (List.map_id l)]
  · exact ren00_id _
theorem renS_id (v : Value) : renS id v = v := by
  unfold renS
  split
  · rfl
  · rfl
  · rename_i fn f c
    rw [show f.map (ren01 id) = f from (List.map_congr_left fun v _ => ren01_id v).trans (List.map_id f), show c.map (ren01 id) = c from (List.map_congr_left fun v _ => ren01_id v).trans (List.map_id c)]
  · rfl
theorem map_renS_id (l : List Value) : l.map (renS id) = l := (List.map_congr_left fun v _ => renS_id v).trans (List.map_id l)
def alikeST (n : Nat) (g : Gm) : SS → SS → Bool
  | .top, .top => true
  | x, y => alikeS n g x y
theorem alikeST_ok {n : Nat} {g : Gm} {e : En} (hg : g.ok e) {a b : SS} (h : alikeST n g a b = true) : a.den e = b.den e := by
  unfold alikeST at h
  split at h
  · rfl
  · exact alikeS_ok hg h
def tmInv (n : Nat) (g : Gm) (t : Tm) (x : X) : Bool := t.fs.all (fun f => factX f 0 (compX t.n x) g) && t.as.all (fun c => taut n g (c.sub 0 (compX t.n x)))
theorem tmInv_ok {n : Nat} {g : Gm} {e : En} (hg : g.ok e) {t : Tm} (ht : t.ok = true) {x : X} (h : tmInv n g t x = true) : t.inv (x.den e) := by
  unfold tmInv at h
  rw [Bool.and_eq_true] at h
  unfold Tm.ok at ht
  simp only [Bool.and_eq_true] at ht
  obtain ⟨_, _, _, _, q4, q5⟩ := ht
  refine ⟨fun f hf => ?_, fun c hc => ?_⟩
  · rw [← compX_den]
    have := factX_ok hg (List.all_eq_true.1 h.1 f hf) (e0 := ⟨fun _ => .u⟩) (fun _ hk => by omega)
    rw [ext_env] at this
    exact this
  · rw [← compX_den]
    have := taut_ok n g _ hg (List.all_eq_true.1 h.2 c hc)
    simp only [X.B] at this ⊢
    rwa [sub0_den (by rw [compX_len]; exact List.all_eq_true.1 q5 c hc)] at this
def obBlks (n : Nat) (g : Gm) (es es' : List X) : List (Option SBlk) → Bool
  | [] => true
  | none :: l => obBlks n g es es' l
  | some b :: l => alikeC n g (subC es id b.c) (subC es' id b.c) && obBlks n g es es' l
theorem obBlks_ok {n : Nat} {g : Gm} {e : En} (hg : g.ok e) {es es' : List X} (hl : es.length = es'.length) : ∀ {l : List (Option SBlk)}, l.all (okOB es.length) = true → obBlks n g es es' l = true → denM (envOf (es.map (X.den e))) l = denM (envOf (es'.map (X.den e))) l
  | [], _, _ => rfl
  | none :: l, h, hb => by
    rw [List.all_cons, Bool.and_eq_true] at h
    show none :: denM _ l = none :: denM _ l
    rw [obBlks_ok hg hl h.2 hb]
  | some b :: l, h, hb => by
    rw [List.all_cons, Bool.and_eq_true] at h
    unfold obBlks at hb
    rw [Bool.and_eq_true] at hb
    show some (b.den _) :: denM _ l = some (b.den _) :: denM _ l
    rw [obBlks_ok hg hl h.2 hb.2]
    obtain ⟨e1, e2⟩ := alikeC_ok hg hb.1
    have hok : okC es.length b.c = true := h.1
    obtain ⟨e3, e4⟩ := subC_den (e := e) (ρ := id) hok
    rw [hl] at hok
    obtain ⟨e5, e6⟩ := subC_den (e := e) (ρ := id) hok
    have q1 : b.c.den (envOf (es.map (X.den e))) = b.c.den (envOf (es'.map (X.den e))) := by
      rw [e3, e5, map_renS_id, map_renS_id] at e1; exact e1
    have q2 : b.c.obj (envOf (es.map (X.den e))) = b.c.obj (envOf (es'.map (X.den e))) := by
      rw [e4, e6] at e2; exact e2
    show some (ABlk.mk (b.c.den _) _ _ _ (b.c.obj _)) :: _ = some (ABlk.mk (b.c.den _) _ _ _ (b.c.obj _)) :: _
    rw [q1, q2]
abbrev Tms := Nat → Option Tm
def TmsOk (P : Program) (tms : Tms) : Prop := ∀ k t, tms k = some t → IsOb P k t
def obLike (n : Nat) (g : Gm) (tms : Tms) (k : Nat) (x y : X) : Bool := eqX x y || match tms k with
  | some t => obBlks n g (compX t.n x) (compX t.n y) t.mem && (tmInv n g t x && (tmInv n g t y && eqL (alikeST n g) (visS k x) (visS k y)))
  | none => false
theorem obLike_ok {n : Nat} {g : Gm} {e : En} (hg : g.ok e) {tms : Tms} (ht : TmsOk P tms) {k : Nat} {x y : X} (h : obLike n g tms k x y = true) : (SC.ob k x).den e = (SC.ob k y).den e ∧ (SC.ob k x).obj e = (SC.ob k y).obj e := by
  unfold obLike at h
  rw [Bool.or_eq_true] at h
  rcases h with h | h
  · rw [eqX_eq h]; exact ⟨rfl, rfl⟩
  · split at h
    case h_2 => cases h
    rename_i t hk
    simp only [Bool.and_eq_true] at h
    obtain ⟨h1, h2, h3, h4⟩ := h
    obtain ⟨hok, hob⟩ := ht k t hk
    refine ⟨?_, ?_⟩
    · show (Fam.vis k).map (VC.val (x.den e)) = (Fam.vis k).map (VC.val (y.den e))
      rw [← visS_den, ← visS_den]
      exact eqL_den (fun x y hxy => alikeST_ok hg hxy) h4
    · show some (Fam.ob k (x.den e)) = some (Fam.ob k (y.den e))
      have i1 := tmInv_ok hg hok h2
      have i2 := tmInv_ok hg hok h3
      have hok' := hok
      unfold Tm.ok at hok'
      simp only [Bool.and_eq_true] at hok'
      have := obBlks_ok hg (es := compX t.n x) (es' := compX t.n y) (by rw [compX_len, compX_len]) (by rw [compX_len]; exact hok'.2.1) h1
      rw [compX_den, compX_den] at this
      rw [hob, hob, this, show t.inv (x.den e) = t.inv (y.den e) from propext ⟨fun _ => i2, fun _ => i1⟩]
def alikeCO (n : Nat) (g : Gm) (tms : Tms) : SC → SC → Bool
  | .ob k x, .ob k' y => Nat.beq k k' && obLike n g tms k x y
  | a, b => alikeC n g a b
theorem alikeCO_ok {n : Nat} {g : Gm} {e : En} (hg : g.ok e) {tms : Tms} (ht : TmsOk P tms) {a b : SC} (h : alikeCO n g tms a b = true) : a.den e = b.den e ∧ a.obj e = b.obj e := by
  unfold alikeCO at h
  split at h
  · rw [Bool.and_eq_true] at h
    obtain rfl := Nat.eq_of_beq_eq_true h.1
    exact obLike_ok hg ht h.2
  · exact alikeC_ok hg h
end Go.SX
end
noncomputable section
namespace Go.SX
set_option linter.unusedSectionVars false
open Go Go.AE
set_option linter.constructorNameAsVariable false
set_option linter.unusedSimpArgs false
set_option linter.unusedVariables false
variable {P : Program} [Fam]
theorem _root_.Go.AE.ACall.openK {f : FuncId} {as : List Value} {m : Mem} {K : Value → Mem → Prop} {j : Nat} {vis : List Value} {el : TypeId} {ex : Bool} {tm : Mem} {inv : Prop} (hj : m[j]? = some (some (obBlk vis el ex (obT P tm inv)))) (ha : .pointer (some ⟨j, 0, none⟩) ∈ as)
    (h : inv → ACall P f as (openM j tm m) K) : ACall P f as m K := by
  intro c g W args' hr hargs
  obtain ⟨w, hw⟩ := hargs.mem ha
  obtain ⟨gb, hg⟩ := hw.root
  obtain ⟨hinv, gt, hr2⟩ := hr.open hj hg
  refine (h hinv c (g ++ gt) W args' hr2 (hargs.imp fun _ _ h => h.app)).mono ?_
  rintro e W' ⟨v, v', m', g', rfl, hK, hr', hv⟩
  rw [List.append_assoc] at hr' hv
  exact ⟨v, v', m', gt ++ g', rfl, hK, hr', hv⟩
def openL (tms : Tms) : List (Nat × Nat) → SMem → Option (SMem × List Fact × List X)
  | [], m => some (m, [], [])
  | (j, k) :: l, m => match m[j]?, tms k with
    | some (some ⟨.ob k' x, 0, false, false⟩), some t => bif Nat.beq k' k then (match openL tms l (openS j t x m) with
      | some (m', fs, as) => some (m', (t.fs.map fun f => ⟨f.e.sub 0 (compX t.n x), f.r⟩) ++ fs, (t.as.map fun c => c.sub 0 (compX t.n x)) ++ as)
      | none => none) else none
    | _, _ => none
theorem openL_ok {tms : Tms} (ht : TmsOk P tms) {e : En} {f : FuncId} {as : List Value} {K : Value → Mem → Prop} : ∀ (l : List (Nat × Nat)) (m m' : SMem) (fs : List Fact) (xs : List X), openL tms l m = some (m', fs, xs) → (∀ p ∈ l, .pointer (some ⟨p.1, 0, none⟩) ∈ as) →
    ((∀ f ∈ fs, f.r.has (f.e.I e)) → (∀ c ∈ xs, c.B e = true) → ACall P f as (denM e m') K) → ACall P f as (denM e m) K
  | [], m, m', fs, xs, h, _, hk => by
    cases h
    exact hk (fun _ h => by cases h) (fun _ h => by cases h)
  | (j, k) :: l, m, m', fs, xs, h, hp, hk => by
    unfold openL at h
    split at h
    case h_2 => cases h
    rename_i k' x t hj htk
    cases hkk : Nat.beq k' k with
    | false => rw [hkk] at h; cases h
    | true =>
      rw [hkk] at h
      simp only [cond_true] at h
      obtain rfl := Nat.eq_of_beq_eq_true hkk
      split at h
      case h_2 => cases h
      rename_i m1 fs1 xs1 h1
      cases h
      obtain ⟨hok, hob⟩ := ht _ t htk
      have hjd : (denM e m)[j]? = some (some (obBlk ((Fam.vis k').map (VC.val (x.den e))) 0 false (obT P (denM (envOf (comps t.n (x.den e))) t.mem) (t.inv (x.den e))))) := by
        rw [← hob]
        exact denM_get hj
      refine ACall.openK hjd (hp _ List.mem_cons_self) fun hinv => ?_
      rw [← openS_den hok]
      have hok' := hok
      unfold Tm.ok at hok'
      simp only [Bool.and_eq_true] at hok'
      obtain ⟨_, _, _, _, q4, q5⟩ := hok'
      refine openL_ok ht l _ _ _ _ h1 (fun p hp' => hp p (List.mem_cons_of_mem _ hp')) fun hfs hxs => hk (fun f hf => ?_) (fun c hc => ?_)
      · rcases List.mem_append.1 hf with hf | hf
        · obtain ⟨f0, hf0, rfl⟩ := List.mem_map.1 hf
          have := hinv.1 f0 hf0
          show f0.r.has (((f0.e.sub 0 (compX t.n x)).den e).toI)
          rw [sub0_den (by rw [compX_len]; exact List.all_eq_true.1 q4 f0 hf0), compX_den]
          exact this
        · exact hfs f hf
      · rcases List.mem_append.1 hc with hc | hc
        · obtain ⟨c0, hc0, rfl⟩ := List.mem_map.1 hc
          have := hinv.2 c0 hc0
          show (((c0.sub 0 (compX t.n x)).den e).toB) = true
          rw [sub0_den (by rw [compX_len]; exact List.all_eq_true.1 q5 c0 hc0), compX_den]
          exact this
        · exact hxs c hc
def partsOf (out : SMem) (t : Nat) (tm : Tm) : List X := match out.getD t none with
  | some b => (match b.c with
    | .ob _ x => compX tm.n x
    | _ => [])
  | none => []
def closeAll (n : Nat) (g : Gm) (T : Tab P) (tms : Tms) (out : SMem) (js : List Nat) : List (Nat × Nat) → SMem → Option SMem
  | [], m => some m
  | (t, k) :: l, m => match tms k with
    | some tm => (match closeAt n g T k tm (partsOf out t tm) (js.getD t 0) m with
      | some m' => closeAll n g T tms out js l m'
      | none => none)
    | none => none
theorem closeAll_ok {n : Nat} {g : Gm} {e : En} (hg : g.ok e) {T : Tab P} {tms : Tms} (ht : TmsOk P tms) {out : SMem} {js : List Nat} {n₀ : Nat} {a : List Value} : ∀ {l : List (Nat × Nat)} {m m' : SMem}, closeAll n g T tms out js l m = some m' → SeesP P n₀ a (denM e m) a (denM e m')
  | [], m, m', h => by cases h; exact fun c g₀ g A W _ hr ha => ⟨g, hr, ha⟩
  | (t, k) :: l, m, m', h => by
    unfold closeAll at h
    split at h
    case h_2 => cases h
    rename_i tm htm
    split at h
    case h_2 => cases h
    rename_i m1 h1
    exact (closeAt_ok hg (ht k tm htm) h1).trans (closeAll_ok hg ht h)
def outChk (n : Nat) (g : Gm) (tms : Tms) (ρ : Nat → Option Nat) : List (Option SBlk) → List (Option SBlk) → Bool
  | [], [] => true
  | _ :: l, none :: l' => outChk n g tms ρ l l'
  | some a :: l, some o :: l' => (alikeCO n g tms (reC ρ a.c) o.c && (noFnC a.c && (Nat.beq a.elem o.elem && (eqB a.w o.w && (!o.ex || a.ex))))) && outChk n g tms ρ l l'
  | _, _ => false
theorem outChk_ok {n : Nat} {g : Gm} {e : En} (hg : g.ok e) {tms : Tms} (ht : TmsOk P tms) {ρ : Nat → Option Nat} : ∀ {l l' : List (Option SBlk)}, outChk n g tms ρ l l' = true → F2 BLess (l.map fun b => (b.map (SBlk.den e)).map (packB ρ)) (denM e l')
  | [], [], _ => .nil
  | [], _ :: _, h => by cases h
  | x :: l, [], h => by cases x <;> cases h
  | x :: l, none :: l', h => by
    have h : outChk n g tms ρ l l' = true := by
      cases x <;> exact h
    exact .cons (.none _) (outChk_ok hg ht h)
  | none :: l, some o :: l', h => by cases h
  | some a :: l, some o :: l', h => by
    have h : ((alikeCO n g tms (reC ρ a.c) o.c && (noFnC a.c && (Nat.beq a.elem o.elem && (eqB a.w o.w && (!o.ex || a.ex))))) && outChk n g tms ρ l l') = true := h
    simp only [Bool.and_eq_true] at h
    obtain ⟨⟨h1, h2, h3, h4, h5⟩, h6⟩ := h
    obtain ⟨e1, e2⟩ := alikeCO_ok hg ht h1
    obtain ⟨e3, e4⟩ := reC_den ρ e h2
    refine .cons (.some (Nat.eq_of_beq_eq_true h3) (show a.w = o.w from eqB_eq h4) (fun hx => ?_) ?_ (e4.symm.trans e2)) (outChk_ok hg ht h6)
    · simp only [Bool.or_eq_true, Bool.not_eq_true'] at h5
      rcases h5 with h5 | h5
      · have hx : o.ex = true := hx
        rw [hx] at h5; cases h5
      · exact h5
    · show F2 Less ((a.c.den e).map (reS ρ)) (o.c.den e)
      rw [← e3, e1]
      exact F2_less_refl _
def finL (n : Nat) (T : Tab P) (tms : Tms) (c : LC) (cls : List (Nat × Nat)) (g : Gm) (v : SV) (m : SMem) : Bool :=
  match getAll (mtV ⟨(List.range c.out.length).map fun i => if i < c.mem.length then some i else none, []⟩ c.val v).js with
  | some js => (match closeAll n g T tms c.out js cls m with
    | some m2 =>
      Nat.ble c.mem.length m2.length && ((js.drop c.mem.length).all (fun j => Nat.ble c.mem.length j && Nat.blt j m2.length) && (nodupB (js.drop c.mem.length) && (noFnV v && (alikeV n g (reSV (packN c.mem.length (js.drop c.mem.length)) v) c.val &&
        outChk n g tms (packN c.mem.length (js.drop c.mem.length)) (m2.take c.mem.length ++ (js.drop c.mem.length).map fun j => m2.getD j none) c.out))))
    | none => false)
  | none => false
theorem finL_ok {n : Nat} {T : Tab P} {tms : Tms} (ht : TmsOk P tms) {c : LC} {cls : List (Nat × Nat)} {g : Gm} {e : En} (hg : g.ok e) {v : SV} {m : SMem} (h : finL n T tms c cls g v m = true) : SeesP P c.mem.length [v.den e] (denM e m) [c.val.den e] (denM e c.out) := by
  unfold finL at h
  split at h
  case h_2 => cases h
  rename_i js _
  split at h
  case h_2 => cases h
  rename_i m2 hm2
  simp only [Bool.and_eq_true] at h
  obtain ⟨h1, h2, h3, h4, h5, h6⟩ := h
  refine (closeAll_ok hg ht hm2).trans (Sees.toP (Sees.trans (Sees.pack (js.drop c.mem.length) (by rw [denM_len]; exact Nat.le_of_ble_eq_true h1) (fun j hj => ?_) (nodupB_ok h3)) (Sees.weak ?_ ?_)))
  · have := List.all_eq_true.1 h2 j hj
    rw [Bool.and_eq_true] at this
    rw [denM_len]
    exact ⟨Nat.le_of_ble_eq_true this.1, by simpa [Nat.blt_eq] using this.2⟩
  · show F2 Less [re (packN c.mem.length (js.drop c.mem.length)) (v.den e)] [c.val.den e]
    rw [← reSV_den _ e h4, alikeV_ok hg h5]
    exact F2_less_refl _
  · have e1 : packM c.mem.length (js.drop c.mem.length) (denM e m2) = (m2.take c.mem.length ++ (js.drop c.mem.length).map fun j => m2.getD j none).map fun x => (x.map (SBlk.den e)).map (packB (packN c.mem.length (js.drop c.mem.length))) := by
      unfold packM denM
      rw [List.map_append, List.map_append, List.map_take, List.map_map, List.map_map, List.map_map]
      congr 1
      · simp only [List.map_take, List.map_map]; rfl
      · refine List.map_congr_left fun j hj => ?_
        show ((m2.map _).getD j none).map _ = _
        rw [List.getD_eq_getElem?_getD, List.getElem?_map]
        show _ = ((m2.getD j none).map (SBlk.den e)).map _
        rw [List.getD_eq_getElem?_getD]
        cases m2[j]? <;> rfl
    rw [e1]
    exact outChk_ok hg ht h6
def ptrIn (args : List SV) (j : Nat) : Bool := args.any fun a => match a with
  | .a (.s (.z (.p j' (.i 0) w 0))) => Nat.beq j' j
  | _ => false
theorem ptrIn_ok {args : List SV} {j : Nat} (h : ptrIn args j = true) (e : En) : .pointer (some ⟨j, 0, none⟩) ∈ args.map (SV.den e) := by
  unfold ptrIn at h
  rw [List.any_eq_true] at h
  obtain ⟨a, ha, hj⟩ := h
  refine List.mem_map.2 ⟨a, ha, ?_⟩
  split at hj
  · rw [Nat.eq_of_beq_eq_true hj]
    show Value.pointer (some ⟨j, (X.I e (.i 0)).toNat * _ + 0, none⟩) = _
    show Value.pointer (some ⟨j, 0 * _ + 0, none⟩) = _
    rw [Nat.zero_mul]
  · cases hj
end Go.SX
end
noncomputable section
namespace Go.SX
set_option linter.unusedSectionVars false
open Go Go.AE
set_option linter.constructorNameAsVariable false
set_option linter.unusedSimpArgs false
set_option linter.unusedVariables false
variable {P : Program} [Fam]
def varsX (n : Nat) : List X := (List.range n).map .v
def IsFn (F n : Nat) (sp : List X) : Prop := ∀ d, comps sp.length (Fam.Φ F d) = sp.map (X.den (envOf (comps n d)))
theorem varsX_den (ds : List D) : (varsX ds.length).map (X.den (envOf ds)) = ds := by
  refine List.ext_getElem? fun i => ?_
  simp only [varsX, List.map_map, List.getElem?_map]
  rcases Nat.lt_or_ge i ds.length with h | h
  · rw [List.getElem?_eq_getElem (by simpa using h), List.getElem?_eq_getElem h]
    simp only [List.getElem_range, Option.map_some, Function.comp]
    show some (ds.getD i .u) = _
    rw [List.getD_eq_getElem?_getD, List.getElem?_eq_getElem h]; rfl
  · rw [List.getElem?_eq_none (by simpa using h), List.getElem?_eq_none h]; rfl
theorem IsFn.den {F n : Nat} {sp : List X} (h : IsFn F n sp) {ds : List D} (hl : ds.length = n) : (compX sp.length (.ap F (packX (varsX n)))).map (X.den (envOf ds)) = sp.map (X.den (envOf ds)) := by
  rw [compX_den]
  show comps sp.length (Fam.Φ F ((packX (varsX n)).den (envOf ds))) = _
  rw [h]
  have h1 := packX_den (envOf ds) (varsX n)
  subst hl
  rw [varsX_den] at h1
  have h2 : (varsX ds.length).length = ds.length := by simp [varsX]
  rw [h2] at h1
  rw [h1]
theorem LC.Ok.opq {F n : Nat} {sp : List X} (hF : IsFn F n sp) {args : List SV} {mem osh : SMem} {fs : List Fact} {as : List X} {vsh : SV} {f : FuncId} (hv : okSV sp.length vsh = true) (ho : osh.all (okOB sp.length) = true)
    (h : (LC.mk n args mem fs as (subSV sp id vsh) (osh.map fun b => b.map (subB sp id))).Ok P f) :
    (LC.mk n args mem fs as (subSV (compX sp.length (.ap F (packX (varsX n)))) id vsh) (osh.map fun b => b.map (subB (compX sp.length (.ap F (packX (varsX n)))) id))).Ok P f := by
  refine ⟨fun ds hl hfs has => (h.call ds hl hfs has).mono fun w m2 hw => ?_⟩
  have hd := hF.den (ds := ds) hl
  have hlen : (compX sp.length (X.ap F (packX (varsX n)))).length = sp.length := compX_len _ _
  refine ⟨hw.1.trans ?_, hw.2.trans ?_⟩
  · show (subSV sp id vsh).den _ = (subSV _ id vsh).den _
    rw [subSV_den hv, subSV_den (by rw [hlen]; exact hv), hd]
  · show denM _ (osh.map _) = denM _ (osh.map _)
    unfold denM
    rw [List.map_map, List.map_map]
    refine List.map_congr_left fun b hb => ?_
    have hb := List.all_eq_true.1 ho b hb
    show (b.map (subB sp id)).map _ = (b.map (subB _ id)).map _
    rw [subOB_den hb, subOB_den (by rw [hlen]; exact hb), hd]
structure LS where
  n : Nat
  args : List SV
  mem : SMem
  fs : List Fact
  as : List X
  sp : List X
  vsh : SV
  osh : SMem
def LS.lc (s : LS) : LC := ⟨s.n, s.args, s.mem, s.fs, s.as, subSV s.sp id s.vsh, s.osh.map fun b => b.map (subB s.sp id)⟩
def LS.op (s : LS) (F : Nat) : LC := ⟨s.n, s.args, s.mem, s.fs, s.as, subSV (compX s.sp.length (.ap F (packX (varsX s.n)))) id s.vsh, s.osh.map fun b => b.map (subB (compX s.sp.length (.ap F (packX (varsX s.n)))) id)⟩
theorem LS.ok {s : LS} {F : Nat} (hF : IsFn F s.n s.sp) (hv : okSV s.sp.length s.vsh = true) (ho : s.osh.all (okOB s.sp.length) = true) {f : FuncId} (h : s.lc.Ok P f) : (s.op F).Ok P f := LC.Ok.opq hF hv ho h
end Go.SX
end
noncomputable section
namespace Go.SX
set_option linter.unusedSectionVars false
open Go Go.AE
set_option linter.constructorNameAsVariable false
set_option linter.unusedSimpArgs false
set_option linter.unusedVariables false
variable {P : Program} [Fam]
def subS0b (b : Nat) (es : List X) : S0 → S0
  | .b x => .b (x.sub b es)
  | .i k x => .i k (x.sub b es)
  | .s x => .s (x.sub b es)
  | .p j x w c => .p j (x.sub b es) w c
  | .p0 => .p0
  | .sl j x w c n m => .sl j (x.sub b es) w c (n.sub b es) (m.sub b es)
  | .sl0 => .sl0
def subSSb (b : Nat) (es : List X) : SS → SS
  | .z x => .z (subS0b b es x)
  | x => x
def subSAb (b : Nat) (es : List X) : SA → SA
  | .s x => .s (subSSb b es x)
  | .ag l => .ag (l.map (subSSb b es))
def subSVb (b : Nat) (es : List X) : SV → SV
  | .a x => .a (subSAb b es x)
  | .tu l => .tu (l.map (subSAb b es))
  | .gd c x => .gd c x
def subCb (b : Nat) (es : List X) : SC → SC
  | .cs l => .cs (l.map (subSSb b es))
  | .by x => .by (x.sub b es)
  | .rw ks x => .rw ks (x.sub b es)
  | .ob k x => .ob k (x.sub b es)
def subMb (b : Nat) (es : List X) (m : SMem) : SMem := m.map fun x => x.map fun y => { y with c := subCb b es y.c }
def scSA (n : Nat) : SA → Bool
  | .s x => x.sc n && noFn x
  | .ag l => l.all (SS.sc n) && l.all noFn
def scSV (n : Nat) : SV → Bool
  | .a x => scSA n x
  | .tu l => l.all (scSA n)
  | .gd _ _ => false
def scC (n : Nat) : SC → Bool
  | .cs l => l.all (SS.sc n) && l.all noFn
  | c => c.sc n
def scM (n : Nat) (m : SMem) : Bool := m.all fun x => match x with
  | some y => scC n y.c
  | none => true
section
variable {b : Nat} {es : List X} {e : En} (he : e.ext b (es.map (X.den e)) = e)
include he
theorem subb_den {x : X} (h : x.sc (b + es.length) = true) : (x.sub b es).den e = x.den e := by
  rw [X.sub_den (e := e) (e' := e) (fun _ _ => rfl) h, he]
theorem subS0b_den {x : S0} (h : x.sc (b + es.length) = true) : (subS0b b es x).den e = x.den e := by
  cases x with
  | b x => show Value.bool ((x.sub b es).den e).toB = _; rw [subb_den he h]; rfl
  | i k x => show Value.int k ((x.sub b es).den e).toI = _; rw [subb_den he h]; rfl
  | s x => show Value.string ⟨⟨((x.sub b es).den e).toS⟩⟩ = _; rw [subb_den he h]; rfl
  | p j x w c => show Value.pointer (some ⟨j, ((x.sub b es).den e).toI.toNat * w + c, none⟩) = _; rw [subb_den he h]; rfl
  | p0 => rfl
  | sl j x w c n m =>
    have h : (x.sc (b + es.length) && (n.sc (b + es.length) && m.sc (b + es.length))) = true := h
    simp only [Bool.and_eq_true] at h
    show Value.slice (some ⟨j, ((x.sub b es).den e).toI.toNat * w + c, none⟩) ((n.sub b es).den e).toI.toNat ((m.sub b es).den e).toI.toNat = _
    rw [subb_den he h.1, subb_den he h.2.1, subb_den he h.2.2]; rfl
  | sl0 => rfl
theorem subSSb_den {x : SS} (h : x.sc (b + es.length) = true) : (subSSb b es x).den e = x.den e := by
  cases x with
  | z x => exact subS0b_den he h
  | _ => rfl
theorem subL_den {l : List SS} (h : l.all (SS.sc (b + es.length)) = true) : (l.map (subSSb b es)).map (SS.den e) = l.map (SS.den e) := by
  rw [List.map_map]
  exact List.map_congr_left fun x hx => subSSb_den he (List.all_eq_true.1 h x hx)
theorem subSAb_den {x : SA} (h : scSA (b + es.length) x = true) : (subSAb b es x).den e = x.den e := by
  cases x with
  | s x =>
    have h : (x.sc _ && noFn x) = true := h
    rw [Bool.and_eq_true] at h
    exact subSSb_den he h.1
  | ag l =>
    have h : (l.all (SS.sc _) && l.all noFn) = true := h
    rw [Bool.and_eq_true] at h
    show Value.agg ⟨_⟩ = Value.agg ⟨_⟩
    rw [subL_den he h.1]
theorem subSVb_den {x : SV} (h : scSV (b + es.length) x = true) : (subSVb b es x).den e = x.den e := by
  cases x with
  | a x => exact subSAb_den he h
  | tu l =>
    show Value.tuple ⟨_⟩ = Value.tuple ⟨_⟩
    rw [List.map_map]
    congr 2
    exact List.map_congr_left fun x hx => subSAb_den he (List.all_eq_true.1 h x hx)
  | gd c x => cases h
theorem subCb_den {c : SC} (h : scC (b + es.length) c = true) : (subCb b es c).den e = c.den e ∧ (subCb b es c).obj e = c.obj e := by
  cases c with
  | cs l =>
    have h : (l.all (SS.sc _) && l.all noFn) = true := h
    rw [Bool.and_eq_true] at h
    exact ⟨subL_den he h.1, rfl⟩
  | «by» x => exact ⟨by show ((x.sub b es).den e).toS.map Byt = _; rw [subb_den he h]; rfl, rfl⟩
  | rw ks x => exact ⟨by show ((x.sub b es).den e).toR.flatMap _ = _; rw [subb_den he h]; rfl, rfl⟩
  | ob k x => exact ⟨by show (Fam.vis k).map (VC.val ((x.sub b es).den e)) = _; rw [subb_den he h]; rfl, by show some (Fam.ob k ((x.sub b es).den e)) = _; rw [subb_den he h]; rfl⟩
theorem subMb_den {m : SMem} (h : scM (b + es.length) m = true) : denM e (subMb b es m) = denM e m := by
  unfold denM subMb
  rw [List.map_map]
  refine List.map_congr_left fun x hx => ?_
  have h1 := List.all_eq_true.1 h x hx
  cases x with
  | none => rfl
  | some y =>
    obtain ⟨e1, e2⟩ := subCb_den he (c := y.c) h1
    show some (ABlk.mk _ _ _ _ _) = some (ABlk.mk _ _ _ _ _)
    rw [e1, e2]
end
structure LFn where
  F : Nat
  ps : List X
  cond : X
  next : List X
def IsLoop (f : LFn) : Prop := ∀ ds : List D, ds.length = f.next.length + f.ps.length →
  (f.cond.B (envOf ds) = true → ∀ d d', comps ds.length d = ds → comps ds.length d' = f.next.map (X.den (envOf ds)) ++ ds.drop f.next.length → comps f.next.length (Fam.Φ f.F d) = comps f.next.length (Fam.Φ f.F d')) ∧
  (f.cond.B (envOf ds) = false → ∀ d, comps ds.length d = ds → comps f.next.length (Fam.Φ f.F d) = ds.take f.next.length)
structure LJ where
  inv : X
  ms : X
  fn : Option LFn
structure LB where
  b : Nat
  len : Nat
  fs : List Fact
  li : LJ
  init : List X
def varsF (b n : Nat) : List X := (List.range n).map fun i => .v (b + i)
def headOk' (n : Nat) (g : Gm) (la : LB) (es : List X) : Bool := headOk n g ⟨la.b, la.len, la.fs, ⟨la.li.inv, la.li.ms⟩⟩ es
def findLB (b : Nat) : List LB → Option LB
  | [] => none
  | la :: l => bif Nat.beq la.b b then some la else findLB b l
theorem findLB_ok {b : Nat} : ∀ {l : List LB} {la : LB}, findLB b l = some la → la ∈ l ∧ la.b = b
  | [], _, h => by cases h
  | x :: l, la, h => by
    unfold findLB at h
    cases hb : Nat.beq x.b b with
    | true => rw [hb] at h; cases h; exact ⟨List.mem_cons_self, Nat.eq_of_beq_eq_true hb⟩
    | false =>
      rw [hb] at h
      obtain ⟨h1, h2⟩ := findLB_ok h
      exact ⟨List.mem_cons_of_mem _ h1, h2⟩
def fnHead (la : LB) : Bool := match la.li.fn with
  | none => true
  | some f => Nat.beq f.next.length la.len && (Nat.beq la.init.length la.len && (la.init.all (X.sc la.b) && (f.ps.all (X.sc la.b) && (f.cond.sc (la.len + f.ps.length) && f.next.all (X.sc (la.len + f.ps.length))))))
def fnAgain (n : Nat) (g : Gm) (la : LB) (es : List X) : Bool := match la.li.fn with
  | none => true
  | some f => taut n g (f.cond.sub 0 (varsF la.b la.len ++ f.ps)) && eqL eqX es (f.next.map (X.sub 0 (varsF la.b la.len ++ f.ps)))
def fnRes (la : LB) (f : LFn) : List X := compX f.next.length (.ap f.F (packX (la.init ++ f.ps)))
def fnEnds (n : Nat) (g : Gm) : List LB → SV → SMem → SV × SMem
  | [], v, m => (v, m)
  | la :: ls, v, m => match la.li.fn with
    | none => fnEnds n g ls v m
    | some f => bif taut n g (mkNot (f.cond.sub 0 (varsF la.b la.len ++ f.ps))) && (scSV (la.b + la.len) v && scM (la.b + la.len) m) then fnEnds n g ls (subSVb la.b (fnRes la f) v) (subMb la.b (fnRes la f) m) else fnEnds n g ls v m
def FOk (e : En) (la : LB) : Prop := match la.li.fn with
  | none => True
  | some f => ∀ d d', comps (la.len + f.ps.length) d = (la.init ++ f.ps).map (X.den e) → comps (la.len + f.ps.length) d' = (varsF la.b la.len ++ f.ps).map (X.den e) → comps la.len (Fam.Φ f.F d) = comps la.len (Fam.Φ f.F d')
structure JF (e : En) (J : JJ) (la : LB) : Prop where
  sc1 : la.li.inv.sc (la.b + la.len) = true
  sc2 : la.li.ms.sc (la.b + la.len) = true
  sc3 : ∀ f ∈ la.fs, f.e.sc (la.b + la.len) = true
  hd : fnHead la = true
  lp : ∀ f, la.li.fn = some f → IsLoop f
  go : ∀ ds : List D, ds.length = la.len → la.li.inv.B (e.ext la.b ds) = true → (∀ f ∈ la.fs, f.r.has (f.e.I (e.ext la.b ds))) → FOk (e.ext la.b ds) la → 0 ≤ la.li.ms.I (e.ext la.b ds) → la.li.ms.I (e.ext la.b ds) < la.li.ms.I e → J la.b ds
  fo : FOk e la
def packD : List D → D
  | [] => .u
  | [x] => x
  | x :: l => .p x (packD l)
theorem packD_comps : ∀ ds : List D, comps ds.length (packD ds) = ds
  | [] => rfl
  | [x] => rfl
  | x :: y :: l => by
    show x :: comps (l.length + 1) (packD (y :: l)) = _
    rw [show l.length + 1 = (y :: l).length from rfl, packD_comps (y :: l)]
theorem IsLoop.cong {f : LFn} (h : IsLoop f) {ds : List D} (hl : ds.length = f.next.length + f.ps.length) {d d' : D} (hd : comps ds.length d = ds) (hd' : comps ds.length d' = ds) : comps f.next.length (Fam.Φ f.F d) = comps f.next.length (Fam.Φ f.F d') := by
  obtain ⟨h1, h2⟩ := h ds hl
  cases hc : f.cond.B (envOf ds) with
  | true =>
    have hlen : (f.next.map (X.den (envOf ds)) ++ ds.drop f.next.length).length = ds.length := by
      rw [List.length_append, List.length_map, List.length_drop]; omega
    have hp := packD_comps (f.next.map (X.den (envOf ds)) ++ ds.drop f.next.length)
    rw [hlen] at hp
    exact (h1 hc d _ hd hp).trans (h1 hc d' _ hd' hp).symm
  | false => exact (h2 hc d hd).trans (h2 hc d' hd').symm
theorem den_list {n : Nat} {e e' : En} (h : Agv n e e') {l : List X} (hs : l.all (X.sc n) = true) : l.map (X.den e') = l.map (X.den e) := List.map_congr_left fun x hx => X.sc_den h (List.all_eq_true.1 hs x hx)
theorem varsF_sc (b n : Nat) : (varsF b n).all (X.sc (b + n)) = true := by
  rw [List.all_eq_true]
  intro x hx
  obtain ⟨i, hi, rfl⟩ := List.mem_map.1 hx
  have := List.mem_range.1 hi
  show Nat.blt (b + i) (b + n) = true
  rw [Nat.blt_eq]; omega
theorem varsF_len (b n : Nat) : (varsF b n).length = n := by simp [varsF]
theorem varsF_ext (b : Nat) (e : En) (ds : List D) : (varsF b ds.length).map (X.den (e.ext b ds)) = ds := by
  refine List.ext_getElem? fun i => ?_
  simp only [varsF, List.map_map, List.getElem?_map]
  rcases Nat.lt_or_ge i ds.length with h | h
  · rw [List.getElem?_eq_getElem (by simpa using h), List.getElem?_eq_getElem h]
    simp only [List.getElem_range, Option.map_some, Function.comp]
    show some (bif Nat.ble b (b + i) && Nat.blt (b + i) (b + ds.length) then ds.getD (b + i - b) .u else e.ρ (b + i)) = _
    have h1 : Nat.ble b (b + i) = true := Nat.ble_eq ▸ Nat.le_add_right b i
    have h2 : Nat.blt (b + i) (b + ds.length) = true := by rw [Nat.blt_eq]; omega
    rw [h1, h2, show b + i - b = i from by omega]
    simp only [Bool.and_self, cond_true]
    rw [List.getD_eq_getElem?_getD, List.getElem?_eq_getElem h]; rfl
  · rw [List.getElem?_eq_none (by simpa using h), List.getElem?_eq_none h]; rfl
theorem ext_self (b n : Nat) (e : En) : e.ext b ((varsF b n).map (X.den e)) = e := by
  show En.mk _ = e
  have : (fun k => bif Nat.ble b k && Nat.blt k (b + ((varsF b n).map (X.den e)).length) then ((varsF b n).map (X.den e)).getD (k - b) .u else e.ρ k) = e.ρ := by
    funext k
    cases h : Nat.ble b k && Nat.blt k (b + ((varsF b n).map (X.den e)).length) with
    | false => rfl
    | true =>
      rw [Bool.and_eq_true] at h
      have h1 := Nat.le_of_ble_eq_true h.1
      have h2 := h.2
      rw [Nat.blt_eq, List.length_map, varsF_len] at h2
      simp only [cond_true]
      rw [List.getD_eq_getElem?_getD, List.getElem?_map]
      simp only [varsF, List.getElem?_map]
      rw [List.getElem?_eq_getElem (by simp; omega)]
      simp only [List.getElem_range, Option.map_some, Option.getD_some]
      show e.ρ (b + (k - b)) = e.ρ k
      rw [show b + (k - b) = k from by omega]
  rw [this]
theorem fnHead_ok {la : LB} {f : LFn} (h : fnHead la = true) (hf : la.li.fn = some f) : f.next.length = la.len ∧ la.init.length = la.len ∧ la.init.all (X.sc la.b) = true ∧ f.ps.all (X.sc la.b) = true ∧ f.cond.sc (la.len + f.ps.length) = true ∧ f.next.all (X.sc (la.len + f.ps.length)) = true := by
  unfold fnHead at h
  rw [hf] at h
  simp only [Bool.and_eq_true] at h
  exact ⟨Nat.eq_of_beq_eq_true h.1, Nat.eq_of_beq_eq_true h.2.1, h.2.2.1, h.2.2.2.1, h.2.2.2.2.1, h.2.2.2.2.2⟩
theorem all_sc_le {n m : Nat} (hnm : n ≤ m) {l : List X} {e e' : En} (h : Agv m e e') (hs : l.all (X.sc n) = true) : l.map (X.den e') = l.map (X.den e) := den_list (h.le hnm) hs
theorem FOk.move {e e' : En} {la : LB} (hd : fnHead la = true) (ha : Agv (la.b + la.len) e e') (h : FOk e la) : FOk e' la := by
  unfold FOk at *
  cases hf : la.li.fn with
  | none => trivial
  | some f =>
    rw [hf] at h
    obtain ⟨_, _, h1, h2, _⟩ := fnHead_ok hd hf
    simp only at h ⊢
    intro d d' hc hc'
    have e1 : (la.init ++ f.ps).map (X.den e') = (la.init ++ f.ps).map (X.den e) := by
      rw [List.map_append, List.map_append, all_sc_le (Nat.le_add_right _ _) ha h1, all_sc_le (Nat.le_add_right _ _) ha h2]
    have e2 : (varsF la.b la.len ++ f.ps).map (X.den e') = (varsF la.b la.len ++ f.ps).map (X.den e) := by
      rw [List.map_append, List.map_append, den_list ha (varsF_sc _ _), all_sc_le (Nat.le_add_right _ _) ha h2]
    exact h d d' (hc.trans e1) (hc'.trans e2)
theorem FOk.start {e : En} {la : LB} (hd : fnHead la = true) (hl : ∀ f, la.li.fn = some f → IsLoop f) : FOk (e.ext la.b (la.init.map (X.den e))) la := by
  unfold FOk
  cases hf : la.li.fn with
  | none => trivial
  | some f =>
    obtain ⟨h0, h00, h1, h2, _⟩ := fnHead_ok hd hf
    simp only
    intro d d' hc hc'
    have hag : Agv la.b e (e.ext la.b (la.init.map (X.den e))) := ext_ag _ _ _
    rw [List.map_append, den_list hag h1, den_list hag h2] at hc
    have hv := varsF_ext la.b e (la.init.map (X.den e))
    rw [List.length_map, h00] at hv
    rw [List.map_append, hv, den_list hag h2] at hc'
    rw [← h0]
    have hln : (la.init.map (X.den e) ++ f.ps.map (X.den e)).length = la.len + f.ps.length := by rw [List.length_append, List.length_map, List.length_map, h00]
    refine (hl f hf).cong (ds := la.init.map (X.den e) ++ f.ps.map (X.den e)) (by rw [hln, h0]) (by rw [hln]; exact hc) (by rw [hln]; exact hc')
theorem FOk.again {n : Nat} {g : Gm} {e : En} (hg : g.ok e) {la : LB} (hd : fnHead la = true) (hl : ∀ f, la.li.fn = some f → IsLoop f) (h : FOk e la) {es : List X} (hes : es.length = la.len) (ha : fnAgain n g la es = true) : FOk (e.ext la.b (es.map (X.den e))) la := by
  unfold FOk at *
  cases hf : la.li.fn with
  | none => trivial
  | some f =>
    rw [hf] at h
    unfold fnAgain at ha
    rw [hf] at ha
    rw [Bool.and_eq_true] at ha
    obtain ⟨h0, h00, h1, h2, h3, h4⟩ := fnHead_ok hd hf
    simp only at h ⊢
    intro d d' hc hc'
    have hag : Agv la.b e (e.ext la.b (es.map (X.den e))) := ext_ag _ _ _
    rw [List.map_append, den_list hag h1, den_list hag h2, ← List.map_append] at hc
    have hv := varsF_ext la.b e (es.map (X.den e))
    rw [List.length_map, hes] at hv
    rw [List.map_append, hv, den_list hag h2] at hc'
    have hln : ((varsF la.b la.len ++ f.ps).map (X.den e)).length = la.len + f.ps.length := by rw [List.length_map, List.length_append, varsF_len]
    have hlx : (varsF la.b la.len ++ f.ps).length = la.len + f.ps.length := by rw [List.length_append, varsF_len]
    obtain ⟨g1, _⟩ := (hl f hf) ((varsF la.b la.len ++ f.ps).map (X.den e)) (by rw [hln, h0])
    have ht := taut_ok n g _ hg ha.1
    have hcnd : f.cond.B (envOf ((varsF la.b la.len ++ f.ps).map (X.den e))) = true := by
      simp only [X.B] at ht ⊢
      rwa [sub0_den (by rw [hlx]; exact h3)] at ht
    have he := eqL_eq (p := eqX) (fun h => eqX_eq h) ha.2
    have hnx : es.map (X.den e) = f.next.map (X.den (envOf ((varsF la.b la.len ++ f.ps).map (X.den e)))) := by
      rw [he, List.map_map]
      exact List.map_congr_left fun x hx => sub0_den (by rw [hlx]; exact List.all_eq_true.1 h4 x hx)
    have hpk := packD_comps ((varsF la.b la.len ++ f.ps).map (X.den e))
    rw [← h0]
    rw [← h0] at h
    refine (h d (packD ((varsF la.b la.len ++ f.ps).map (X.den e))) (by rw [h0]; exact hc) (by rw [h0, ← hln]; exact hpk)).trans (g1 hcnd _ d' hpk ?_)
    rw [hln, hc', hnx, h0]
    congr 1
    rw [List.map_append, List.drop_append, List.length_map, varsF_len, Nat.sub_self, List.drop_zero, List.drop_eq_nil_of_le (by rw [List.length_map, varsF_len]; exact Nat.le_refl _), List.nil_append]
theorem FOk.ends {n : Nat} {g : Gm} {e : En} (hg : g.ok e) {la : LB} (hd : fnHead la = true) {f : LFn} (hf : la.li.fn = some f) (hl : IsLoop f) (h : FOk e la) (ha : taut n g (mkNot (f.cond.sub 0 (varsF la.b la.len ++ f.ps))) = true) : e.ext la.b ((fnRes la f).map (X.den e)) = e := by
  unfold FOk at h
  rw [hf] at h
  obtain ⟨h0, h00, h1, h2, h3, h4⟩ := fnHead_ok hd hf
  simp only at h
  have hln : ((varsF la.b la.len ++ f.ps).map (X.den e)).length = la.len + f.ps.length := by rw [List.length_map, List.length_append, varsF_len]
  have hlx : (varsF la.b la.len ++ f.ps).length = la.len + f.ps.length := by rw [List.length_append, varsF_len]
  have hly : (la.init ++ f.ps).length = la.len + f.ps.length := by rw [List.length_append, h00]
  have ht := taut_ok n g _ hg ha
  rw [mkNot_B] at ht
  have hcnd : f.cond.B (envOf ((varsF la.b la.len ++ f.ps).map (X.den e))) = false := by
    simp only [X.B] at ht ⊢
    rw [sub0_den (by rw [hlx]; exact h3)] at ht
    simpa using ht
  have hpk := packD_comps ((varsF la.b la.len ++ f.ps).map (X.den e))
  obtain ⟨_, g2⟩ := hl ((varsF la.b la.len ++ f.ps).map (X.den e)) (by rw [hln, h0])
  have k1 := g2 hcnd _ hpk
  have k2 := h ((packX (la.init ++ f.ps)).den e) (packD ((varsF la.b la.len ++ f.ps).map (X.den e))) (by rw [← hly]; exact packX_den e _) (by rw [← hln]; exact hpk)
  have e1 : (fnRes la f).map (X.den e) = (varsF la.b la.len).map (X.den e) := by
    unfold fnRes
    rw [compX_den]
    show comps f.next.length (Fam.Φ f.F _) = _
    rw [h0] at k1 ⊢
    rw [k2, k1, List.map_append, List.take_left' (by rw [List.length_map, varsF_len])]
  rw [e1, ext_self]
theorem fnEnds_ok {n : Nat} {g : Gm} {e : En} (hg : g.ok e) {J : JJ} : ∀ (ls : List LB) (v : SV) (m : SMem), (∀ la ∈ ls, JF e J la) → (fnEnds n g ls v m).1.den e = v.den e ∧ denM e (fnEnds n g ls v m).2 = denM e m
  | [], v, m, _ => ⟨rfl, rfl⟩
  | la :: ls, v, m, h => by
    have ih := fun v m => fnEnds_ok (n := n) hg ls v m fun la hla => h la (List.mem_cons_of_mem _ hla)
    unfold fnEnds
    split
    · exact ih v m
    · rename_i f hf
      cases hc : (taut n g (mkNot (f.cond.sub 0 (varsF la.b la.len ++ f.ps))) && (scSV (la.b + la.len) v && scM (la.b + la.len) m)) with
      | false => simp only [cond_false]; exact ih v m
      | true =>
        simp only [cond_true]
        simp only [Bool.and_eq_true] at hc
        have hj := h la List.mem_cons_self
        have he := FOk.ends hg hj.hd hf (hj.lp f hf) hj.fo hc.1
        have hlen : (fnRes la f).length = la.len := by unfold fnRes; rw [compX_len]; exact (fnHead_ok hj.hd hf).1
        obtain ⟨i1, i2⟩ := ih (subSVb la.b (fnRes la f) v) (subMb la.b (fnRes la f) m)
        exact ⟨i1.trans (subSVb_den he (by rw [hlen]; exact hc.2.1)), i2.trans (subMb_den he (by rw [hlen]; exact hc.2.2))⟩
def fnG (n : Nat) (g : Gm) : List LB → Gm → Gm
  | [], a => a
  | la :: ls, a => match la.li.fn with
    | none => fnG n g ls a
    | some f => bif taut n g (mkNot (f.cond.sub 0 (varsF la.b la.len ++ f.ps))) then
        fnG n g ls ⟨a.nv, ((a.fs.filter fun q => q.e.sc (la.b + la.len)).map fun q => ⟨q.e.sub la.b (fnRes la f), q.r⟩) ++ a.fs, ((a.as.filter fun x => x.sc (la.b + la.len)).map (X.sub la.b (fnRes la f))) ++ a.as⟩
      else fnG n g ls a
theorem fnG_ok {n : Nat} {g : Gm} {e : En} (hg : g.ok e) {J : JJ} : ∀ (ls : List LB) (a : Gm), (∀ la ∈ ls, JF e J la) → a.ok e → (fnG n g ls a).ok e
  | [], a, _, ha => ha
  | la :: ls, a, h, ha => by
    have ih := fun a => fnG_ok (n := n) hg ls a fun la hla => h la (List.mem_cons_of_mem _ hla)
    unfold fnG
    split
    · exact ih a ha
    · rename_i f hf
      cases hc : taut n g (mkNot (f.cond.sub 0 (varsF la.b la.len ++ f.ps))) with
      | false => exact ih a ha
      | true =>
        have hj := h la List.mem_cons_self
        have he := FOk.ends hg hj.hd hf (hj.lp f hf) hj.fo hc
        have hlen : (fnRes la f).length = la.len := by unfold fnRes; rw [compX_len]; exact (fnHead_ok hj.hd hf).1
        refine ih _ ⟨fun q hq => ?_, fun x hx => ?_⟩
        · rcases List.mem_append.1 hq with hq | hq
          · obtain ⟨q0, hq0, rfl⟩ := List.mem_map.1 hq
            obtain ⟨h1, h2⟩ := List.mem_filter.1 hq0
            have := ha.fs q0 h1
            have e1 : (q0.e.sub la.b (fnRes la f)).I e = q0.e.I e := by
              simp only [X.I, subb_den he (x := q0.e) (by rw [hlen]; exact h2)]
            show q0.r.has ((q0.e.sub la.b (fnRes la f)).I e)
            rw [e1]; exact this
          · exact ha.fs q hq
        · rcases List.mem_append.1 hx with hx | hx
          · obtain ⟨x0, hx0, rfl⟩ := List.mem_map.1 hx
            obtain ⟨h1, h2⟩ := List.mem_filter.1 hx0
            have := ha.as x0 h1
            simp only [X.B] at this ⊢
            rw [subb_den he (x := x0) (by rw [hlen]; exact h2)]; exact this
          · exact ha.as x hx
def assumeL (g : Gm) : List X → Gm
  | [] => g
  | c :: cs => assumeL (assume g (smB g c)) cs
theorem assumeL_ok {e : En} : ∀ {cs : List X} {g : Gm}, g.ok e → (∀ c ∈ cs, c.B e = true) → (assumeL g cs).ok e ∧ (assumeL g cs).nv = g.nv
  | [], _, hg, _ => ⟨hg, rfl⟩
  | c :: cs, g, hg, h => by
    obtain ⟨h1, h2⟩ := assume_ok hg (c := smB g c) (by rw [smB_ok hg]; exact h c List.mem_cons_self)
    obtain ⟨h3, h4⟩ := assumeL_ok (cs := cs) h1 fun x hx => h x (List.mem_cons_of_mem _ hx)
    exact ⟨h3, h4.trans h2⟩
def prvF (n : Nat) (L : Nat → Option LJ) (lem : Nat → List X) (fin : Gm → SV → SMem → Bool) : Gm → List LB → Tr → Bool
  | g, ls, .lf x _ fr m => match x, fr with
    | .ret, [v] => match fnEnds n g ls v m with
      | (v, m) => fin (fnG n g ls g) v m
    | _, _ => false
  | g, ls, .br c t u => (absurdG g c || (prvF n L lem fin (assume g c) ls t || taut n g (mkNot c))) && (absurdG g (mkNot c) || (prvF n L lem fin (assume g (mkNot c)) ls u || taut n g c))
  | g, ls, .nd c t => taut n g c && prvF n L lem fin (assume g c) ls t
  | g, ls, .fl _ => false
  | g, ls, .gv fs xs t => prvF n L lem fin (g.add fs xs) ls t
  | g, ls, .ag b es => match findLB b ls with
    | some la => headOk' n g la es && (taut n g (.o .lt (la.li.ms.sub b es) la.li.ms) && (taut n g (.u .not (.o .lt (la.li.ms.sub b es) (.i 0))) && fnAgain n g la es))
    | none => false
  | g, ls, .lp b fs init body => match L b with
    | some li =>
      let la : LB := ⟨b, init.length, fs, li, init⟩
      Nat.ble g.nv b && (headOk' n g la init && (fnHead la && prvF n L lem fin (assumeL ⟨b + init.length + 1, fs ++ (scG g).fs, (scG g).as⟩ (li.inv :: lem b)) (la :: ls) body))
    | none => false
theorem JF.move {e e' : En} {J J' : JJ} {la : LB} (h : JF e J la) (ha : Agv (la.b + la.len) e e') (hJ : J' la.b = J la.b) : JF e' J' la := by
  obtain ⟨h1, h2, h3, hd, hlp, h4, hfo⟩ := h
  refine ⟨h1, h2, h3, hd, hlp, fun ds hl hi hf hfo' h0 hlt => ?_, hfo.move hd ha⟩
  rw [hJ]
  have hx := ext_agv (ha.le (Nat.le_add_right _ _)) ds
  rw [hl] at hx
  have ei : la.li.inv.B (e'.ext la.b ds) = la.li.inv.B (e.ext la.b ds) := by simp only [X.B, X.sc_den hx h1]
  have em : la.li.ms.I (e'.ext la.b ds) = la.li.ms.I (e.ext la.b ds) := by simp only [X.I, X.sc_den hx h2]
  have em2 : la.li.ms.I e' = la.li.ms.I e := by simp only [X.I, X.sc_den ha h2]
  refine h4 ds hl (by rw [← ei]; exact hi) (fun f hfm => ?_) (hfo'.move hd fun k hk => (hx k hk).symm) (by rw [← em]; exact h0) (by rw [← em, ← em2]; exact hlt)
  have := hf f hfm
  rw [show f.e.I (e'.ext la.b ds) = f.e.I (e.ext la.b ds) from by simp only [X.I, X.sc_den hx (h3 f hfm)]] at this
  exact this
theorem prvF_ok {n : Nat} {L : Nat → Option LJ} {lem : Nat → List X} (hL : ∀ b li f, L b = some li → li.fn = some f → IsLoop f) (hlem : ∀ b, ∀ x ∈ lem b, ∀ e : En, x.B e = true) {fin : Gm → SV → SMem → Bool} {e0 : En} {b0 : Nat} : ∀ (t : Tr) (g : Gm) (ls : List LB) (e : En) (J : JJ), g.ok e → Agv b0 e0 e → b0 ≤ g.nv → (∀ la ∈ ls, JF e J la ∧ la.b + la.len < g.nv) → prvF n L lem fin g ls t = true →
    t.holds (fun e' _ x _ fr m => Agv b0 e0 e' ∧ ∃ g' v v' m', x = .ret ∧ fr = [v] ∧ g'.ok e' ∧ v'.den e' = v.den e' ∧ denM e' m' = denM e' m ∧ fin g' v' m' = true) e J
  | .lf x g' fr m, g, ls, e, J, hg, hag0, hb0, hls, h => by
    unfold prvF at h
    split at h
    · rename_i v
      obtain ⟨k1, k2⟩ := fnEnds_ok (n := n) hg ls v m fun la hla => (hls la hla).1
      revert h k1 k2
      generalize fnEnds n g ls v m = r
      obtain ⟨v', m'⟩ := r
      intro h k1 k2
      exact ⟨hag0, fnG n g ls g, v, v', m', rfl, rfl, fnG_ok hg ls g (fun la hla => (hls la hla).1) hg, k1, k2, h⟩
    · cases h
  | .br c t u, g, ls, e, J, hg, hag0, hb0, hls, h => by
    simp only [prvF, Bool.and_eq_true, Bool.or_eq_true] at h
    refine ⟨fun hc => ?_, fun hc => ?_⟩
    · rcases h.1 with h1 | h1 | h1
      · have := absurdG_ok hg h1; rw [hc] at this; cases this
      · obtain ⟨a1, a2⟩ := assume_ok hg hc
        exact prvF_ok hL hlem t _ ls e J a1 hag0 (by rw [a2]; exact hb0) (fun la hla => by rw [a2]; exact hls la hla) h1
      · have := taut_ok n g _ hg h1
        rw [mkNot_B, hc] at this; cases this
    · have hn : (mkNot c).B e = true := by rw [mkNot_B, hc]; rfl
      rcases h.2 with h1 | h1 | h1
      · have := absurdG_ok hg h1; rw [hn] at this; cases this
      · obtain ⟨a1, a2⟩ := assume_ok hg hn
        exact prvF_ok hL hlem u _ ls e J a1 hag0 (by rw [a2]; exact hb0) (fun la hla => by rw [a2]; exact hls la hla) h1
      · have := taut_ok n g _ hg h1
        rw [hc] at this; cases this
  | .nd c t, g, ls, e, J, hg, hag0, hb0, hls, h => by
    simp only [prvF, Bool.and_eq_true] at h
    have hc := taut_ok n g c hg h.1
    obtain ⟨a1, a2⟩ := assume_ok hg hc
    exact ⟨hc, prvF_ok hL hlem t _ ls e J a1 hag0 (by rw [a2]; exact hb0) (fun la hla => by rw [a2]; exact hls la hla) h.2⟩
  | .fl _, _, _, _, _, _, _, _, _, h => by cases h
  | .gv fs xs t, g, ls, e, J, hg, hag0, hb0, hls, h => fun hf hx => prvF_ok hL hlem t _ ls e J (Gm.add_ok hg hf hx) hag0 hb0 hls h
  | .ag b es, g, ls, e, J, hg, hag0, hb0, hls, h => by
    unfold prvF at h
    split at h
    case h_2 => cases h
    rename_i la hla
    obtain ⟨h1, rfl⟩ := findLB_ok hla
    simp only [Bool.and_eq_true] at h
    obtain ⟨hj, _⟩ := hls la h1
    obtain ⟨q1, q2, q3, q4, _⟩ := headOk_ok hg h.1 (e0 := e) fun _ _ => rfl
    have t1 := taut_ok n g _ hg h.2.1
    have t2 := taut_ok n g _ hg h.2.2.1
    have t1 : decide ((la.li.ms.sub la.b es).I e < la.li.ms.I e) = true := t1
    have t2 : (!decide ((la.li.ms.sub la.b es).I e < 0)) = true := t2
    have hfo := FOk.again hg hj.hd hj.lp hj.fo q1 h.2.2.2
    refine hj.go _ (by rw [List.length_map]; exact q1) q2 q3 hfo (by rw [q4]; simpa using t2) (by rw [q4]; simpa using t1)
  | .lp b fs init body, g, ls, e, J, hg, hag0, hb0, hls, h => by
    unfold prvF at h
    split at h
    case h_2 => cases h
    rename_i li hli
    simp only [Bool.and_eq_true] at h
    obtain ⟨hb, hh, hfh, hbody⟩ := h
    have hb := Nat.le_of_ble_eq_true hb
    obtain ⟨q1, q2, q3, q4, q5, q6, q7⟩ := headOk_ok (la := ⟨b, init.length, fs, ⟨li.inv, li.ms⟩⟩) hg hh (e0 := e) fun _ _ => rfl
    have hlp : ∀ f, li.fn = some f → IsLoop f := fun f hf => hL b li f hli hf
    refine ⟨fun k ds => li.inv.B (e.ext b ds) = true ∧ (∀ f ∈ fs, f.r.has (f.e.I (e.ext b ds))) ∧ FOk (e.ext b ds) ⟨b, init.length, fs, li, init⟩ ∧ k = (li.ms.I (e.ext b ds)).toNat, ⟨_, q2, q3, FOk.start (la := ⟨b, init.length, fs, li, init⟩) hfh hlp, rfl⟩, ?_⟩
    rintro k ds hl ⟨i1, i2, i3, rfl⟩
    refine ⟨i2, ?_⟩
    have hag : Agv b e (e.ext b ds) := ext_ag e b ds
    have hgs := scG_ok (e' := e.ext b ds) hg (hag.le hb)
    have hg0 : (⟨b + init.length + 1, fs ++ (scG g).fs, (scG g).as⟩ : Gm).ok (e.ext b ds) := ⟨fun f hf => by
      rcases List.mem_append.1 hf with hf | hf
      · exact i2 f hf
      · exact hgs.fs f hf, hgs.as⟩
    obtain ⟨a1, a2⟩ := assumeL_ok (cs := li.inv :: lem b) hg0 fun c hc => by
      rcases List.mem_cons.1 hc with rfl | hc
      · exact i1
      · exact hlem b c hc _
    refine Tr.holds_mono (K := fun e' _ x _ fr m => Agv b0 e0 e' ∧ ∃ g' v v' m', x = .ret ∧ fr = [v] ∧ g'.ok e' ∧ v'.den e' = v.den e' ∧ denM e' m' = denM e' m ∧ fin g' v' m' = true) (fun _ _ _ _ _ _ h => h) (prvF_ok hL hlem body _ _ (e.ext b ds) _ a1 (hag0.trans (hag.le hb) hb0) (by rw [a2]; show b0 ≤ b + init.length + 1; omega) ?_ hbody)
    intro la hla
    rw [a2]
    rcases List.mem_cons.1 hla with rfl | hla
    · refine ⟨⟨q5, q6, q7, hfh, hlp, fun ds' hl' hi' hf' hfo' h0 hlt => ?_, i3⟩, by show b + init.length < b + init.length + 1; omega⟩
      have hee : (e.ext b ds).ext b ds' = e.ext b ds' := by
        show En.mk _ = En.mk _
        congr 1
        funext n
        show (bif Nat.ble b n && Nat.blt n (b + ds'.length) then ds'.getD (n - b) .u else (bif Nat.ble b n && Nat.blt n (b + ds.length) then ds.getD (n - b) .u else e.ρ n)) = (bif Nat.ble b n && Nat.blt n (b + ds'.length) then ds'.getD (n - b) .u else e.ρ n)
        rw [show ds.length = ds'.length from hl.trans hl'.symm]
        cases (Nat.ble b n && Nat.blt n (b + ds'.length)) <;> rfl
      simp only [hee] at hi' hf' h0 hlt hfo'
      show (if b = b then _ else J b) ds'
      rw [if_pos rfl]
      exact ⟨_, by omega, hi', hf', hfo', rfl⟩
    · obtain ⟨j, hj⟩ := hls la hla
      refine ⟨j.move (hag.le (by omega)) ?_, by show la.b + la.len < b + init.length + 1; omega⟩
      show (if la.b = b then _ else J la.b) = J la.b
      rw [if_neg (by omega)]
def gvn (n : Nat) (fs : List Fact) (xs : List X) : Gm := let g := assumeL ⟨n, fs, []⟩ xs; ⟨n, g.fs, g.as ++ xs⟩
theorem gvn_ok {n : Nat} {fs : List Fact} {xs : List X} {e : En} (hf : ∀ f ∈ fs, f.r.has (f.e.I e)) (hx : ∀ x ∈ xs, x.B e = true) : (gvn n fs xs).ok e := by
  obtain ⟨h1, h2⟩ := assumeL_ok (g := ⟨n, fs, []⟩) (cs := xs) ⟨hf, fun _ h => by cases h⟩ hx
  refine ⟨h1.fs, fun x h => ?_⟩
  rcases List.mem_append.1 h with h | h
  · exact h1.as x h
  · exact hx x h
def treeF (n : Nat) (L : Nat → Option LJ) (lem : Nat → List X) (T : Tab P) (W : FuncId → Nat → List (Hint P)) (C : FuncId → Option CallF) (cf d : Nat) (tms : Tms) (f : FuncId) (c : LC) (opn cls : List (Nat × Nat)) : Bool :=
  match openL tms opn c.mem with
  | some (m, fs, as) => opn.all (fun p => ptrIn c.args p.1) && (let g : Gm := gvn c.n (c.fs ++ fs) (c.as ++ as)
    prvF n L lem (finL n T tms c cls) g [] (treeOf T W C cf d f g c.args m))
  | none => false
theorem LC.den_ag {c : LC} (hok : c.ok = true) {e e' : En} (hag : Agv c.n e e') : c.val.den e' = c.val.den e ∧ denM e' c.out = denM e c.out := by
  unfold LC.ok at hok
  simp only [Bool.and_eq_true] at hok
  obtain ⟨_, _, _, _, _, _, c7, c8, _⟩ := hok
  refine ⟨?_, ?_⟩
  · have okA : ∀ x : SA, okSA c.n x = true → x.den e' = x.den e := by
      intro x hx
      cases x with
      | s x =>
        have hx : (x.sc c.n && noFn x) = true := hx
        rw [Bool.and_eq_true] at hx
        exact SS.sc_den hag x hx.1
      | ag l =>
        have hx : (l.all (SS.sc c.n) && l.all noFn) = true := hx
        rw [Bool.and_eq_true] at hx
        show Value.agg ⟨_⟩ = Value.agg ⟨_⟩
        rw [map_sc (fun x hx => SS.sc_den hag x hx) hx.1]
    cases hv : c.val with
    | a x => rw [hv] at c7; exact okA x c7
    | tu l =>
      rw [hv] at c7
      show Value.tuple ⟨l.map _⟩ = Value.tuple ⟨l.map _⟩
      rw [List.map_congr_left fun x hx => okA x (List.all_eq_true.1 c7 x hx)]
    | gd a b => rw [hv] at c7; cases c7
  · unfold denM
    refine List.map_congr_left fun b hb => ?_
    have := List.all_eq_true.1 c8 b hb
    refine scOB_den hag ?_
    cases b with
    | none => rfl
    | some b =>
      have h : (b.c.sc c.n && _) = true := this
      rw [Bool.and_eq_true] at h
      exact h.1
theorem LC.Ok.of_treeF {n : Nat} {L : Nat → Option LJ} {lem : Nat → List X} (hL : ∀ b li f, L b = some li → li.fn = some f → IsLoop f) (hlem : ∀ b, ∀ x ∈ lem b, ∀ e : En, x.B e = true) {T : Tab P} {W : FuncId → Nat → List (Hint P)} {C : FuncId → Option CallF} (hC : ∀ n c, C n = some c → ConOk T n c) {cf d : Nat} {tms : Tms} (ht : TmsOk P tms) {f : FuncId} (hfn : T.fn f = true) {c : LC} (hok : c.ok = true) {opn cls : List (Nat × Nat)}
    (h : treeF n L lem T W C cf d tms f c opn cls = true) : c.Ok P f := by
  refine ⟨fun ds hl hfs has => ?_⟩
  unfold treeF at h
  split at h
  case h_2 => cases h
  rename_i m fs as ho
  rw [Bool.and_eq_true] at h
  refine ACall.seesP (K' := fun v m' => SeesP P (denM (envOf ds) c.mem).length [v] m' [c.val.den (envOf ds)] (denM (envOf ds) c.out)) ?_ (fun v m' hs => ⟨_, _, hs, rfl, rfl⟩)
  refine openL_ok ht opn _ _ _ _ ho (fun p hp => ptrIn_ok (List.all_eq_true.1 h.1 p hp) _) fun hfs2 has2 => ?_
  have hga : ∀ x ∈ c.as ++ as, x.B (envOf ds) = true := fun x hx => by
    rcases List.mem_append.1 hx with hx | hx
    · exact has x hx
    · exact has2 x hx
  have hg : (gvn c.n (c.fs ++ fs) (c.as ++ as)).ok (envOf ds) := gvn_ok (fun f hf => by
    rcases List.mem_append.1 hf with hf | hf
    · exact hfs f hf
    · exact hfs2 f hf) hga
  refine ACall.of_treeOf hC hfn hg (Tr.holds_mono ?_ (prvF_ok (e0 := envOf ds) (b0 := c.n) hL hlem _ _ [] (envOf ds) _ hg (fun _ _ => rfl) (Nat.le_refl _) (fun _ h => by cases h) h.2))
  rintro e' J x g' fr m' ⟨hag, g2, v, v', m2, rfl, rfl, hg2, hv, hm, hfin⟩
  refine ⟨v, rfl, rfl, ?_⟩
  have := finL_ok ht hg2 hfin
  obtain ⟨e1, e2⟩ := LC.den_ag hok hag
  rw [denM_len, ← e1, ← e2, ← hv, ← hm]
  exact this
end Go.SX
end
noncomputable section
namespace Go.SX
set_option linter.unusedSectionVars false
open Go Go.AE Go.ChangeShapes Go.RowKit
set_option linter.constructorNameAsVariable false
set_option linter.unusedSimpArgs false
set_option linter.unusedVariables false
variable {P : Program} [Fam]
theorem ACall.of_prvF {T : Tab P} {W : FuncId → Nat → List (Hint P)} {C : FuncId → Option CallF} (hC : ∀ n c, C n = some c → ConOk T n c) {cf d : Nat} {n : FuncId} (hfn : T.fn n = true) {k : Nat} {L : Nat → Option LJ} {lem : Nat → List X} (hL : ∀ b li f, L b = some li → li.fn = some f → IsLoop f) (hlem : ∀ b, ∀ x ∈ lem b, ∀ e : En, x.B e = true) {g : Gm} {args : List SV} {m : SMem} {e : En} (hg : g.ok e)
    (h : prvF k L lem (fun g v _ => finTrue k g v) g [] (treeOf T W C cf d n g args m) = true) : ACall P n (args.map (SV.den e)) (denM e m) fun w _ => w = .bool true := by
  refine ACall.of_treeOf (KV := fun w _ => w = .bool true) hC hfn hg (Tr.holds_mono ?_ (prvF_ok (e0 := e) (b0 := 0) hL hlem _ g [] e _ hg (fun _ _ => rfl) (Nat.zero_le _) (fun _ h => by cases h) h))
  rintro e' J' x g' fr m' ⟨_, g2, v, v', m2, rfl, rfl, h1, h2, _, h3⟩
  exact ⟨v, rfl, rfl, h2 ▸ finTrue_ok h1 h3⟩
theorem law_callsF {T : Tab P} {W : FuncId → Nat → List (Hint P)} {C : FuncId → Option CallF} (hC : ∀ n c, C n = some c → ConOk T n c) {cf d : Nat} {n : FuncId} (hfn : T.fn n = true) {k : Nat} {L : Nat → Option LJ} {lem : Nat → List X} (hL : ∀ b li f, L b = some li → li.fn = some f → IsLoop f) (hlem : ∀ b, ∀ x ∈ lem b, ∀ e : En, x.B e = true)
    {ts : List TypeId} {aks : List AL} {as : List X} (hts : ts.mapM (alkind P) = some aks) (has : ∀ x ∈ as, ∀ e : En, (∀ f ∈ facL aks 0, f.r.has (f.e.I e)) → x.B e = true)
    {cs : List X} (hcov : ∀ e : En, (∀ f ∈ facL aks 0, f.r.has (f.e.I e)) → ∃ c ∈ cs, c.B e = true)
    (h : ∀ c ∈ cs, prvF k L lem (fun g v _ => finTrue k g v) (assume (gL aks as) c) [] (treeOf T W C cf d n (assume (gL aks as) c) (symL aks 0 0) (memL aks 0)) = true)
    {H : Type} {enc : TypeId × Value → H} {w : World} {r : Reach} {b0 base : Nat} {sp : Nat → Bool} {hd : Bool} {args : Array Value} {xs : List (DataW H)} {ps : List MemPlace} (hsp : ∀ b, sp b = true) (hT : DataW.TrodAll enc P w base sp hd ts args.toList xs ps) (hok : ∀ (i : Nat) t v, ts[i]? = some t → args[i]? = some v → Value.okWide P w r b0 t v) (hg : Go.AE.Good w fun _ => False) :
    Calls P n args w fun x w' => x = .returned (.bool true) ∧ Below w.heap.size w w' := by
  obtain ⟨ds, gs, hds⟩ := symL_open hsp hts (fun i t v h1 h2 => hok i t v h1 (by simpa using h2)) hT
  obtain ⟨⟨hf, _⟩, hml, hv, hb⟩ := hds (envOf ds) 0 (envOf_at ds)
  obtain ⟨c, hc, hcB⟩ := hcov (envOf ds) hf
  have hc := ACall.of_prvF (e := envOf ds) hC hfn hL hlem (g := assume (gL aks as) c) (assume_ok (g := gL aks as) ⟨hf, fun c hc => has c hc _ hf⟩ hcB).1 (h c hc)
  have hr : Rel P (quietC w hg) gs (denM (envOf ds) (memL aks 0)) w := by
    refine ⟨hml.symm, fun j b gb hj hgb => ?_, fun i j bi bj gi gj _ hi _ hrw hgi _ => ?_, fun _ _ _ => rfl, Nat.le_refl _, rfl, rfl, rfl, Objs.no (fun j b gb hj hgb => (hb j b gb hj hgb).2.2.1) (quietC w hg).rr, fun j b gb hj hgb _ _ => (hb j b gb hj hgb).2.2.2.2.1⟩
    · obtain ⟨s1, s2, _, _, _, cs, fr, q1, q2, q3⟩ := hb j b gb hj hgb
      exact ⟨cs, fr, q1, q2 _, q3, fun h => (by rw [s1] at h; cases h), fun h => (by rw [s2] at h; cases h)⟩
    · have := (hb i bi gi hi hgi).1
      rw [hrw] at this; cases this
  refine (hc _ gs w args.toList hr (hv 0 gs fun i x hx => by rw [Nat.zero_add]; exact hx)).mono ?_
  rintro x w' ⟨u, v', m', g', rfl, rfl, hr', hvr⟩
  obtain rfl : v' = .bool true := VR.is_true hvr
  exact ⟨rfl, hr'.os, hr'.tape, hr'.output, hr'.size, fun k hk => hr'.frame k hk (fun h => h)⟩
end Go.SX
end
noncomputable section
namespace Go.SX
set_option linter.unusedSectionVars false
open Go Go.AE
set_option linter.constructorNameAsVariable false
set_option linter.unusedSimpArgs false
set_option linter.unusedVariables false
variable [Fam]
def stepD (next : List X) (ds : List D) : List D := next.map (X.den (envOf ds)) ++ ds.drop next.length
def iterD (next : List X) : Nat → List D → List D
  | 0, ds => ds
  | n + 1, ds => iterD next n (stepD next ds)
def EndsAt (cond : X) (next : List X) (ds : List D) (n : Nat) : Prop := cond.B (envOf (iterD next n ds)) = false ∧ ∀ k, k < n → cond.B (envOf (iterD next k ds)) = true
theorem EndsAt.succ {cond : X} {next : List X} {ds : List D} (hc : cond.B (envOf ds) = true) {n : Nat} : EndsAt cond next ds (n + 1) ↔ EndsAt cond next (stepD next ds) n := by
  constructor
  · intro h
    exact ⟨h.1, fun k hk => h.2 (k + 1) (by omega)⟩
  · intro h
    refine ⟨h.1, fun k hk => ?_⟩
    cases k with
    | zero => exact hc
    | succ k => exact h.2 k (by omega)
theorem comps_len : ∀ (n : Nat) (d : D), (comps n d).length = n
  | 0, _ => rfl
  | 1, _ => rfl
  | n + 2, d => by show (comps (n + 1) d.snd).length + 1 = _; rw [comps_len (n + 1)]
end Go.SX
end
noncomputable section
namespace Go.SX
set_option linter.unusedSectionVars false
open Go Go.AE
set_option linter.constructorNameAsVariable false
set_option linter.unusedSimpArgs false
set_option linter.unusedVariables false
variable {P : Program} [Fam]
theorem LC.Ok.conv {c c' : LC} {f : FuncId} (h : c.Ok P f) (hn : c'.n = c.n) (ha : c'.args = c.args) (hm : c'.mem = c.mem)
    (hx : ∀ ds : List D, ds.length = c.n → (∀ f ∈ c'.fs, f.r.has (f.e.I (envOf ds))) → (∀ x ∈ c'.as, x.B (envOf ds) = true) →
      (∀ f ∈ c.fs, f.r.has (f.e.I (envOf ds))) ∧ (∀ x ∈ c.as, x.B (envOf ds) = true) ∧ c.val.den (envOf ds) = c'.val.den (envOf ds) ∧ denM (envOf ds) c.out = denM (envOf ds) c'.out) : c'.Ok P f := by
  refine ⟨fun ds hl hfs has => ?_⟩
  obtain ⟨h1, h2, h3, h4⟩ := hx ds (hl.trans hn) hfs has
  rw [ha, hm, ← h3, ← h4]
  exact h.call ds (hl.trans hn) h1 h2
theorem EndsAt.zero {cond : X} {next : List X} {ds : List D} (h : cond.B (envOf ds) = false) : EndsAt cond next ds 0 := ⟨h, fun _ hk => absurd hk (Nat.not_lt_zero _)⟩
end Go.SX
end
noncomputable section
namespace Go.SX
set_option linter.unusedSectionVars false
open Go Go.AE
set_option linter.constructorNameAsVariable false
set_option linter.unusedSimpArgs false
set_option linter.unusedVariables false
variable {P : Program} [Fam]
def mthE (N k : Nat) : List X := compX N (.v 0) ++ (List.range k).map fun i => .v (1 + i)
theorem mthE_len (N k : Nat) : (mthE N k).length = N + k := by
  unfold mthE; rw [List.length_append, compX_len, List.length_map, List.length_range]
theorem mthE_den (N k : Nat) {d : D} {as : List D} (hk : as.length = k) : (mthE N k).map (X.den (envOf (d :: as))) = comps N d ++ as := by
  unfold mthE
  rw [List.map_append, compX_den]
  congr 1
  refine List.ext_getElem? fun i => ?_
  rw [List.map_map, List.getElem?_map]
  rcases Nat.lt_or_ge i k with h | h
  · rw [List.getElem?_eq_getElem (by simpa using h), List.getElem?_eq_getElem (hk ▸ h)]
    simp only [List.getElem_range, Option.map_some, Function.comp]
    show some ((d :: as).getD (1 + i) .u) = _
    rw [Nat.add_comm, List.getD_cons_succ, List.getD_eq_getElem?_getD, List.getElem?_eq_getElem (hk ▸ h)]; rfl
  · rw [List.getElem?_eq_none (by simpa using h), List.getElem?_eq_none (hk ▸ h)]; rfl
theorem _root_.Go.AE.ACall.inv {f : FuncId} {as : List Value} {m : Mem} {K : Value → Mem → Prop} {j : Nat} {vis : List Value} {el : TypeId} {ex : Bool} {tm : Mem} {inv : Prop} (hj : m[j]? = some (some (obBlk vis el ex (obT P tm inv)))) (ha : .pointer (some ⟨j, 0, none⟩) ∈ as)
    (h : inv → ACall P f as m K) : ACall P f as m K := by
  intro c g W args' hr hargs
  obtain ⟨w, hw⟩ := hargs.mem ha
  obtain ⟨gb, hg⟩ := hw.root
  obtain ⟨hinv, _⟩ := hr.open hj hg
  exact h hinv c g W args' hr hargs
structure Mth where
  N : Nat
  k : Nat
  args : List SV
  fs : List Fact
  as : List X
  val : SV
def Mth.lc (m : Mth) (j : Nat) (sp : List X) : LC := ⟨m.N + m.k, .z (.p 0 (.i 0) 0 0) :: m.args, [some (obS j (packX (varsX m.N)))], m.fs, m.as, m.val, [some (obS j (packX sp))]⟩
def Mth.whole (m : Mth) (j : Nat) (val : SV) (st : X) : LC := ⟨1 + m.k, .z (.p 0 (.i 0) 0 0) :: m.args.map (subSV (mthE m.N m.k) id), [some (obS j (.v 0))], m.fs.map (fun f => ⟨f.e.sub 0 (mthE m.N m.k), f.r⟩), m.as.map (X.sub 0 (mthE m.N m.k)), val, [some (obS j st)]⟩
theorem packX_eq : ∀ (e : En) (l : List X), (packX l).den e = packD (l.map (X.den e))
  | _, [] => rfl
  | _, [_] => rfl
  | e, x :: y :: l => by
    show D.p (x.den e) ((packX (y :: l)).den e) = D.p (x.den e) (packD ((y :: l).map (X.den e)))
    rw [packX_eq e (y :: l)]
def VisOk (N j : Nat) : Prop := ∀ d : D, (Fam.vis j).map (VC.val (packD (comps N d))) = (Fam.vis j).map (VC.val d)
theorem obS_same {j : Nat} {t : Tm} (hob : IsOb P j t) (hv : VisOk t.n j) {e e' : En} {x y : X} (h : x.den e = packD (comps t.n (y.den e'))) (hN : 0 < t.n) : denM e [some (obS j x)] = denM e' [some (obS j y)] := by
  show [some ((obS j x).den e)] = [some ((obS j y).den e')]
  rw [obS_den, obS_den, h, hv, hob.2, hob.2]
  have h1 := packD_comps (comps t.n (y.den e'))
  rw [comps_len] at h1
  have h2 : t.inv (packD (comps t.n (y.den e'))) = t.inv (y.den e') := by
    unfold Tm.inv
    rw [h1]
  rw [h1, h2]
theorem ren1_id (v : Value) : ren1 id v = v := by
  unfold ren1
  split
  · rename_i l
    rw [map_renS_id l]
  · exact renS_id _
theorem ren_id (v : Value) : ren id v = v := by
  unfold ren
  split
  · rename_i l
    rw [show l.map (ren1 id) = l from (List.map_congr_left fun v _ => ren1_id v).trans (List.map_id l)]
  · exact ren1_id _
def Mth.sc (m : Mth) : Bool := m.args.all (okSV (m.N + m.k)) && (m.fs.all (fun f => f.e.sc (m.N + m.k)) && (m.as.all (X.sc (m.N + m.k)) && okSV (m.N + m.k) m.val))
theorem Mth.ok {m : Mth} {j : Nat} {sp : List X} {f : FuncId} {t : Tm} (h : (m.lc j sp).Ok P f) (hob : IsOb P j t) (hN : t.n = m.N) (h0 : 0 < m.N) (hv : VisOk t.n j) (hsc : m.sc = true) {val : SV} {st : X}
    (hval : ∀ d as, as.length = m.k → t.inv d → (∀ f ∈ m.fs, f.r.has (f.e.I (envOf (comps m.N d ++ as)))) → m.val.den (envOf (comps m.N d ++ as)) = val.den (envOf (d :: as)))
    (hst : ∀ d as, as.length = m.k → t.inv d → (∀ f ∈ m.fs, f.r.has (f.e.I (envOf (comps m.N d ++ as)))) → packD (sp.map (X.den (envOf (comps m.N d ++ as)))) = packD (comps m.N (st.den (envOf (d :: as))))) : (m.whole j val st).Ok P f := by
  unfold Mth.sc at hsc
  simp only [Bool.and_eq_true] at hsc
  obtain ⟨s1, s2, s3, s4⟩ := hsc
  have hgo : ∀ ds : List D, ds.length = (m.whole j val st).n → t.inv (ds.getD 0 .u) → (∀ f ∈ (m.whole j val st).fs, f.r.has (f.e.I (envOf ds))) → (∀ x ∈ (m.whole j val st).as, x.B (envOf ds) = true) →
      (∀ f ∈ (m.lc j sp).fs, f.r.has (f.e.I (envOf ((mthE m.N m.k).map (X.den (envOf ds)))))) ∧ (∀ x ∈ (m.lc j sp).as, x.B (envOf ((mthE m.N m.k).map (X.den (envOf ds)))) = true) ∧
      (m.lc j sp).args.map (SV.den (envOf ((mthE m.N m.k).map (X.den (envOf ds))))) = (m.whole j val st).args.map (SV.den (envOf ds)) ∧ denM (envOf ((mthE m.N m.k).map (X.den (envOf ds)))) (m.lc j sp).mem = denM (envOf ds) (m.whole j val st).mem ∧
      (m.lc j sp).val.den (envOf ((mthE m.N m.k).map (X.den (envOf ds)))) = (m.whole j val st).val.den (envOf ds) ∧ denM (envOf ((mthE m.N m.k).map (X.den (envOf ds)))) (m.lc j sp).out = denM (envOf ds) (m.whole j val st).out := fun ds hl hinv hfs has => by
    obtain ⟨d, as, rfl⟩ : ∃ d as, ds = d :: as := by
      cases ds with
      | nil => have : (0 : Nat) = 1 + m.k := hl; omega
      | cons d as => exact ⟨d, as, rfl⟩
    have hk : as.length = m.k := by
      have : as.length + 1 = 1 + m.k := hl
      omega
    have he := mthE_den m.N m.k (d := d) hk
    have hlen := mthE_len m.N m.k
    have hfm : ∀ f ∈ m.fs, f.r.has (f.e.I (envOf ((mthE m.N m.k).map (X.den (envOf (d :: as)))))) := by
      intro f hf
      have h1 := hfs ⟨f.e.sub 0 (mthE m.N m.k), f.r⟩ (List.mem_map.2 ⟨f, hf, rfl⟩)
      have h2 := List.all_eq_true.1 s2 f hf
      have h3 : (f.e.sub 0 (mthE m.N m.k)).I (envOf (d :: as)) = f.e.I (envOf ((mthE m.N m.k).map (X.den (envOf (d :: as))))) := by
        simp only [X.I, sub0_den (es := mthE m.N m.k) (e := envOf (d :: as)) (x := f.e) (by rw [hlen]; exact h2)]
      have h1 : f.r.has ((f.e.sub 0 (mthE m.N m.k)).I (envOf (d :: as))) := h1
      rwa [h3] at h1
    refine ⟨hfm, fun x hx => ?_, ?_, ?_, ?_, ?_⟩
    · have h1 := has (x.sub 0 (mthE m.N m.k)) (List.mem_map.2 ⟨x, hx, rfl⟩)
      have h2 := List.all_eq_true.1 s3 x hx
      simp only [X.B] at h1 ⊢
      rwa [sub0_den (es := mthE m.N m.k) (e := envOf (d :: as)) (x := x) (by rw [hlen]; exact h2)] at h1
    · show _ :: m.args.map _ = _ :: (m.args.map (subSV (mthE m.N m.k) id)).map _
      rw [List.map_map]
      congr 1
      refine List.map_congr_left fun x hx => ?_
      have := subSV_den (es := mthE m.N m.k) (ρ := id) (e := envOf (d :: as)) (x := x) (by rw [hlen]; exact List.all_eq_true.1 s1 x hx)
      show _ = (subSV (mthE m.N m.k) id x).den _
      rw [this, ren_id]
    · rw [he]
      refine obS_same hob hv ?_ (by omega)
      rw [packX_eq, hN]
      have : (varsX m.N).map (X.den (envOf (comps m.N d ++ as))) = comps m.N d := by
        refine List.ext_getElem? fun i => ?_
        simp only [varsX, List.map_map, List.getElem?_map]
        rcases Nat.lt_or_ge i m.N with h | h
        · rw [List.getElem?_eq_getElem (by simpa using h), List.getElem?_eq_getElem (by rw [comps_len]; exact h)]
          simp only [List.getElem_range, Option.map_some, Function.comp]
          show some ((comps m.N d ++ as).getD i .u) = _
          rw [List.getD_eq_getElem?_getD, List.getElem?_append_left (by rw [comps_len]; exact h), List.getElem?_eq_getElem (by rw [comps_len]; exact h)]; rfl
        · rw [List.getElem?_eq_none (by simpa using h), List.getElem?_eq_none (by rw [comps_len]; exact h)]; rfl
      rw [this]
      rfl
    · rw [he]; exact hval d as hk hinv (he ▸ hfm)
    · rw [he]
      refine obS_same hob hv ?_ (by omega)
      rw [packX_eq, hN]
      exact hst d as hk hinv (he ▸ hfm)
  refine ⟨fun ds hl hfs has => ?_⟩
  refine ACall.inv (j := 0) (vis := (Fam.vis j).map (VC.val (ds.getD 0 .u))) (el := 0) (ex := false) (tm := denM (envOf (comps t.n (ds.getD 0 .u))) t.mem) (inv := t.inv (ds.getD 0 .u)) ?_ ?_ fun hinv => ?_
  · show some (some ((obS j (.v 0)).den (envOf ds))) = _
    rw [obS_den, hob.2]; rfl
  · exact List.mem_cons_self
  · obtain ⟨h1, h2, h3, h4, h5, h6⟩ := hgo ds hl hinv hfs has
    rw [← h3, ← h4, ← h5, ← h6]
    exact h.call _ (by rw [List.length_map, mthE_len]; rfl) h1 h2
theorem Mth.keep {m : Mth} {j : Nat} {f : FuncId} {t : Tm} (h : (m.lc j (varsX m.N)).Ok P f) (hob : IsOb P j t) (hN : t.n = m.N) (h0 : 0 < m.N) (hv : VisOk t.n j) (hsc : m.sc = true) {val : SV}
    (hval : ∀ d as, as.length = m.k → t.inv d → (∀ f ∈ m.fs, f.r.has (f.e.I (envOf (comps m.N d ++ as)))) → m.val.den (envOf (comps m.N d ++ as)) = val.den (envOf (d :: as))) : (m.whole j val (.v 0)).Ok P f := by
  refine Mth.ok h hob hN h0 hv hsc hval fun d as hk _ _ => ?_
  congr 1
  show _ = comps m.N d
  refine List.ext_getElem? fun i => ?_
  simp only [varsX, List.map_map, List.getElem?_map]
  rcases Nat.lt_or_ge i m.N with h | h
  · rw [List.getElem?_eq_getElem (by simpa using h), List.getElem?_eq_getElem (by rw [comps_len]; exact h)]
    simp only [List.getElem_range, Option.map_some, Function.comp]
    show some ((comps m.N d ++ as).getD i .u) = _
    rw [List.getD_eq_getElem?_getD, List.getElem?_append_left (by rw [comps_len]; exact h), List.getElem?_eq_getElem (by rw [comps_len]; exact h)]; rfl
  · rw [List.getElem?_eq_none (by simpa using h), List.getElem?_eq_none (by rw [comps_len]; exact h)]; rfl
theorem LC.Ok.cases {c : LC} {f : FuncId} {l : List (List Fact)} (h : ∀ fs ∈ l, (LC.mk c.n c.args c.mem (fs ++ c.fs) c.as c.val c.out).Ok P f)
    (hc : ∀ ds : List D, ds.length = c.n → (∀ f ∈ c.fs, f.r.has (f.e.I (envOf ds))) → ∃ fs ∈ l, ∀ f ∈ fs, f.r.has (f.e.I (envOf ds))) : c.Ok P f := by
  refine ⟨fun ds hl hfs has => ?_⟩
  obtain ⟨fs, hm, hf⟩ := hc ds hl hfs
  exact (h fs hm).call ds hl (fun f hfm => by
    rcases List.mem_append.1 hfm with h1 | h1
    · exact hf f h1
    · exact hfs f h1) has
theorem LC.Ok.drop {c : LC} {f : FuncId} {ax : List X} (h : (LC.mk c.n c.args c.mem c.fs (ax ++ c.as) c.val c.out).Ok P f) (hx : ∀ x ∈ ax, ∀ e : En, x.B e = true) : c.Ok P f :=
  h.conv rfl rfl rfl fun ds hl hf ha => ⟨hf, fun x hm => by
    rcases List.mem_append.1 hm with h1 | h1
    · exact hx x h1 _
    · exact ha x h1, rfl, rfl⟩
end Go.SX
end
noncomputable section
namespace Go.SX
set_option linter.unusedSectionVars false
open Go Go.AE
set_option linter.constructorNameAsVariable false
set_option linter.unusedSimpArgs false
set_option linter.unusedVariables false
variable {P : Program} [Fam]
def smV (g : Gm) : SV → SV
  | .a (.s (.z (.b x))) => .a (.s (.z (.b (smB g x))))
  | .a (.s (.z (.i k x))) => .a (.s (.z (.i k (smI g x))))
  | v => v
theorem smV_den {g : Gm} {e : En} (hg : g.ok e) (v : SV) : (smV g v).den e = v.den e := by
  unfold smV
  split
  · show Value.bool _ = Value.bool _
    rw [smB_ok hg]
  · show Value.int _ _ = Value.int _ _
    rw [smI_ok hg]
  · rfl
def conSm (f : ConF) : ConF := fun g args m => match f g args m with
  | some (ns, v, m') => some (ns, smV g v, m')
  | none => none
theorem Con.sm {n : FuncId} {f : ConF} (h : Con P n f) : Con P n (conSm f) := by
  intro g args m ns v m' e hf hg hn
  unfold conSm at hf
  split at hf
  case h_2 => cases hf
  rename_i ns0 v0 m0 h0
  cases hf
  rw [smV_den hg]
  exact h g args m _ _ _ e h0 hg hn
def conAlt : List ConF → ConF
  | [], _, _, _ => none
  | f :: l, g, args, m => match f g args m with
    | some r => some r
    | none => conAlt l g args m
theorem Con.alt {n : FuncId} : ∀ {l : List ConF}, (∀ f ∈ l, Con P n f) → Con P n (conAlt l)
  | [], _, _, _, _, _, _, _, _, hf, _, _ => by cases hf
  | f :: l, h, g, args, m, ns, v, m', e, hf, hg, hn => by
    unfold conAlt at hf
    split at hf
    · rename_i r hr
      cases hf
      exact h f List.mem_cons_self g args m _ _ _ e hr hg hn
    · exact Con.alt (fun f hf => h f (List.mem_cons_of_mem _ hf)) g args m _ _ _ e hf hg hn
theorem all_cons' {α : Type} {P : α → Prop} {x : α} {l : List α} (h : P x) (hl : ∀ y ∈ l, P y) : ∀ y ∈ x :: l, P y := fun y hy => by
  rcases List.mem_cons.1 hy with rfl | hy
  · exact h
  · exact hl y hy
theorem all_nil' {α : Type} {P : α → Prop} : ∀ y ∈ ([] : List α), P y := fun y hy => by cases hy
end Go.SX
end
noncomputable section
namespace Go.SX
set_option linter.unusedSectionVars false
open Go Go.AE
set_option linter.constructorNameAsVariable false
set_option linter.unusedSimpArgs false
set_option linter.unusedVariables false
variable {P : Program} [Fam]
def NS (hi : Nat) (v w : Value) : Prop := v = w ∨ (v = .slice none 0 0 ∧ ∃ j, j < hi ∧ w = .slice (some ⟨j, 0, none⟩) 0 0)
def NV (hi : Nat) (v w : Value) : Prop := NS hi v w ∨ ∃ xs ys : List Value, v = .agg ⟨xs⟩ ∧ w = .agg ⟨ys⟩ ∧ F2 (NS hi) xs ys
theorem NS.sr {g : List (Option GB)} {v w r : Value} (h : NS g.length v w) (hr : SR g v r) : SR g w r := by
  rcases h with rfl | ⟨rfl, j, hj, rfl⟩
  · exact hr
  · cases hr with
    | slice0 => exact .nilS _ _ _ hj
theorem F2.via {α β γ : Type} {R : α → β → Prop} {S : α → γ → Prop} {T : β → γ → Prop} (h : ∀ x y z, R x y → S x z → T y z) : ∀ {xs : List α} {ys : List β} {zs : List γ}, F2 R xs ys → F2 S xs zs → F2 T ys zs
  | _, _, _, .nil, .nil => .nil
  | _, _, _, .cons h1 h2, .cons h3 h4 => .cons (h _ _ _ h1 h3) (F2.via h h2 h4)
theorem NV.vr {g : List (Option GB)} {v w r : Value} (h : NV g.length v w) (hr : VR g v r) : VR g w r := by
  rcases h with (rfl | ⟨rfl, j, hj, rfl⟩) | ⟨xs, ys, rfl, rfl, h⟩
  · exact hr
  · cases hr with
    | a h => cases h with
      | s h => exact .s (NS.sr (.inr ⟨rfl, j, hj, rfl⟩) h)
  · cases hr with
    | a h2 => cases h2 with
      | s h2 => cases h2
      | agg h2 => exact VR.agg (F2.via (R := NS g.length) (S := SR g) (T := SR g) (fun _ _ _ a b => NS.sr a b) h h2)
theorem Rel.ghosts {c : Ctx} {W : World} : ∀ (Bs : List (Option ABlk)) {g : List (Option GB)} {m : Mem}, Rel P c g m W → Rel P c (g ++ List.replicate Bs.length none) (m ++ Bs) W
  | [], g, m, h => by simpa using h
  | B :: Bs, g, m, h => by
    have := Rel.ghosts Bs (h.ghost B)
    rw [List.append_assoc, List.append_assoc] at this
    exact this
theorem _root_.Go.AE.ACall.nilled {f : FuncId} {as as' : List Value} {m : Mem} {Bs : List (Option ABlk)} {K : Value → Mem → Prop} (hn : F2 (NV (m.length + Bs.length)) as as') (h : ACall P f as' (m ++ Bs) K) : ACall P f as m K := by
  intro c g W args hr ha
  have hr2 := Rel.ghosts Bs hr
  have hl : m.length + Bs.length = (g ++ List.replicate Bs.length none).length := by rw [List.length_append, hr.len, List.length_replicate]
  rw [hl] at hn
  have ha2 : F2 (VR (g ++ List.replicate Bs.length none)) as args := ha.imp fun _ _ h => h.app
  have ha3 : F2 (VR (g ++ List.replicate Bs.length none)) as' args := F2.via (R := NV (g ++ List.replicate Bs.length none).length) (S := VR (g ++ List.replicate Bs.length none)) (fun _ _ _ a b => NV.vr a b) hn ha2
  refine (h c (g ++ List.replicate Bs.length none) W args hr2 ha3).mono ?_
  rintro e W' ⟨v, v', m', g', he, hK, h1, h2⟩
  rw [List.append_assoc] at h1 h2
  exact ⟨v, v', m', _, he, hK, h1, h2⟩
def isN : SS → Bool
  | .z .sl0 => true
  | _ => false
theorem isN_eq {x : SS} (h : isN x = true) : x = .z .sl0 := by
  cases x with
  | z y => cases y <;> first | rfl | cases h
  | _ => cases h
def fillL : List SS → List (Option SBlk) → SMem → List SS × (List (Option SBlk) × SMem)
  | [], bs, m => ([], bs, m)
  | x :: l, [], m => (x :: l, [], m)
  | x :: l, b :: bs, m => bif isN x then (match fillL l bs (m ++ [b]) with | (l', r) => (.z (.sl m.length (.i 0) 0 0 (.i 0) (.i 0)) :: l', r)) else (match fillL l (b :: bs) m with | (l', r) => (x :: l', r))
theorem F2_NS_refl (hi : Nat) : ∀ l : List Value, F2 (NS hi) l l
  | [] => .nil
  | x :: l => .cons (.inl rfl) (F2_NS_refl hi l)
theorem fillL_ok (e : En) : ∀ (l : List SS) (bs : List (Option SBlk)) (m : SMem), ∃ Bs : SMem, (fillL l bs m).2.2 = m ++ Bs ∧ ∀ hi, m.length + Bs.length ≤ hi → F2 (NS hi) (l.map (SS.den e)) ((fillL l bs m).1.map (SS.den e))
  | [], bs, m => ⟨[], by simp [fillL], fun hi _ => .nil⟩
  | x :: l, [], m => ⟨[], by simp [fillL], fun hi _ => F2_NS_refl hi _⟩
  | x :: l, b :: bs, m => by
    unfold fillL
    cases hx : isN x with
    | true =>
      obtain rfl := isN_eq hx
      obtain ⟨Bs, h1, h2⟩ := fillL_ok e l bs (m ++ [b])
      refine ⟨b :: Bs, ?_, fun hi hh => ?_⟩
      · show (fillL l bs (m ++ [b])).2.2 = _
        rw [h1, List.append_assoc]; rfl
      · simp only [List.length_cons] at hh
        refine .cons (.inr ⟨rfl, m.length, by omega, rfl⟩) (h2 hi ?_)
        rw [List.length_append, List.length_singleton]; omega
    | false =>
      obtain ⟨Bs, h1, h2⟩ := fillL_ok e l (b :: bs) m
      exact ⟨Bs, h1, fun hi hh => .cons (.inl rfl) (h2 hi hh)⟩
def fillV (v : SV) (bs : List (Option SBlk)) (m : SMem) : SV × (List (Option SBlk) × SMem) := match v with
  | .a (.s (.z .sl0)) => (match bs with
    | b :: bs => (.z (.sl m.length (.i 0) 0 0 (.i 0) (.i 0)), bs, m ++ [b])
    | [] => (v, bs, m))
  | .a (.ag l) => (match fillL l bs m with | (l', r) => (.a (.ag l'), r))
  | v => (v, bs, m)
theorem fillV_ok (e : En) (v : SV) (bs : List (Option SBlk)) (m : SMem) : ∃ Bs : SMem, (fillV v bs m).2.2 = m ++ Bs ∧ ∀ hi, m.length + Bs.length ≤ hi → NV hi (v.den e) ((fillV v bs m).1.den e) := by
  unfold fillV
  split
  · split
    · rename_i b bs0
      exact ⟨[b], rfl, fun hi hh => .inl (.inr ⟨rfl, m.length, by simp at hh; omega, rfl⟩)⟩
    · exact ⟨[], by simp, fun hi _ => .inl (.inl rfl)⟩
  · rename_i l
    obtain ⟨Bs, h1, h2⟩ := fillL_ok e l bs m
    exact ⟨Bs, h1, fun hi hh => .inr ⟨_, _, rfl, rfl, h2 hi hh⟩⟩
  · exact ⟨[], by simp, fun hi _ => .inl (.inl rfl)⟩
def fillVs : List SV → List (Option SBlk) → SMem → List SV × SMem
  | [], _, m => ([], m)
  | v :: l, bs, m => match fillV v bs m with | (v', bs', m') => match fillVs l bs' m' with | (l', m2) => (v' :: l', m2)
theorem NS.le {a b : Nat} (h : a ≤ b) {v w : Value} (hn : NS a v w) : NS b v w := by
  rcases hn with h1 | ⟨h1, j, hj, h2⟩
  · exact .inl h1
  · exact .inr ⟨h1, j, by omega, h2⟩
theorem fillVs_ok (e : En) : ∀ (l : List SV) (bs : List (Option SBlk)) (m : SMem), ∃ Bs : SMem, (fillVs l bs m).2 = m ++ Bs ∧ ∀ hi, m.length + Bs.length ≤ hi → F2 (NV hi) (l.map (SV.den e)) ((fillVs l bs m).1.map (SV.den e))
  | [], bs, m => ⟨[], by simp [fillVs], fun hi _ => .nil⟩
  | v :: l, bs, m => by
    obtain ⟨B1, h1, h2⟩ := fillV_ok e v bs m
    obtain ⟨B2, h3, h4⟩ := fillVs_ok e l (fillV v bs m).2.1 (fillV v bs m).2.2
    refine ⟨B1 ++ B2, ?_, fun hi hh => ?_⟩
    · show (fillVs l (fillV v bs m).2.1 (fillV v bs m).2.2).2 = _
      rw [h3, h1, List.append_assoc]
    · rw [List.length_append] at hh
      refine .cons (h2 hi (by omega)) (h4 hi ?_)
      rw [h1, List.length_append]; omega
def conFill (bs : List (Option SBlk)) (f : ConF) : ConF := fun g args m => match fillVs args bs m with | (args', m') => f g args' m'
theorem Con.fill {n : FuncId} {f : ConF} (bs : List (Option SBlk)) (h : Con P n f) : Con P n (conFill bs f) := by
  intro g args m ns v m' e hf hg hns
  have hf : f g (fillVs args bs m).1 (fillVs args bs m).2 = some (ns, v, m') := hf
  have := h g _ _ ns v m' e hf hg hns
  obtain ⟨Bs, h1, h2⟩ := fillVs_ok e args bs m
  rw [h1, denM_app] at this
  refine ACall.nilled ?_ this
  have := h2 (m.length + Bs.length) (Nat.le_refl _)
  rw [denM_len, denM_len]
  exact this
end Go.SX
end
noncomputable section
namespace Go.SX
set_option linter.unusedSectionVars false
open Go Go.AE
set_option linter.constructorNameAsVariable false
set_option linter.unusedSimpArgs false
set_option linter.unusedVariables false
variable {P : Program} [Fam]
end Go.SX
end
noncomputable section
set_option linter.unusedSectionVars false
set_option linter.unusedVariables false
namespace Go.SX
open Go Go.AE Go.RowKit
variable {P : Program} [Fam]
theorem F2.plain_eq {g : List (Option GB)} : ∀ {xs ys : List Value}, xs.all plainS = true → F2 (SR g) xs ys → ys = xs
  | [], _, _, h => by cases h; rfl
  | x :: xs, _, hp, h => by
    cases h with
    | cons h1 h2 =>
      rw [List.all_cons, Bool.and_eq_true] at hp
      rw [SR.plain_eq hp.1 h1, F2.plain_eq hp.2 h2]
end Go.SX
end
noncomputable section
set_option linter.unusedSectionVars false
namespace Go.SX
open Go Go.AE Go.ChangeShapes Go.RowKit
variable {P : Program} [Fam] {H : Type} {enc : TypeId × Value → H} {base : Nat} {sp : Nat → Bool} {hd : Bool}
def BytesAt (W : World) (ok : Nat → Prop) (w : Value) (l : List UInt8) : Prop :=
  (l = [] ∧ ∃ a, w = .slice a 0 0) ∨ ∃ (bb off cap : Nat) (cs : Array Value) (el : TypeId) (x : Nat × Nat), w = .slice (some ⟨bb, off, none⟩) l.length cap ∧ l.length ≤ cap ∧ ok bb ∧ W.heap[bb]? = some (.cells cs el x) ∧ (cs.toList.drop off).take l.length = l.map Byt ∧ off + l.length ≤ cs.size
theorem BytesAt.mono {W W' : World} {ok ok' : Nat → Prop} {w : Value} {l : List UInt8} (h : BytesAt W ok w l) (hk : ∀ k, ok k → ok' k ∧ W'.heap[k]? = W.heap[k]?) : BytesAt W' ok' w l := by
  rcases h with h | ⟨bb, off, cap, cs, el, x, h1, h2, h3, h4, h5, h6⟩
  · exact .inl h
  · exact .inr ⟨bb, off, cap, cs, el, x, h1, h2, (hk _ h3).1, (hk _ h3).2.trans h4, h5, h6⟩
structure PcRep (L : List (List A)) (r : GB) (W : World) (fp rp : Nat → Prop) : Prop where
  root : fp r.b ∨ rp r.b
  len : (L.length : Int) ≤ 9223372036854775807
  rows : ∃ (cs : Array Value) (el : TypeId) (x : Nat × Nat), W.heap[r.b]? = some (.cells cs el x) ∧ ∀ (i : Nat) row, L[i]? = some row → ∃ w, cs[r.base + 2 * i]? = some (.int .i64 (IntKind.i64.wrap (row.getD 0 (.i 0)).toI)) ∧ cs[r.base + 2 * i + 1]? = some w ∧ BytesAt W (fun k => fp k ∨ rp k) w (row.getD 1 (.i 0)).toS
def pcOb (L : List (List A)) : Ob where
  rep := PcRep L
  loc := by
    rintro r W W' fp rp ⟨h1, h0, cs, el, x, h2, h3⟩ hk
    refine ⟨h1, h0, cs, el, x, (hk _ h1).trans h2, fun i row hi => ?_⟩
    obtain ⟨w, q1, q2, q3⟩ := h3 i row hi
    exact ⟨w, q1, q2, q3.mono fun k hk' => ⟨hk', hk k hk'⟩⟩
  root h := h.root
inductive MK where
  | z (c : CK)
  | sl (o : Option (List CK))
  | pc
def MK.nb : MK → Nat
  | .z _ => 0
  | _ => 1
def mxB : List MK → Nat
  | [] => 0
  | k :: l => k.nb + mxB l
def CK.s0 : CK → Nat → S0
  | .i k, n => .i k (.v n)
  | .b, n => .b (.v n)
  | .s, n => .s (.v n)
def CK.fact : CK → Nat → List Fact
  | .i k, n => [⟨.v n, ⟨some (kMin k), some (kMax k)⟩⟩]
  | _, _ => []
def MK.ss : MK → Nat → Nat → SS
  | .z c, n, _ => .z (c.s0 n)
  | .sl none, n, j => .z (.sl j (.i 0) 0 0 (.u .len (.v n)) (.u .len (.v n)))
  | .sl (some _), n, j => .z (.sl j (.i 0) 0 0 (.u .rlen (.v n)) (.u .rlen (.v n)))
  | .pc, n, j => .z (.sl j (.i 0) 0 0 (.u .rlen (.v n)) (.u .rlen (.v n)))
def MK.mem : MK → Nat → SMem
  | .z _, _ => []
  | .sl o, n => skM o n
  | .pc, n => [some ⟨.ob 7 (.v n), 0, false, false⟩]
def MK.fact : MK → Nat → List Fact
  | .z c, n => c.fact n
  | .sl o, n => skF o n
  | .pc, n => [⟨.u .rlen (.v n), ⟨some 0, some 9223372036854775807⟩⟩]
def mxS : List MK → Nat → Nat → List SS
  | [], _, _ => []
  | k :: l, n, j => k.ss n j :: mxS l (n + 1) (j + k.nb)
def mxM : List MK → Nat → SMem
  | [], _ => []
  | k :: l, n => k.mem n ++ mxM l (n + 1)
def mxF : List MK → Nat → List Fact
  | [], _ => []
  | k :: l, n => k.fact n ++ mxF l (n + 1)
theorem MK.mem_len (k : MK) (n : Nat) : (k.mem n).length = k.nb := by
  cases k with
  | z c => rfl
  | sl o => exact skM_len o n
  | pc => rfl
theorem mxM_len : ∀ (l : List MK) (n : Nat), (mxM l n).length = mxB l
  | [], _ => rfl
  | k :: l, n => by
    show (k.mem n ++ mxM l (n + 1)).length = _
    rw [List.length_append, k.mem_len, mxM_len l]; rfl
theorem mxS_app : ∀ (l l' : List MK) (n j : Nat), mxS (l ++ l') n j = mxS l n j ++ mxS l' (n + l.length) (j + mxB l)
  | [], _, _, _ => by simp [mxS, mxB]
  | k :: l, l', n, j => by
    show k.ss n j :: mxS (l ++ l') (n + 1) (j + k.nb) = k.ss n j :: (mxS l (n + 1) (j + k.nb) ++ mxS l' (n + (l.length + 1)) (j + (k.nb + mxB l)))
    rw [mxS_app l l', show n + 1 + l.length = n + (l.length + 1) from by omega, Nat.add_assoc]
theorem mxM_app : ∀ (l l' : List MK) (n : Nat), mxM (l ++ l') n = mxM l n ++ mxM l' (n + l.length)
  | [], _, _ => by simp [mxM]
  | k :: l, l', n => by
    show k.mem n ++ mxM (l ++ l') (n + 1) = (k.mem n ++ mxM l (n + 1)) ++ mxM l' (n + (l.length + 1))
    rw [mxM_app l l', show n + 1 + l.length = n + (l.length + 1) from by omega, List.append_assoc]
theorem mxF_app : ∀ (l l' : List MK) (n : Nat), mxF (l ++ l') n = mxF l n ++ mxF l' (n + l.length)
  | [], _, _ => by simp [mxF]
  | k :: l, l', n => by
    show k.fact n ++ mxF (l ++ l') (n + 1) = (k.fact n ++ mxF l (n + 1)) ++ mxF l' (n + (l.length + 1))
    rw [mxF_app l l', show n + 1 + l.length = n + (l.length + 1) from by omega, List.append_assoc]
theorem mxB_app : ∀ (l l' : List MK), mxB (l ++ l') = mxB l + mxB l'
  | [], _ => by simp [mxB]
  | k :: l, l' => by show k.nb + mxB (l ++ l') = (k.nb + mxB l) + mxB l'; rw [mxB_app l l']; omega
def SeenO (W : World) (b : ABlk) (gb : GB) : Prop := Seen W b gb ∨ (b.rw = false ∧ b.ex = false ∧ b.cells = [] ∧ gb.b < W.heap.size ∧ (∃ (cs : Array Value) (fr : TypeId × (Nat × Nat)), W.heap[gb.b]? = some (.cells cs fr.1 fr.2) ∧ gb.base ≤ cs.size) ∧ ∃ o, b.ob = some o ∧ o.rep gb W (fun _ => False) fun k => k < W.heap.size)
class PcFam : Prop where
  ob7 : ∀ d, Fam.ob 7 d = pcOb d.toR
  vis7 : Fam.vis 7 = []
structure MxO (W : World) (l : List MK) (cs : List Value) (ds : List D) (gs : List (Option GB)) : Prop where
  gl : gs.length = mxB l
  dl : ds.length = l.length
  val : ∀ (e : En) (n j : Nat) (g : List (Option GB)), At0 e ds n → (∀ (i : Nat) x, gs[i]? = some x → g[j + i]? = some x) → F2 (SR g) ((mxS l n j).map (SS.den e)) cs
  fact : ∀ (e : En) (n : Nat), At0 e ds n → ∀ f ∈ mxF l n, f.r.has (f.e.I e)
  blk : ∀ (e : En) (n : Nat), At0 e ds n → ∀ (i : Nat) b gb, (denM e (mxM l n))[i]? = some (some b) → gs[i]? = some (some gb) → SeenO W b gb
theorem MxO.nil (W : World) : MxO W [] [] [] [] := ⟨rfl, rfl, fun _ _ _ _ _ _ => .nil, fun _ _ _ f hf => (by cases hf), fun e n _ i b gb hb => (by simp [mxM, denM] at hb)⟩
theorem MxO.app {W : World} {l l' : List MK} {cs cs' : List Value} {ds ds' : List D} {gs gs' : List (Option GB)} (h : MxO W l cs ds gs) (h' : MxO W l' cs' ds' gs') : MxO W (l ++ l') (cs ++ cs') (ds ++ ds') (gs ++ gs') := by
  refine ⟨by rw [List.length_append, h.gl, h'.gl, mxB_app], by rw [List.length_append, List.length_append, h.dl, h'.dl], fun e n j g ha hg => ?_, fun e n ha f hf => ?_, fun e n ha i b gb hb hgb => ?_⟩
  · obtain ⟨a1, a2⟩ := ha.split
    rw [h.dl] at a2
    rw [mxS_app, List.map_append]
    refine (h.val e n j g a1 fun i x hx => hg i x (getElem?_app hx)).append (h'.val e _ _ g a2 fun i x hx => ?_)
    have := hg (gs.length + i) x (by rw [List.getElem?_append_right (by omega)]; simpa using hx)
    rw [← this, h.gl]; congr 1; omega
  · obtain ⟨a1, a2⟩ := ha.split
    rw [h.dl] at a2
    rw [mxF_app] at hf
    exact (List.mem_append.1 hf).elim (h.fact e n a1 f) (h'.fact e _ a2 f)
  · obtain ⟨a1, a2⟩ := ha.split
    rw [h.dl] at a2
    rw [mxM_app, denM_app] at hb
    have hml : (denM e (mxM l n)).length = gs.length := by rw [denM_len, mxM_len, h.gl]
    rcases Nat.lt_or_ge i gs.length with hl | hl
    · rw [List.getElem?_append_left (by rw [hml]; exact hl)] at hb
      rw [List.getElem?_append_left hl] at hgb
      exact h.blk e n a1 i b gb hb hgb
    · rw [List.getElem?_append_right (by rw [hml]; exact hl), hml] at hb
      rw [List.getElem?_append_right hl] at hgb
      exact h'.blk e _ a2 _ b gb hb hgb
inductive AX where
  | old (a : AL)
  | mx (l : List MK)
  | m1 (k : MK)
def AX.n : AX → Nat
  | .old a => a.n
  | .mx l => l.length
  | .m1 _ => 1
def AX.nb : AX → Nat
  | .old a => a.nb
  | .mx l => mxB l
  | .m1 k => k.nb
def AX.sv : AX → Nat → Nat → SV
  | .old a, n, j => a.sv n j
  | .mx l, n, j => .a (.ag (mxS l n j))
  | .m1 k, n, j => .a (.s (k.ss n j))
def AX.mem : AX → Nat → SMem
  | .old a, n => a.mem n
  | .mx l, n => mxM l n
  | .m1 k, n => k.mem n
def AX.fact : AX → Nat → List Fact
  | .old a, n => a.fact n
  | .mx l, n => mxF l n
  | .m1 k, n => k.fact n
def AX.szB (B : Int) : AX → Nat → List Fact
  | .old a, n => a.szB B n
  | _, _ => []
theorem AX.mem_len (a : AX) (n : Nat) : (a.mem n).length = a.nb := by
  cases a with
  | old a => exact a.mem_len n
  | mx l => exact mxM_len l n
  | m1 k => exact k.mem_len n
structure OpenedX (W : World) (a : AX) (v : Value) (ds : List D) (gs : List (Option GB)) : Prop where
  gl : gs.length = a.nb
  dl : ds.length = a.n
  val : ∀ (e : En) (n j : Nat) (g : List (Option GB)), At0 e ds n → (∀ (i : Nat) x, gs[i]? = some x → g[j + i]? = some x) → VR g ((a.sv n j).den e) v
  fact : ∀ (e : En) (n : Nat), At0 e ds n → ∀ f ∈ a.fact n, f.r.has (f.e.I e)
  blk : ∀ (e : En) (n : Nat), At0 e ds n → ∀ (i : Nat) b gb, (denM e (a.mem n))[i]? = some (some b) → gs[i]? = some (some gb) → SeenO W b gb
end Go.SX
end
