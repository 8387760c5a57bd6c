/-
  An abstract logic for the model, and a symbolic executor over it (part 6). Conditions: none.
-/
import Derived.Test.YtciemdpcllpdkaaDoorLog5
set_option linter.unusedVariables false
set_option linter.unusedSimpArgs false
set_option linter.unnecessarySimpa false
set_option linter.constructorNameAsVariable false
noncomputable section
namespace Go.SX
set_option linter.unusedSectionVars false
open Go Go.AE
set_option linter.constructorNameAsVariable false
set_option linter.unusedSimpArgs false
set_option linter.unusedVariables false
variable {P : Program} [Fam]
def sEqS (g : Gm) (d : TypeDesc) (x y : SS) : Option X := match d, x, y with
  | .int _, .z (.i k a), .z (.i k' c) => bif eqK k k' then some (mkEq g a c) else none
  | .string, .z (.s a), .z (.s c) => some (mkSeq g a c)
  | .bool, .z (.b a), .z (.b c) => some (mkBeq a c)
  | _, _, _ => none
theorem sEqS_ok {g : Gm} {e : En} (hg : g.ok e) {d : TypeDesc} {x y : SS} {r : X} (h : sEqS g d x y = some r) : AE.eqS d (x.den e) (y.den e) = some (r.B e) := by
  unfold sEqS at h
  split at h
  · rename_i k a k' c
    cases hk : eqK k k' with
    | false => rw [hk] at h; cases h
    | true =>
      rw [hk] at h
      cases h
      have := eqK_eq hk
      subst this
      simp only [AE.eqS, SS.den, S0.den, if_true]
      congr 1
      rw [mkEq_B hg, Bool.eq_iff_iff]; simp
  · cases h
    simp only [AE.eqS, SS.den, S0.den]
    congr 1
    rw [mkSeq_B hg]
  · cases h
    simp only [AE.eqS, SS.den, S0.den]
    congr 1
    rw [mkBeq_B]
  · cases h
def sPartE (T : Tab P) (t : TypeId) (xs : List SS) (off : Nat) : Option SA := match T.und t, T.inf t with
  | some d, some te => bif isAggD d then some (.ag ((xs.drop off).take te.size)) else xs[off]?.map .s
  | _, _ => none
theorem sPartE_ok {e : En} {T : Tab P} {t : TypeId} {xs : List SS} {off : Nat} {v : SA} (h : sPartE T t xs off = some v) : partE T t (xs.map (SS.den e)) off = some (v.den e) := by
  unfold sPartE at h
  unfold partE
  split at h
  case h_2 => cases h
  rename_i d te hd hte
  simp only [hd, hte]
  cases ha : isAggD d with
  | true =>
    rw [ha] at h
    cases h
    simp only [if_true, SA.den, List.map_take, List.map_drop]
  | false =>
    rw [ha] at h
    simp only [cond_false, Option.map_eq_some_iff] at h
    obtain ⟨x, hx, rfl⟩ := h
    simp only [Bool.false_eq_true, if_false, List.getElem?_map, hx, Option.map_some, SA.den]
def sEqFl (E : TypeId → SA → SA → Option X) (T : Tab P) (xs ys : List SS) : List Field → Option X
  | [] => some (.b true)
  | f :: fs => if f.name = "_" then sEqFl E T xs ys fs else
    match sPartE T f.type xs f.offset, sPartE T f.type ys f.offset with
    | some x, some y =>
      match E f.type x y, sEqFl E T xs ys fs with
      | some a, some c => some (mkAnd a c)
      | _, _ => none
    | _, _ => none
def sEqIt (E : TypeId → SA → SA → Option X) (T : Tab P) (t : TypeId) (c : Nat) (xs ys : List SS) : List Nat → Option X
  | [] => some (.b true)
  | i :: is =>
    match sPartE T t xs (i * c), sPartE T t ys (i * c) with
    | some x, some y =>
      match E t x y, sEqIt E T t c xs ys is with
      | some a, some c => some (mkAnd a c)
      | _, _ => none
    | _, _ => none
def sEqG (g : Gm) (T : Tab P) : Nat → TypeId → SA → SA → Option X
  | 0, _, _, _ => none
  | m + 1, t, x, y => match T.und t, x, y with
    | some (.struct fs), .ag xs, .ag ys => bif T.plainEq t then sEqFl (sEqG g T m) T xs ys fs.toList else none
    | some (.array n e), .ag xs, .ag ys => match T.inf e with
      | some te => sEqIt (sEqG g T m) T e te.size xs ys (List.range n)
      | none => none
    | some d, .s x, .s y => sEqS g d x y
    | _, _, _ => none
def SEqOk (e : En) (E : TypeId → SA → SA → Option X) (F : TypeId → Value → Value → Option Bool) : Prop :=
  ∀ (t : TypeId) (x y : SA) (r : X), E t x y = some r → F t (x.den e) (y.den e) = some (r.B e)
theorem sEqFl_ok {e : En} {T : Tab P} {E : TypeId → SA → SA → Option X} {F : TypeId → Value → Value → Option Bool} (hE : SEqOk e E F) {xs ys : List SS} : ∀ {fs : List Field} {r : X}, sEqFl E T xs ys fs = some r → eqFl F T (xs.map (SS.den e)) (ys.map (SS.den e)) fs = some (r.B e)
  | [], r, h => by cases h; rfl
  | f :: fs, r, h => by
    unfold sEqFl at h
    unfold eqFl
    split at h
    · rename_i hn
      rw [if_pos hn]; exact sEqFl_ok hE h
    · rename_i hn
      rw [if_neg hn]
      split at h
      case h_2 => cases h
      rename_i x y hx hy
      split at h
      case h_2 => cases h
      rename_i a c ha hc
      cases h
      simp only [sPartE_ok hx, sPartE_ok hy, hE _ _ _ _ ha, sEqFl_ok hE hc, mkAnd_B]
theorem sEqIt_ok {e : En} {T : Tab P} {E : TypeId → SA → SA → Option X} {F : TypeId → Value → Value → Option Bool} (hE : SEqOk e E F) {t : TypeId} {c : Nat} {xs ys : List SS} : ∀ {is : List Nat} {r : X}, sEqIt E T t c xs ys is = some r → eqIt F T t c (xs.map (SS.den e)) (ys.map (SS.den e)) is = some (r.B e)
  | [], r, h => by cases h; rfl
  | i :: is, r, h => by
    unfold sEqIt at h
    unfold eqIt
    split at h
    case h_2 => cases h
    rename_i x y hx hy
    split at h
    case h_2 => cases h
    rename_i a c ha hc
    cases h
    simp only [sPartE_ok hx, sPartE_ok hy, hE _ _ _ _ ha, sEqIt_ok hE hc, mkAnd_B]
theorem sEqG_ok {g : Gm} {e : En} (hg : g.ok e) {T : Tab P} : ∀ (m : Nat), SEqOk e (sEqG g T m) (eqG T m)
  | 0 => fun t x y r h => by simp [sEqG] at h
  | m + 1 => fun t x y r h => by
    unfold sEqG at h
    unfold eqG
    split at h
    · rename_i fs xs ys hd
      cases hp : T.plainEq t with
      | false => rw [hp] at h; cases h
      | true =>
        rw [hp] at h
        simp only [hd, SA.den, hp, if_true]
        exact sEqFl_ok (sEqG_ok hg m) h
    · rename_i n t' xs ys hd
      split at h
      case h_2 => cases h
      rename_i te hte
      simp only [hd, SA.den, hte]
      exact sEqIt_ok (sEqG_ok hg m) h
    · rename_i d x y hd
      have hs := sEqS_ok hg h
      simp only [hd, SA.den]
      unfold AE.eqS at hs
      split at hs
      · rename_i h1 h2
        rw [h1, h2] at *
        simpa only [AE.eqS] using hs
      · rename_i h1 h2
        rw [h1, h2] at *
        simpa only [AE.eqS] using hs
      · rename_i h1 h2
        rw [h1, h2] at *
        simpa only [AE.eqS] using hs
      · cases hs
    · cases h
def sEqAgg (g : Gm) (T : Tab P) (t : TypeId) (xs ys : List SS) : Option X := bif T.plainEq t then sEqG g T 8 t (.ag xs) (.ag ys) else none
theorem sEqAgg_ok {g : Gm} {e : En} (hg : g.ok e) {T : Tab P} {t : TypeId} {xs ys : List SS} {r : X} (h : sEqAgg g T t xs ys = some r) : eqAggA T t (xs.map (SS.den e)) (ys.map (SS.den e)) = some (r.B e) := by
  unfold sEqAgg at h
  unfold eqAggA
  cases hp : T.plainEq t with
  | false => rw [hp] at h; cases h
  | true =>
    rw [hp] at h
    simp only [if_true]
    exact sEqG_ok hg 8 t (.ag xs) (.ag ys) r h
def sEqBin (g : Gm) (d : TypeDesc) (x y : SS) : Option X := match d, x, y with
  | .bool, .z (.b a), .z (.b c) => some (mkBeq a c)
  | .pointer _, .z .p0, .z .p0 => some (.b true)
  | .pointer _, .z .p0, .z (.p _ _ _ _) => some (.b false)
  | .pointer _, .z (.p _ _ _ _), .z .p0 => some (.b false)
  | .slice _, .z .sl0, .z .sl0 => some (.b true)
  | .slice _, .z .sl0, .z (.sl _ _ _ _ n _) => bif posLo (rng g.fs n) then some (.b false) else none
  | .slice _, .z (.sl _ _ _ _ n _), .z .sl0 => bif posLo (rng g.fs n) then some (.b false) else none
  | .func _ _ _, .nf, .nf => some (.b true)
  | .func _ _ _, .nf, .fn _ _ _ => some (.b false)
  | .func _ _ _, .fn _ _ _, .nf => some (.b false)
  | _, _, _ => none
theorem posNat {g : Gm} {e : En} (hg : g.ok e) {n : X} (h : posLo (rng g.fs n) = true) : ∃ k, (n.I e).toNat = k + 1 := by
  have hr := rng_ok hg.fs n
  have : 0 < n.I e := by
    unfold posLo at h
    split at h
    · rename_i a ha
      have h1 := of_decide_eq_true h
      have h2 := hr.1 a ha
      omega
    · cases h
  exact ⟨(n.I e).toNat - 1, by omega⟩
theorem sEqBin_ok {g : Gm} {e : En} (hg : g.ok e) {d : TypeDesc} {x y : SS} {r : X} (h : sEqBin g d x y = some r) : AE.eqBin d (x.den e) (y.den e) = some (r.B e) := by
  unfold sEqBin at h
  split at h
  case h_6 | h_7 =>
    rename_i n _
    cases hp : posLo (rng g.fs n) with
    | false => rw [hp] at h; cases h
    | true =>
      rw [hp] at h
      cases h
      obtain ⟨k, hk⟩ := posNat hg hp
      simp only [AE.eqBin, SS.den, S0.den, hk]; rfl
  all_goals first | (cases h; done) | (cases h; first | rfl | (simp only [AE.eqBin, SS.den, S0.den, mkBeq_B]))
def sBin (g : Gm) (T : Tab P) (op : BinOp) (t : TypeId) (x y : SV) : Option (List X × SV) :=
  match x, y with
  | .a (.s (.z (.i k a))), .a (.s (.z (.i k' c))) =>
    match op with
    | .shl => some ((sInt g .shl k a c).1, .z (sInt g .shl k a c).2)
    | .shr => some ((sInt g .shr k a c).1, .z (sInt g .shr k a c).2)
    | op => bif eqK k k' then some ((sInt g op k a c).1, .z (sInt g op k a c).2) else none
  | .a (.s (.z (.s a))), .a (.s (.z (.s c))) => (sStr g op a c).map fun r => (r.1, .z r.2)
  | .a (.ag xs), .a (.ag ys) =>
    match op with
    | .eql => (sEqAgg g T t xs ys).map fun r => ([], .z (.b r))
    | .neq => (sEqAgg g T t xs ys).map fun r => ([], .z (.b (mkNot r)))
    | _ => none
  | .a (.s x), .a (.s y) =>
    match op, T.und t with
    | .eql, some d => (sEqBin g d x y).map fun r => ([], .z (.b r))
    | .neq, some d => (sEqBin g d x y).map fun r => ([], .z (.b (mkNot r)))
    | _, _ => none
  | _, _ => none
theorem sBin_eq {T : Tab P} {op : BinOp} {t : TypeId} {vx vy : Value} {d : TypeDesc} {r : Bool} (hd : T.und t = some d) (h : AE.eqBin d vx vy = some r) :
    (op = .eql → aBinT T op t vx vy = some ([], .bool r)) ∧ (op = .neq → aBinT T op t vx vy = some ([], .bool !r)) := by
  constructor
  · rintro rfl
    unfold AE.eqBin at h
    split at h <;> simp only [Option.some.injEq, reduceCtorEq] at h <;> subst h <;> simp only [aBinT, aBin, hd, AE.eqBin, Option.map_some]
  · rintro rfl
    unfold AE.eqBin at h
    split at h <;> simp only [Option.some.injEq, reduceCtorEq] at h <;> subst h <;> simp only [aBinT, aBin, hd, AE.eqBin, Option.map_some]
theorem sBin_ok {g : Gm} {e : En} (hg : g.ok e) {T : Tab P} {op : BinOp} {t : TypeId} {x y v : SV} {ns : List X} (h : sBin g T op t x y = some (ns, v)) (hn : allB e ns) :
    ∃ cs, aBinT T op t (x.den e) (y.den e) = some (cs, v.den e) ∧ ∀ c ∈ cs, c = true := by
  unfold sBin at h
  split at h
  · rename_i k a k' c
    split at h
    · cases h
      obtain ⟨h1, h2⟩ := sShl_ok hg hn
      refine ⟨[decide (0 ≤ c.I e)], ?_, by simpa using h1⟩
      show some (_, Value.int k _) = some (_, S0.den e _)
      rw [h2]
    · cases h
      obtain ⟨h1, h2⟩ := sShr_ok hg hn
      refine ⟨[decide (0 ≤ c.I e)], ?_, by simpa using h1⟩
      show some (_, Value.int k _) = some (_, S0.den e _)
      rw [h2]
    · rename_i n1 n2
      cases hk : eqK k k' with
      | false => rw [hk] at h; cases h
      | true =>
        rw [hk] at h
        cases h
        have := eqK_eq hk
        subst this
        obtain ⟨cs, v', h1, h2, rfl⟩ := sInt_ok hg hn
        refine ⟨cs, ?_, h2⟩
        refine Eq.trans ?_ h1
        show aBin op (T.und t) (.int k _) (.int k _) = _
        unfold aBin
        cases op <;> first | (exact (n1 rfl).elim; done) | (exact (n2 rfl).elim; done) | simp only [if_true]
  · rename_i a c
    cases hs : sStr g op a c with
    | none => rw [hs] at h; cases h
    | some r =>
      rw [hs] at h
      cases h
      obtain ⟨cs, v', h1, h2, rfl⟩ := sStr_ok hg (show sStr g op a c = some (r.1, r.2) from hs) hn
      exact ⟨cs, h1, h2⟩
  · rename_i xs ys
    split at h
    · cases hs : sEqAgg g T t xs ys with
      | none => rw [hs] at h; cases h
      | some r =>
        rw [hs] at h
        cases h
        refine ⟨[], ?_, fun c hc => (by cases hc)⟩
        simp only [aBinT, SV.den, SA.den, sEqAgg_ok hg hs, Option.map_some]
        rfl
    · cases hs : sEqAgg g T t xs ys with
      | none => rw [hs] at h; cases h
      | some r =>
        rw [hs] at h
        cases h
        refine ⟨[], ?_, fun c hc => (by cases hc)⟩
        simp only [aBinT, SV.den, SA.den, sEqAgg_ok hg hs, Option.map_some, SS.den, S0.den, mkNot_B]
    · cases h
  · rename_i x y n1 n2
    split at h
    · rename_i d hd
      cases hs : sEqBin g d x y with
      | none => rw [hs] at h; cases h
      | some r =>
        rw [hs] at h
        cases h
        exact ⟨[], (sBin_eq hd (sEqBin_ok hg hs)).1 rfl, fun c hc => (by cases hc)⟩
    · rename_i d hd
      cases hs : sEqBin g d x y with
      | none => rw [hs] at h; cases h
      | some r =>
        rw [hs] at h
        cases h
        refine ⟨[], ?_, fun c hc => (by cases hc)⟩
        refine ((sBin_eq hd (sEqBin_ok hg hs)).2 rfl).trans ?_
        show some ([], Value.bool _) = some ([], Value.bool _)
        rw [mkNot_B]
    · cases h
  · cases h
def sUn (g : Gm) (op : UnOp) (x : SV) : Option SV := match op, x with
  | .not, .a (.s (.z (.b c))) => some (.z (.b (mkNot c)))
  | .neg, .a (.s (.z (.i k n))) => some (.z (.i k (mkWrap g k (mkSub (.i 0) n))))
  | .xor, .a (.s (.z (.i k n))) => some (.z (.i k (mkBit g .xor k (.i (if k.signed then -1 else k.max)) n)))
  | _, _ => none
theorem sUn_ok {g : Gm} {e : En} (hg : g.ok e) {op : UnOp} {x v : SV} (h : sUn g op x = some v) : aUn op (x.den e) = some (v.den e) := by
  unfold sUn at h
  split at h <;> first | (cases h; done) | cases h
  · simp only [aUn, SV.den, SA.den, SS.den, S0.den, mkNot_B]
  · simp only [aUn, SV.den, SA.den, SS.den, S0.den, mkWrap_I hg, mkSub_I]; rfl
  · simp only [aUn, SV.den, SA.den, SS.den, S0.den, mkBit_I hg]; rfl
def clr (c : X) (v : SV) : SV := match v with
  | .gd d x => bif eqX d c then .a x else .gd d x
  | v => v
theorem clr_den {e : En} {c : X} {v : SV} (h : c.B e = true) : (clr c v).den e = v.den e := by
  unfold clr
  split
  · rename_i d x
    cases hd : eqX d c with
    | true =>
      rw [eqX_eq hd]
      show x.den e = bif c.B e then x.den e else _
      rw [h]; rfl
    | false => rfl
  · rfl
def pick2 (c : X) (va vb : SV) : Option SV := match va, vb with
  | .a (.s x), .a (.s y) => (iteS c x y).map fun z => .a (.s z)
  | _, _ => none
def kOf : SV → Option IntKind
  | .a (.s (.z (.i k _))) => some k
  | .gd _ (.s (.z (.i k _))) => some k
  | _ => none
theorem kOf_den {e : En} {v : SV} {k : IntKind} {p : Int} (h : v.den e = .int k p) : kOf v = some k := by
  have hA : ∀ x : SA, x.den e = .int k p → ∃ y, x = .s (.z (.i k y)) := by
    intro x hx
    cases x with
    | ag l => cases hx
    | s x => cases x with
      | z x => cases x <;> first | (cases hx; done) | (cases hx; exact ⟨_, rfl⟩)
      | _ => cases hx
  cases v with
  | a x => obtain ⟨y, rfl⟩ := hA x h; rfl
  | tu l => cases h
  | gd c x =>
    have h : (bif c.B e then x.den e else Go.undef) = Value.int k p := h
    cases hc : c.B e with
    | true => rw [hc] at h; obtain ⟨y, rfl⟩ := hA x h; rfl
    | false => rw [hc] at h; cases h
def kindOk (va vb : SV) : Bool := match kOf va, kOf vb with
  | some k, some k' => eqK k k'
  | _, _ => true
def deepAs (g : Gm) : List X → List X
  | [] => []
  | .u .not (.o .and p q) :: l => (match known g p with
    | .b true => mkNot q :: deepAs g l
    | _ => (match known g q with
      | .b true => mkNot p :: deepAs g l
      | _ => deepAs g l))
  | _ :: l => deepAs g l
theorem deepAs_ok {g : Gm} {e : En} (hg : g.ok e) : ∀ l : List X, (∀ x ∈ l, x.B e = true) → ∀ x ∈ deepAs g l, x.B e = true
  | [], _ => fun x hx => by cases hx
  | a :: l, h => by
    have ih := deepAs_ok hg l fun x hx => h x (List.mem_cons_of_mem _ hx)
    unfold deepAs
    split
    · rename_i heq
      cases heq
    · rename_i p q l' heq
      cases heq
      have ha : (!(p.B e && q.B e)) = true := h _ List.mem_cons_self
      have kp := known_B hg p
      have kq := known_B hg q
      split
      · rename_i hp
        rw [hp] at kp
        have kp : true = p.B e := kp
        intro x hx
        rcases List.mem_cons.1 hx with rfl | hx
        · rw [mkNot_B]; rw [← kp] at ha; simpa using ha
        · exact ih x hx
      · split
        · rename_i hq
          rw [hq] at kq
          have kq : true = q.B e := kq
          intro x hx
          rcases List.mem_cons.1 hx with rfl | hx
          · rw [mkNot_B]; rw [← kq] at ha; simpa using ha
          · exact ih x hx
        · exact ih
    · rename_i heq
      cases heq
      exact ih
def deepG (g : Gm) : Gm := ⟨g.nv, g.fs, deepAs g g.as ++ g.as⟩
theorem deepG_ok {g : Gm} {e : En} (hg : g.ok e) : (deepG g).ok e := ⟨hg.fs, fun x hx => (List.mem_append.1 hx).elim (deepAs_ok hg _ hg.as x) (hg.as x)⟩
def sPick (g : Gm) (c va vb : SV) : Option SV := bif !kindOk va vb then none else match c with
  | .a (.s (.z (.b c))) =>
    match known g c with
    | .b true => some va
    | .b false => some vb
    | c => pick2 c (clr c va) (clr (mkNot c) vb)
  | _ => none
theorem evPick_of {n₀ : Nat} {t : Bool} {va vb : Value} {m : Mem} {k : Value → Mem → Prop} (hs : ∀ ka p kb q, va = .int ka p → vb = .int kb q → ka = kb) (hk : k (bif t then va else vb) m) :
    evPick (propA P n₀).toOps (.bool t) va vb m k := by
  unfold evPick
  split
  · rename_i t' ht
    cases ht
    split
    · cases t <;> exact hk
    · have := hs _ _ _ _ rfl rfl
      rw [if_pos this]
      subst this
      cases t <;> exact hk
    · cases t <;> exact hk
    · refine ⟨fun h => ?_, fun h => ?_⟩
      · subst h; exact hk
      · subst h; exact hk
  · rename_i h
    exact (h t rfl).elim
theorem sPick_ok {n₀ : Nat} {g : Gm} {e : En} (hg : g.ok e) {c va vb v : SV} (h : sPick g c va vb = some v) {m : Mem} {k : Value → Mem → Prop} (hk : k (v.den e) m) :
    evPick (propA P n₀).toOps (c.den e) (va.den e) (vb.den e) m k := by
  unfold sPick at h
  cases hko : kindOk va vb with
  | false => rw [hko] at h; cases h
  | true =>
  rw [hko] at h
  simp only [Bool.not_true, cond_false] at h
  have hkind : ∀ ka p kb q, va.den e = .int ka p → vb.den e = .int kb q → ka = kb := by
    intro ka p kb q h1 h2
    unfold kindOk at hko
    rw [kOf_den h1, kOf_den h2] at hko
    exact eqK_eq hko
  split at h
  case h_2 => cases h
  rename_i c
  have hb := known_B hg c
  show evPick _ (.bool (c.B e)) _ _ _ _
  split at h
  · rename_i hc
    rw [hc] at hb
    cases h
    refine evPick_of hkind ?_
    rw [← hb]; exact hk
  · rename_i hc
    rw [hc] at hb
    cases h
    refine evPick_of hkind ?_
    rw [← hb]; exact hk
  · rw [← hb]
    refine evPick_of hkind ?_
    unfold pick2 at h
    split at h
    case h_2 => cases h
    rename_i x y hx hy
    cases hi : iteS (known g c) x y with
    | none => rw [hi] at h; cases h
    | some z =>
      rw [hi] at h
      cases h
      have hd := iteS_den (e := e) hi
      have hk : k (z.den e) m := hk
      rw [hd] at hk
      cases hcb : (known g c).B e with
      | true =>
        rw [hcb] at hk
        have := clr_den (v := va) hcb
        rw [hx] at this
        simp only [cond_true] at hk ⊢
        rw [← this]; exact hk
      | false =>
        rw [hcb] at hk
        have h2 : (mkNot (known g c)).B e = true := by rw [mkNot_B, hcb]; rfl
        have := clr_den (v := vb) h2
        rw [hy] at this
        simp only [cond_false] at hk ⊢
        rw [← this]; exact hk
def sPickD (g : Gm) (c va vb : SV) : Option SV := match sPick g c va vb with
  | some v => some v
  | none => sPick (deepG g) c va vb
theorem sPickD_ok {n₀ : Nat} {g : Gm} {e : En} (hg : g.ok e) {c va vb v : SV} (h : sPickD g c va vb = some v) {m : Mem} {k : Value → Mem → Prop} (hk : k (v.den e) m) :
    evPick (propA P n₀).toOps (c.den e) (va.den e) (vb.den e) m k := by
  unfold sPickD at h
  split at h
  · rename_i h1
    cases h
    exact sPick_ok hg h1 hk
  · exact sPick_ok (deepG_ok hg) h hk
def sAlloc (T : Tab P) (el : TypeId) (m : SMem) : Option (SV × SMem) :=
  match T.inf el with
  | some te =>
    match te.zero with
    | some z => bif plainC z && cellsOk z then some (.z (.p m.length (.i 0) 0 0), m ++ [some ⟨.cs (z.cells.toList.map ofS), el, true, true⟩]) else none
    | none => none
  | none => none
theorem cells_plain {z : Value} (h1 : plainC z = true) (h2 : cellsOk z = true) (e : En) : (z.cells.toList.map ofS).map (SS.den e) = z.cells.toList := by
  have : ∀ l : List Value, l.all plainS = true → (l.map ofS).map (SS.den e) = l := by
    intro l hl
    rw [List.map_map]
    conv => rhs; rw [← List.map_id l]
    exact List.map_congr_left fun x hx => ofS_den (List.all_eq_true.1 hl x hx)
  apply this
  unfold plainC at h1
  split at h1
  · exact h1
  · cases h2
  · rename_i v h3 h4
    have : z.cells.toList = [z] := by
      cases z with
      | agg l => exact (h3 _ rfl).elim
      | _ => rfl
    rw [this]
    simp [h1]
theorem sAlloc_ok {n₀ : Nat} {e : En} {T : Tab P} {el : TypeId} {m m' : SMem} {v : SV} (h : sAlloc T el m = some (v, m')) {k : Value → Mem → Prop} (hk : k (v.den e) (denM e m')) : evAlloc (propA P n₀).toOps T el (denM e m) k := by
  unfold sAlloc at h
  split at h
  case h_2 => cases h
  rename_i te hte
  split at h
  case h_2 => cases h
  rename_i z hz
  cases hp : plainC z && cellsOk z with
  | false => rw [hp] at h; cases h
  | true =>
    rw [hp] at h
    cases h
    have hp2 := hp
    rw [Bool.and_eq_true] at hp2
    unfold evAlloc
    simp only [hte, hz, hp, if_true]
    rw [denM_app] at hk
    have e1 : denM e [some (⟨.cs (z.cells.toList.map ofS), el, true, true⟩ : SBlk)] = [newBlk el z.cells.toList] := by
      show [some (ABlk.mk ((z.cells.toList.map ofS).map (SS.den e)) el true true none)] = _
      rw [cells_plain hp2.1 hp2.2]; rfl
    rw [e1] at hk
    rw [denM_len]
    exact hk
def sBox (el : TypeId) (x : SV) (m : SMem) : Option (SV × SMem) := match svCells x with
  | some l => some (.z (.p m.length (.i 0) 0 0), m ++ [some ⟨.cs l, el, true, true⟩])
  | none => none
theorem sBox_ok {n₀ : Nat} {e : En} {el : TypeId} {x v : SV} {m m' : SMem} (h : sBox el x m = some (v, m')) {k : Value → Mem → Prop} (hk : k (v.den e) (denM e m')) :
    (if cellsOk (x.den e) then k (.pointer (some ⟨(denM e m).length, 0, none⟩)) (denM e m ++ [newBlk el (x.den e).cells.toList]) else (propA P n₀).toOps.fl) := by
  unfold sBox at h
  split at h
  case h_2 => cases h
  rename_i l hl
  cases h
  obtain ⟨h1, h2⟩ := svCells_ok (e := e) hl
  rw [if_pos h1, h2, denM_len]
  rw [denM_app] at hk
  exact hk
def setS (l : List SS) (off : Nat) : List SS → Nat → List SS
  | [], _ => l
  | x :: xs, j => setS (l.set (off + j) x) off xs (j + 1)
theorem setS_den (e : En) (off : Nat) : ∀ (xs l : List SS) (j : Nat), (setS l off xs j).map (SS.den e) = ((xs.map (SS.den e)).zipIdx j).foldl (fun cs (c, j) => cs.set (off + j) c) (l.map (SS.den e))
  | [], _, _ => rfl
  | x :: xs, l, j => by
    simp only [setS, List.map_cons, List.zipIdx_cons, List.foldl_cons]
    rw [setS_den e off xs, List.map_set]
def fillS (place : Nat → Option (Nat × Nat)) (cells : List SS) : List (Nat × SV) → Option (List SS)
  | [] => some cells
  | (i, v) :: rest =>
    match place i, svCells v with
    | some (off, size), some xs => bif Nat.beq xs.length size && Nat.ble (off + xs.length) cells.length then fillS place (setS cells off xs 0) rest else none
    | _, _ => none
def denP (e : En) (ps : List (Nat × SV)) : List (Nat × Value) := ps.map fun p => (p.1, p.2.den e)
theorem fillS_ok {e : En} {place : Nat → Option (Nat × Nat)} : ∀ {ps : List (Nat × SV)} {cells r : List SS}, fillS place cells ps = some r →
    fillL place (cells.map (SS.den e)) (denP e ps) = some (r.map (SS.den e)) ∧ (denP e ps).all (fun p => cellsOk p.2) = true
  | [], _, _, h => by cases h; exact ⟨rfl, rfl⟩
  | (i, v) :: ps, cells, r, h => by
    unfold fillS at h
    split at h
    case h_2 => cases h
    rename_i off size xs hp hx
    obtain ⟨h1, h2⟩ := svCells_ok (e := e) hx
    cases hc : Nat.beq xs.length size && Nat.ble (off + xs.length) cells.length with
    | false => rw [hc] at h; cases h
    | true =>
      rw [hc] at h
      rw [Bool.and_eq_true] at hc
      have c1 := Nat.eq_of_beq_eq_true hc.1
      have c2 := Nat.le_of_ble_eq_true hc.2
      obtain ⟨h3, h4⟩ := fillS_ok (e := e) (show fillS place (setS cells off xs 0) ps = some r from h)
      refine ⟨?_, ?_⟩
      · show fillL place _ ((i, v.den e) :: denP e ps) = _
        unfold fillL
        simp only [hp, h2]
        rw [if_neg (by simp only [List.length_map, ne_eq, Bool.or_eq_true, decide_eq_true_eq, not_or, Decidable.not_not]; omega)]
        rw [setS_den] at h3
        exact h3
      · show (cellsOk (v.den e) && (denP e ps).all (fun p => cellsOk p.2)) = true
        rw [h4, h1]; rfl
def sBuild (T : Tab P) (t : TypeId) (parts : List (Nat × SV)) : Option SV :=
  match T.und t, T.inf t with
  | some d, some ti =>
    match ti.zero with
    | some (.agg ⟨zs⟩) =>
      bif zs.all plainS then
        match d with
        | .struct fs =>
          match placesOf T fs.toList with
          | some ps => (fillS (fun i => ps[i]?) (zs.map ofS) parts).map fun cs => .a (.ag cs)
          | none => none
        | .array _ el =>
          match T.inf el with
          | some te => (fillS (fun i => some (i * te.size, te.size)) (zs.map ofS) parts).map fun cs => .a (.ag cs)
          | none => none
        | _ => none
      else none
    | _ => none
  | _, _ => none
theorem ofS_all {e : En} {l : List Value} (h : l.all plainS = true) : (l.map ofS).map (SS.den e) = l := by
  rw [List.map_map]
  conv => rhs; rw [← List.map_id l]
  exact List.map_congr_left fun x hx => ofS_den (List.all_eq_true.1 h x hx)
theorem sBuild_ok {e : En} {T : Tab P} {t : TypeId} {ps : List (Nat × SV)} {v : SV} (h : sBuild T t ps = some v) : buildA T t (denP e ps) = some (v.den e) := by
  unfold sBuild at h
  split at h
  case h_2 => cases h
  rename_i d ti hd hti
  split at h
  case h_2 => cases h
  rename_i zs hz
  cases hp : zs.all plainS with
  | false => rw [hp] at h; cases h
  | true =>
    rw [hp] at h
    simp only [cond_true] at h
    have hzs := ofS_all (e := e) hp
    unfold buildA
    simp only [hd, hti, hz]
    split at h
    · rename_i fs
      split at h
      case h_2 => cases h
      rename_i pl hpl
      cases hf : fillS (fun i => pl[i]?) (zs.map ofS) ps with
      | none => rw [hf] at h; cases h
      | some r =>
        rw [hf] at h
        cases h
        obtain ⟨h1, h2⟩ := fillS_ok (e := e) hf
        rw [hzs] at h1
        rw [hp, h2]
        simp only [Bool.and_self, if_true, hpl, h1, Option.map_some]
        rfl
    · rename_i el
      split at h
      case h_2 => cases h
      rename_i te hte
      cases hf : fillS (fun i => some (i * te.size, te.size)) (zs.map ofS) ps with
      | none => rw [hf] at h; cases h
      | some r =>
        rw [hf] at h
        cases h
        obtain ⟨h1, h2⟩ := fillS_ok (e := e) hf
        rw [hzs] at h1
        rw [hp, h2]
        simp only [Bool.and_self, if_true, hte, h1, Option.map_some]
        rfl
    · cases h
def sBuildSlice (T : Tab P) (t : TypeId) (len : Nat) (parts : List (Nat × SV)) (m : SMem) : Option (SV × SMem) :=
  match T.und t with
  | some (.slice el) =>
    match T.inf el with
    | some te =>
      match te.zero with
      | some z =>
        let init := (List.range (len * te.size)).map fun i => z.cells[i % z.cells.size]!
        bif decide (len * te.size > 2 ^ 24) || (!(len == 0) && len * te.size == 0) || !init.all plainS then none
        else match fillS (fun i => some (i * te.size, te.size)) (init.map ofS) parts with
          | some cs => some (.z (.sl m.length (.i 0) 0 0 (.i (len : Nat)) (.i (len : Nat))), m ++ [some ⟨.cs cs, el, true, true⟩])
          | none => none
      | none => none
    | none => none
  | _ => none
theorem sBuildSlice_ok {n₀ : Nat} {e : En} {T : Tab P} {t : TypeId} {len : Nat} {ps : List (Nat × SV)} {m m' : SMem} {v : SV} (h : sBuildSlice T t len ps m = some (v, m')) {k : Value → Mem → Prop} (hk : k (v.den e) (denM e m')) :
    evBuildSlice (propA P n₀).toOps (buildSliceA T t len (denP e ps)) len (denM e m) k := by
  unfold sBuildSlice at h
  split at h
  case h_2 => cases h
  rename_i el hd
  split at h
  case h_2 => cases h
  rename_i te hte
  split at h
  case h_2 => cases h
  rename_i z hz
  simp only at h
  cases hc : decide (len * te.size > 2 ^ 24) || (!(len == 0) && len * te.size == 0) || !((List.range (len * te.size)).map fun i => z.cells[i % z.cells.size]!).all plainS with
  | true => rw [hc] at h; cases h
  | false =>
    rw [hc] at h
    simp only [cond_false] at h
    split at h
    case h_2 => cases h
    rename_i cs hf
    cases h
    simp only [Bool.or_eq_false_iff, Bool.not_eq_false'] at hc
    obtain ⟨h1, h2⟩ := fillS_ok (e := e) hf
    rw [ofS_all hc.2] at h1
    have hb : buildSliceA T t len (denP e ps) = some (el, cs.map (SS.den e)) := by
      unfold buildSliceA
      simp only [hd, hte, hz]
      rw [if_neg (by simp only [Bool.or_eq_true, not_or, Bool.not_eq_true', Bool.not_eq_false]; exact ⟨⟨⟨by simpa using hc.1.1, by simpa using hc.1.2⟩, hc.2⟩, h2⟩), h1]
      rfl
    rw [hb]
    rw [denM_app] at hk
    show k (.slice (some ⟨(denM e m).length, 0, none⟩) len len) (denM e m ++ [newBlk el (cs.map (SS.den e))])
    rw [denM_len]
    exact hk
end Go.SX
end
noncomputable section
namespace Go.SX
set_option linter.unusedSectionVars false
open Go Go.AE
set_option linter.constructorNameAsVariable false
set_option linter.unusedSimpArgs false
set_option linter.unusedVariables false
variable {P : Program} [Fam]
def sLen (T : Tab P) (g : Gm) (t : TypeId) (x : SV) : Option (List X × SV) := match T.und t, x with
  | some .string, .a (.s (.z (.s s))) => some ([], .z (.i .i64 (mkLen s)))
  | some (.slice _), .a (.s (.z (.sl _ _ _ _ n _))) => some ([mkGe0 g n], .z (.i .i64 n))
  | some (.slice _), .a (.s (.z .sl0)) => some ([], .z (.i .i64 (.i 0)))
  | some (.array n _), _ => some ([], .z (.i .i64 (.i (n : Nat))))
  | _, _ => none
theorem sLen_ok {g : Gm} {e : En} (hg : g.ok e) {T : Tab P} {t : TypeId} {x v : SV} {ns : List X} (h : sLen T g t x = some (ns, v)) (hn : allB e ns) : lenA (T.und t) (x.den e) = some (v.den e) := by
  unfold sLen at h
  split at h
  · rename_i s hd
    cases h
    simp only [lenA, hd, SV.den, SA.den, SS.den, S0.den, mkLen_I, bl]
  · rename_i n _ hd
    cases h
    simp only [allB_cons] at hn
    have := mkGe0_ok hg hn.1
    simp only [lenA, hd, SV.den, SA.den, SS.den, S0.den]
    congr 2
    exact Int.toNat_of_nonneg this
  · rename_i hd
    cases h
    simp only [lenA, hd, SV.den, SA.den, SS.den, S0.den]; rfl
  · rename_i n _ hd
    cases h
    simp only [lenA, hd]; rfl
  · cases h
def sMin (g : Gm) (x y : X) : X := mkIte .i (mkLt g y x) y x
def sMax (g : Gm) (x y : X) : X := mkIte .i (mkLt g x y) y x
theorem sMin_I {g : Gm} {e : En} (hg : g.ok e) (x y : X) : (sMin g x y).I e = if y.I e < x.I e then y.I e else x.I e := by
  unfold sMin
  rw [mkIte_I, mkLt_B hg]
  by_cases h : y.I e < x.I e
  · rw [if_pos h, decide_eq_true h]; rfl
  · rw [if_neg h, decide_eq_false h]; rfl
theorem sMax_I {g : Gm} {e : En} (hg : g.ok e) (x y : X) : (sMax g x y).I e = if y.I e > x.I e then y.I e else x.I e := by
  unfold sMax
  rw [mkIte_I, mkLt_B hg]
  by_cases h : x.I e < y.I e
  · rw [if_pos h, decide_eq_true h]; rfl
  · rw [if_neg h, decide_eq_false h]; rfl
def unitsX : List SS → Option X
  | [] => some (.s [])
  | .z (.i .u8 x) :: l => match unitsX l with
    | some y => some (mkCat (mkUnit x) y)
    | none => none
  | _ => none
theorem unitsX_ok {e : En} : ∀ {l : List SS} {x : X}, unitsX l = some x → (l.map (SS.den e)).all isByte = true ∧ (l.map (SS.den e)).map AE.byteOf = x.S e
  | [], _, h => by cases h; exact ⟨rfl, rfl⟩
  | v :: l, x, h => by
    unfold unitsX at h
    split at h
    · rename_i heq; cases heq
    · rename_i y l' heq
      cases heq
      split at h
      case h_2 => cases h
      rename_i z hz
      cases h
      obtain ⟨h1, h2⟩ := unitsX_ok (e := e) hz
      refine ⟨?_, ?_⟩
      · show (true && _) = true
        rw [h1]; rfl
      · rw [mkCat_S, mkUnit_S, ← h2]; rfl
    · cases h
theorem byts_all (l : List UInt8) : (l.map Byt).all isByte = true ∧ (l.map Byt).map AE.byteOf = l := by
  refine ⟨?_, ?_⟩
  · rw [List.all_eq_true]
    intro x hx
    obtain ⟨c, _, rfl⟩ := List.mem_map.1 hx
    rfl
  · rw [List.map_map]
    conv => rhs; rw [← List.map_id l]
    refine List.map_congr_left fun c _ => ?_
    show UInt8.ofNat (((c.toNat : Nat) : Int).toNat) = c
    simp
def sConv (g : Gm) (T : Tab P) (s d : TypeId) (x : SV) (m : SMem) : Option (List X × SV) := match x with
  | .a (.s (.z (.sl j px w c n _))) =>
    match T.und s, T.und d with
    | some (.slice el), some .string =>
      match T.und el, m[j]? with
      | some (.int .u8), some (some b) =>
        match b.c with
        | .by y =>
          let off := mkAdd (mkMul px (.i (w : Nat))) (.i (c : Nat))
          some ([mkGe0 g px, mkGe0 g n, mkNot (mkLt g (mkLen y) (mkAdd off n))], .z (.s (mkTake (mkDrop y off) n)))
        | .cs l =>
          match px, n with
          | .i p, .i k => match unitsX ((l.drop (p.toNat * w + c)).take k.toNat) with
            | some z => bif Nat.ble (p.toNat * w + c + k.toNat) l.length then some ([], .z (.s z)) else none
            | none => none
          | _, _ => none
        | _ => none
      | _, _ => none
    | _, _ => none
  | .a (.s (.z .sl0)) =>
    match T.und s, T.und d with
    | some (.slice el), some .string =>
      match T.und el with
      | some (.int .u8) => some ([], .z (.s (.s [])))
      | _ => none
    | _, _ => none
  | .a (.s (.z (.i _ n))) =>
    match T.und s, T.und d with
    | some _, some (.int k) => some ([], .z (.i k (mkWrap g k n)))
    | _, _ => none
  | .a (.s (.z (.s y))) =>
    match T.und s, T.und d with
    | some _, some .string => some ([], .z (.s y))
    | _, _ => none
  | _ => none
theorem sConv_ok {n₀ : Nat} {g : Gm} {e : En} (hg : g.ok e) {T : Tab P} {s d : TypeId} {x v : SV} {m : SMem} {ns : List X} (h : sConv g T s d x m = some (ns, v)) (hn : allB e ns) {k : Value → Mem → Prop} (hk : k (v.den e) (denM e m)) :
    evConv (propA P n₀).toOps T s d (x.den e) (denM e m) k := by
  unfold sConv at h
  split at h
  · rename_i j px w c n cap
    split at h
    case h_2 => cases h
    rename_i el hs hd
    split at h
    case h_2 => cases h
    rename_i b hel hj
    unfold evConv
    simp only [SV.den, SA.den, SS.den, S0.den, hs, hd, hel, denM_get hj]
    split at h
    · rename_i y hb
      cases h
      simp only [allB_cons] at hn
      have h0 := mkGe0_ok hg hn.1
      have h1 := mkGe0_ok hg hn.2.1
      have h2 := hn.2.2.1
      rw [mkNot_B, mkLt_B hg, Bool.not_eq_true', decide_eq_false_iff_not, mkLen_I, mkAdd_I, lin_I e px w c h0] at h2
      have hc : (b.den e).cells = (y.S e).map Byt := by simp [SBlk.den, hb, SC.den]
      rw [hc]
      obtain ⟨a1, a2⟩ := byts_all (((y.S e).drop ((px.I e).toNat * w + c)).take (n.I e).toNat)
      rw [List.map_take, List.map_drop] at a1 a2
      refine ⟨?_, ?_⟩
      · rw [a1, Bool.and_true, decide_eq_true_eq, List.length_map]
        omega
      · rw [a2]
        show k (Value.string ⟨⟨_⟩⟩) _
        have : (mkTake (mkDrop y (mkAdd (mkMul px (.i (w : Nat))) (.i (c : Nat)))) n).S e = ((y.S e).drop ((px.I e).toNat * w + c)).take (n.I e).toNat := by
          rw [mkTake_S, mkDrop_S, lin_I e px w c h0, Int.toNat_natCast]
        rw [← this]
        exact hk
    · rename_i l hb
      split at h
      case h_2 => cases h
      rename_i p q
      split at h
      case h_2 => cases h
      rename_i z hz
      cases hle : Nat.ble (p.toNat * w + c + q.toNat) l.length with
      | false => rw [hle] at h; cases h
      | true =>
        rw [hle] at h
        cases h
        obtain ⟨h1, h2⟩ := unitsX_ok (e := e) hz
        rw [List.map_take, List.map_drop] at h1 h2
        have hc : (b.den e).cells = l.map (SS.den e) := by simp [SBlk.den, hb, SC.den]
        rw [hc]
        refine ⟨?_, ?_⟩
        · show (decide (p.toNat * w + c + q.toNat ≤ _) && ((((l.map (SS.den e)).drop (p.toNat * w + c)).take q.toNat).all isByte)) = true
          rw [h1, Bool.and_true, decide_eq_true_eq, List.length_map]
          exact Nat.le_of_ble_eq_true hle
        · show k (S ((((l.map (SS.den e)).drop (p.toNat * w + c)).take q.toNat).map AE.byteOf)) _
          rw [h2]; exact hk
    · cases h
  · split at h
    case h_2 => cases h
    rename_i el hs hd
    split at h
    case h_2 => cases h
    rename_i hel
    cases h
    unfold evConv
    simp only [SV.den, SA.den, SS.den, S0.den, hs, hd, hel]
    exact hk
  · split at h
    case h_2 => cases h
    rename_i n _ _ k' hs hd
    cases h
    unfold evConv
    simp only [SV.den, SA.den, SS.den, S0.den, evOpt, aConv, hs, hd]
    simp only [SV.den, SA.den, SS.den, S0.den, mkWrap_I hg] at hk
    exact hk
  · split at h
    case h_2 => cases h
    rename_i y _ hs hd
    cases h
    unfold evConv
    simp only [SV.den, SA.den, SS.den, S0.den, evOpt, aConv, hs, hd]
    exact hk
  · cases h
def bndX : Option SV → X → Option X
  | none, d => some d
  | some (.a (.s (.z (.i _ n)))), _ => some n
  | _, _ => none
theorem bndX_ok {e : En} {o : Option SV} {d r : X} (h : bndX o d = some r) {dv : Int} (hd : d.I e = dv) : boundA (o.map (SV.den e)) dv = some (r.I e) := by
  unfold bndX at h
  split at h
  · cases h; subst hd; rfl
  · cases h; rfl
  · cases h
def sSliceNeeds (g : Gm) (l h cap : X) : List X := [mkGe0 g l, mkNot (mkLt g h l), mkNot (mkLt g cap h)]
theorem sSliceNeeds_ok {g : Gm} {e : En} (hg : g.ok e) {l h cap : X} (hn : allB e (sSliceNeeds g l h cap)) : 0 ≤ l.I e ∧ l.I e ≤ h.I e ∧ h.I e ≤ cap.I e := by
  simp only [sSliceNeeds, allB_cons, mkNot_B, mkLt_B hg, Bool.not_eq_true', decide_eq_false_iff_not] at hn
  exact ⟨mkGe0_ok hg hn.1, Int.not_lt.1 hn.2.1, Int.not_lt.1 hn.2.2.1⟩
def cutX (s l h : X) (whole : Bool) : X := bif whole then mkDrop s l else mkTake (mkDrop s l) (mkSub h l)
def sSlice (g : Gm) (T : Tab P) (t : TypeId) (x : SV) (lo hi : Option SV) (m : SMem) : Option (List X × SV) :=
  match T.und t, x with
  | some .string, .a (.s (.z (.s s))) =>
    match bndX lo (.i 0), bndX hi (mkLen s) with
    | some l, some h => some (sSliceNeeds g l h (mkLen s), .z (.s (cutX s l h hi.isNone)))
    | _, _ => none
  | some (.slice el), .a (.s (.z (.sl j px w c len cap))) =>
    match T.inf el, bndX lo (.i 0), bndX hi len, m[j]? with
    | some te, some l, some h, some (some _) =>
      match sElem g j px w c l te.size with
      | some (ns, .a (.s (.z (.p _ px' w' c')))) => some (mkGe0 g len :: (sSliceNeeds g l h cap ++ ns), .z (.sl j px' w' c' (mkSub h l) (mkSub cap l)))
      | _ => none
    | _, _, _, _ => none
  | some (.slice el), .a (.s (.z .sl0)) =>
    match T.inf el, bndX lo (.i 0), bndX hi (.i 0) with
    | some _, some l, some h => some ([mkEq g l (.i 0), mkEq g h (.i 0)], .z .sl0)
    | _, _, _ => none
  | some (.array n el), .a (.s (.z (.p j px w c))) =>
    match T.inf el, bndX lo (.i 0), bndX hi (.i (n : Nat)), m[j]? with
    | some te, some l, some h, some (some b) =>
      match sElem g j px w c l te.size with
      | some (ns, .a (.s (.z (.p _ px' w' c')))) => bif b.ex then some (mkLt g l (.i (n : Nat)) :: (sSliceNeeds g l h (.i (n : Nat)) ++ ns), .z (.sl j px' w' c' (mkSub h l) (mkSub (.i (n : Nat)) l))) else none
      | _ => none
    | _, _, _, _ => none
  | _, _ => none
theorem sElem_j {g : Gm} {j : Nat} {x : X} {w c : Nat} {n : X} {size : Nat} {ns : List X} {v : SV} (h : sElem g j x w c n size = some (ns, v)) {j' : Nat} {x' : X} {w' c' : Nat} (hv : v = .z (.p j' x' w' c')) : j' = j := by
  unfold sElem at h
  split at h
  · cases h; cases hv; rfl
  · split at h
    · cases h; cases hv; rfl
    · cases hw : Nat.beq w size with
      | false => rw [hw] at h; cases h
      | true => rw [hw] at h; cases h; cases hv; rfl
theorem sSlice_ok {n₀ : Nat} {g : Gm} {e : En} (hg : g.ok e) {T : Tab P} {t : TypeId} {x v : SV} {lo hi : Option SV} {m : SMem} {ns : List X} (h : sSlice g T t x lo hi m = some (ns, v)) (hn : allB e ns) {k : Value → Prop} (hk : k (v.den e)) :
    evSlice (propA P n₀).toOps T t (x.den e) (lo.map (SV.den e)) (hi.map (SV.den e)) (denM e m) k := by
  unfold sSlice at h
  split at h
  · rename_i s hd
    split at h
    case h_2 => cases h
    rename_i l hb h1 h2
    cases h
    obtain ⟨c1, c2, c3⟩ := sSliceNeeds_ok hg hn
    rw [mkLen_I] at c3
    unfold evSlice
    simp only [SV.den, SA.den, SS.den, S0.den, hd, sliceStrA]
    rw [bndX_ok (dv := 0) h1 rfl, bndX_ok (dv := ((bl ⟨⟨s.S e⟩⟩).length : Nat)) h2 (mkLen_I e s)]
    refine foldr_nd' ?_ ?_
    · intro c hc
      simp only [List.mem_cons, List.not_mem_nil, or_false] at hc
      rcases hc with rfl | rfl
      · rw [decide_eq_true_eq]; exact ⟨by omega, c3⟩
      · rw [decide_eq_true_eq]; exact ⟨c1, c2⟩
    · show k (sliceStr ⟨⟨s.S e⟩⟩ (l.I e) (hb.I e))
      have : (cutX s l hb hi.isNone).S e = ((s.S e).drop (l.I e).toNat).take ((hb.I e).toNat - (l.I e).toNat) := by
        unfold cutX
        cases hi with
        | none =>
          have h2 : hb = mkLen s := by simp only [bndX, Option.some.injEq] at h2; exact h2.symm
          subst h2
          show (mkDrop s l).S e = _
          rw [mkDrop_S, mkLen_I, Int.toNat_natCast, List.take_of_length_le (by simp)]
        | some hi =>
          show (mkTake (mkDrop s l) (mkSub hb l)).S e = _
          rw [mkTake_S, mkDrop_S, mkSub_I]
          congr 1
          omega
      have hk : k (.string ⟨⟨(cutX s l hb hi.isNone).S e⟩⟩) := hk
      rw [this] at hk
      exact hk
  · rename_i el j px w c len cap hd
    split at h
    case h_2 => cases h
    rename_i te l hb b hte h1 h2 hj
    split at h
    case h_2 => cases h
    rename_i ns' j' px' w' c' hel
    cases h
    simp only [allB_cons, allB_app] at hn
    have c0 := mkGe0_ok hg hn.1
    obtain ⟨c1, c2, c3⟩ := sSliceNeeds_ok hg hn.2.1
    have hj' := sElem_j hel rfl
    subst hj'
    have hE := sElem_ok hg hel hn.2.2
    unfold evSlice
    simp only [SV.den, SA.den, SS.den, S0.den, hd, hte, denM_get hj]
    rw [bndX_ok (dv := 0) h1 rfl, bndX_ok (dv := ((len.I e).toNat : Nat)) h2 (by omega)]
    refine ⟨?_, ?_⟩
    · rw [decide_eq_true_eq]; omega
    · have hk : k (.slice (some ⟨j', (px'.I e).toNat * w' + c', none⟩) ((mkSub hb l).I e).toNat ((mkSub cap l).I e).toNat) := hk
      have hE : Value.pointer (some ⟨j', (px'.I e).toNat * w' + c', none⟩) = Value.pointer (some ⟨j', (px.I e).toNat * w + c + (l.I e).toNat * te.size, none⟩) := hE
      simp only [Value.pointer.injEq, Option.some.injEq, Addr.mk.injEq, true_and, and_true] at hE
      rw [hE, mkSub_I, mkSub_I] at hk
      rw [show (hb.I e - l.I e).toNat = (hb.I e).toNat - (l.I e).toNat from by omega, show (cap.I e - l.I e).toNat = (cap.I e).toNat - (l.I e).toNat from by omega] at hk
      exact hk
  · rename_i el hd
    split at h
    case h_2 => cases h
    rename_i te l hb hte h1 h2
    cases h
    simp only [allB_cons, mkEq_B hg, decide_eq_true_eq] at hn
    unfold evSlice
    simp only [SV.den, SA.den, SS.den, S0.den, hd, hte]
    rw [bndX_ok (dv := 0) h1 rfl, bndX_ok (dv := 0) h2 rfl]
    exact ⟨by rw [decide_eq_true_eq]; exact ⟨hn.1, hn.2.1⟩, hk⟩
  · rename_i n el j px w c hd
    split at h
    case h_2 => cases h
    rename_i te l hb b hte h1 h2 hj
    split at h
    case h_2 => cases h
    rename_i ns' j' px' w' c' hel
    cases hex : b.ex with
    | false => rw [hex] at h; cases h
    | true =>
    rw [hex] at h
    cases h
    simp only [allB_cons, allB_app] at hn
    have c0 := hn.1
    rw [mkLt_B hg, decide_eq_true_eq] at c0
    have c0 : l.I e < (n : Int) := c0
    obtain ⟨c1, c2, c3⟩ := sSliceNeeds_ok hg hn.2.1
    have c3 : hb.I e ≤ (n : Int) := c3
    have hj' := sElem_j hel rfl
    subst hj'
    have hE := sElem_ok hg hel hn.2.2
    unfold evSlice
    simp only [SV.den, SA.den, SS.den, S0.den, hd, hte, denM_get hj]
    rw [bndX_ok (dv := 0) h1 rfl, bndX_ok (dv := (n : Nat)) h2 rfl]
    refine ⟨?_, ?_⟩
    · show (b.ex && _) = true
      rw [hex, Bool.true_and, decide_eq_true_eq]; omega
    · have hk : k (.slice (some ⟨j', (px'.I e).toNat * w' + c', none⟩) ((mkSub hb l).I e).toNat ((mkSub (.i (n : Nat)) l).I e).toNat) := hk
      have hE : Value.pointer (some ⟨j', (px'.I e).toNat * w' + c', none⟩) = Value.pointer (some ⟨j', (px.I e).toNat * w + c + (l.I e).toNat * te.size, none⟩) := hE
      simp only [Value.pointer.injEq, Option.some.injEq, Addr.mk.injEq, true_and, and_true] at hE
      rw [hE, mkSub_I, mkSub_I] at hk
      have hk : k (.slice (some ⟨j', (px.I e).toNat * w + c + (l.I e).toNat * te.size, none⟩) (hb.I e - l.I e).toNat ((n : Int) - l.I e).toNat) := hk
      rw [show (hb.I e - l.I e).toNat = (hb.I e).toNat - (l.I e).toNat from by omega, show ((n : Int) - l.I e).toNat = n - (l.I e).toNat from by omega] at hk
      exact hk
  · cases h
end Go.SX
end
noncomputable section
namespace Go.SX
set_option linter.unusedSectionVars false
open Go Go.AE
set_option linter.constructorNameAsVariable false
set_option linter.unusedSimpArgs false
set_option linter.unusedVariables false
variable {P : Program} [Fam]
def unitsR (g : Gm) : List SS → Option X
  | [] => some (.s [])
  | v :: l => match cellX g (.i .u8) v, unitsR g l with
    | some x, some y => some (mkCat (mkUnit x) y)
    | _, _ => none
theorem cellX_u8 {g : Gm} {e : En} (hg : g.ok e) {v : SS} {x : X} (h : cellX g (.i .u8) v = some x) : v.den e = .int .u8 (x.I e) ∧ 0 ≤ x.I e ∧ x.I e ≤ 255 := by
  have hd := cellX_ok hg h
  cases v with
  | z y => cases y with
    | i k' y =>
      have h : (bif eqK .u8 k' && within (rng g.fs y) (kMin .u8) (kMax .u8) then some y else none) = some x := h
      cases hk : eqK .u8 k' && within (rng g.fs y) (kMin .u8) (kMax .u8) with
      | false => rw [hk] at h; cases h
      | true =>
        rw [hk] at h
        cases h
        rw [Bool.and_eq_true] at hk
        have := eqK_eq hk.1
        subst this
        obtain ⟨h1, h2⟩ := within_ok hk.2 (rng_ok hg.fs _)
        exact ⟨rfl, h1, h2⟩
    | _ => cases h
  | _ => cases h
theorem unitsR_ok {g : Gm} {e : En} (hg : g.ok e) : ∀ {l : List SS} {x : X}, unitsR g l = some x → (x.S e).map Byt = l.map (SS.den e)
  | [], _, h => by cases h; rfl
  | v :: l, x, h => by
    unfold unitsR at h
    split at h
    case h_2 => cases h
    rename_i a y h1 h2
    cases h
    obtain ⟨h3, h4, h5⟩ := cellX_u8 hg h1
    rw [mkCat_S, mkUnit_S, List.map_append, unitsR_ok hg h2]
    show Byt (UInt8.ofNat (a.I e).toNat) :: l.map (SS.den e) = v.den e :: l.map (SS.den e)
    rw [h3]
    congr 1
    show Value.int .u8 _ = _
    congr 1
    have : (a.I e).toNat < 256 := by omega
    rw [UInt8.toNat_ofNat_of_lt' this]
    omega
def rowsX (g : Gm) (ks : List CK) : Nat → List SS → Option X
  | 0, l => match l with | [] => some (.o .rtake .nil (.i 0)) | _ => none
  | n + 1, l => match l with
    | [] => some (.o .rtake .nil (.i 0))
    | l => match cellsX g ks (l.take ks.length) with
      | some xs => match l.drop ks.length with
        | [] => some (.u .row (mkRow xs))
        | l' => match rowsX g ks n l' with
          | some y => some (.o .rcat (.u .row (mkRow xs)) y)
          | none => none
      | none => none
theorem rowsX_ok {g : Gm} {e : En} (hg : g.ok e) {ks : List CK} : ∀ (n : Nat) (l : List SS) (x : X), rowsX g ks n l = some x → (x.R e).flatMap (rowV ks) = l.map (SS.den e)
  | 0, l, x, h => by
    unfold rowsX at h
    split at h
    · cases h; rfl
    · cases h
  | n + 1, l, x, h => by
    unfold rowsX at h
    split at h
    · cases h; rfl
    · split at h
      case h_2 => cases h
      rename_i xs hxs
      have h1 := cellsX_ok hg hxs
      have one : ((X.u .row (mkRow xs)).R e).flatMap (rowV ks) = (l.take ks.length).map (SS.den e) := by
        show ([((mkRow xs).den e).row]).flatMap (rowV ks) = _
        rw [List.flatMap_cons, List.flatMap_nil, List.append_nil, mkRow_den, h1]
      split at h
      · rename_i hd
        cases h
        rw [one]
        conv => rhs; rw [← List.take_append_drop ks.length l, hd]
        simp
      · split at h
        case h_2 => cases h
        rename_i y hy
        cases h
        show ((X.u .row (mkRow xs)).R e ++ y.R e).flatMap (rowV ks) = _
        rw [List.flatMap_append, one, rowsX_ok hg n _ _ hy, ← List.map_append, List.take_append_drop]
def kindsOf (T : Tab P) : Nat → TypeId → Option (List CK)
  | 0, _ => none
  | n + 1, t => match T.und t with
    | some (.int k) => some [.i k]
    | some .bool => some [.b]
    | some .string => some [.s]
    | some (.struct fs) => fs.toList.foldr (fun f acc => match kindsOf T n f.type, acc with | some a, some c => some (a ++ c) | _, _ => none) (some [])
    | some (.array len el) => match kindsOf T n el with | some a => some ((List.replicate len a).flatten) | none => none
    | _ => none
def norm (g : Gm) (T : Tab P) (el : TypeId) (c : SC) : SC := match c with
  | .cs l => match T.und el with
    | some (.int .u8) => (match unitsR g l with | some x => .by x | none => .cs l)
    | _ => match kindsOf T 5 el with
      | some ks => bif Nat.beq ks.length 0 then .cs l else (match rowsX g ks l.length l with | some x => .rw ks x | none => .cs l)
      | none => .cs l
  | c => c
theorem norm_den {g : Gm} {e : En} (hg : g.ok e) (T : Tab P) (el : TypeId) (c : SC) : (norm g T el c).den e = c.den e := by
  unfold norm
  split
  · rename_i l
    split
    · split
      · rename_i x hx; exact unitsR_ok hg hx
      · rfl
    · split
      · rename_i ks _
        cases Nat.beq ks.length 0 with
        | true => rfl
        | false =>
          simp only [cond_false]
          split
          · rename_i x hx; exact rowsX_ok hg _ _ _ hx
          · rfl
      · rfl
  · rfl
theorem norm_obj (g : Gm) (e : En) (T : Tab P) (el : TypeId) (c : SC) : (norm g T el c).obj e = c.obj e := by
  unfold norm
  split
  · split
    · split <;> rfl
    · split
      · rename_i ks _
        cases Nat.beq ks.length 0 with
        | true => rfl
        | false =>
          simp only [cond_false]
          split <;> rfl
      · rfl
  · rfl
def mkRtake0 (x n : X) : X := bif eqX n (.u .rlen x) then x else .o .rtake x n
def mkRtake (x n : X) : X := match x with
  | .o .rtake .nil k => .o .rtake .nil k
  | x => mkRtake0 x n
theorem mkRtake_R (e : En) (x n : X) : (mkRtake x n).R e = (x.R e).take (n.I e).toNat := by
  unfold mkRtake
  split
  · rename_i k
    show (([] : List (List A)).take _) = (([] : List (List A)).take _).take _
    simp
  unfold mkRtake0
  cases h : eqX n (.u .rlen x) with
  | true =>
    rw [eqX_eq h]
    show x.R e = (x.R e).take ((x.R e).length : Int).toNat
    simp
  | false => rfl
def mkRdrop (x n : X) : X := match n with
  | .i k => bif eqI k 0 then x else .o .rdrop x (.i k)
  | n => .o .rdrop x n
theorem mkRdrop_R (e : En) (x n : X) : (mkRdrop x n).R e = (x.R e).drop (n.I e).toNat := by
  unfold mkRdrop
  split
  · rename_i k
    cases h : eqI k 0 with
    | true => rw [eqI_eq h]; show x.R e = (x.R e).drop 0; simp
    | false => rfl
  · rfl
def catR (x y : X) : X := match x with
  | .o .rtake .nil _ => y
  | x => .o .rcat x y
theorem catR_R (e : En) (x y : X) : (catR x y).R e = x.R e ++ y.R e := by
  unfold catR
  split
  · rename_i n
    show y.R e = (([] : List (List A)).take _) ++ y.R e
    simp
  · rfl
def catC (g : Gm) (T : Tab P) (el : TypeId) (size : Nat) (c : SC) (len : X) (d : SC) : Option SC :=
  match norm g T el c, norm g T el d with
  | .by y, .by z => bif Nat.beq size 1 then some (.by (mkCat (mkTake y len) z)) else none
  | .rw ks y, .rw ks' z => bif Nat.beq size ks.length && eqCK ks ks' then some (.rw ks (catR (mkRtake y len) z)) else none
  | .cs l, .cs l' => match len with
    | .i n => some (.cs (l.take (n.toNat * size) ++ l'))
    | _ => none
  | _, _ => none
where
  eqCK : List CK → List CK → Bool
    | [], [] => true
    | .i k :: l, .i k' :: l' => eqK k k' && eqCK l l'
    | .b :: l, .b :: l' => eqCK l l'
    | .s :: l, .s :: l' => eqCK l l'
    | _, _ => false
theorem eqCK_eq : ∀ {l l' : List CK}, catC.eqCK l l' = true → l = l'
  | [], [], _ => rfl
  | .i k :: l, .i k' :: l', h => by
    simp only [catC.eqCK, Bool.and_eq_true] at h
    rw [eqK_eq h.1, eqCK_eq h.2]
  | .b :: l, .b :: l', h => by rw [eqCK_eq (l := l) (l' := l') h]
  | .s :: l, .s :: l', h => by rw [eqCK_eq (l := l) (l' := l') h]
  | [], _ :: _, h => by cases h
  | _ :: _, [], h => by rename_i a _; cases a <;> cases h
  | .i _ :: _, .b :: _, h => by cases h
  | .i _ :: _, .s :: _, h => by cases h
  | .b :: _, .i _ :: _, h => by cases h
  | .b :: _, .s :: _, h => by cases h
  | .s :: _, .i _ :: _, h => by cases h
  | .s :: _, .b :: _, h => by cases h
theorem rows_take (ks : List CK) (L : List (List A)) (i : Nat) : (L.flatMap (rowV ks)).take (i * ks.length) = (L.take i).flatMap (rowV ks) := by
  induction i generalizing L with
  | zero => simp
  | succ i ih =>
    cases L with
    | nil => simp
    | cons r L =>
      rw [List.flatMap_cons, List.take_succ_cons, List.flatMap_cons, ← ih, show (i + 1) * ks.length = (rowV ks r).length + i * ks.length from by rw [rowV_len, Nat.add_mul]; omega, List.take_append, List.take_of_length_le (by omega)]
      congr 2; omega
theorem catC_den {g : Gm} {e : En} (hg : g.ok e) {T : Tab P} {el : TypeId} {size : Nat} {c d r : SC} {len : X} (h : catC g T el size c len d = some r) : r.den e = (c.den e).take ((len.I e).toNat * size) ++ d.den e := by
  unfold catC at h
  rw [← norm_den hg T el c, ← norm_den hg T el d]
  split at h
  · rename_i y z h1 h2
    cases hs : Nat.beq size 1 with
    | false => rw [hs] at h; cases h
    | true =>
      rw [hs] at h
      cases h
      rw [h1, h2, Nat.eq_of_beq_eq_true hs]
      simp only [SC.den, mkCat_S, mkTake_S, List.map_append, List.map_take, Nat.mul_one]
  · rename_i ks y ks' z h1 h2
    cases hs : Nat.beq size ks.length && catC.eqCK ks ks' with
    | false => rw [hs] at h; cases h
    | true =>
      rw [hs] at h
      cases h
      rw [Bool.and_eq_true] at hs
      have := eqCK_eq hs.2
      subst this
      rw [h1, h2, Nat.eq_of_beq_eq_true hs.1]
      show ((catR (mkRtake y len) z).R e).flatMap (rowV ks) = ((y.R e).flatMap (rowV ks)).take _ ++ (z.R e).flatMap (rowV ks)
      rw [catR_R, List.flatMap_append, mkRtake_R, rows_take]
  · rename_i l l' h1 h2
    split at h
    case h_2 => cases h
    cases h
    rw [h1, h2]
    simp only [SC.den, List.map_append, List.map_take]
    rfl
  · cases h
theorem catC_obj {g : Gm} (e : En) {T : Tab P} {el : TypeId} {size : Nat} {c d r : SC} {len : X} (h : catC g T el size c len d = some r) : r.obj e = none := by
  unfold catC at h
  split at h
  · cases hs : Nat.beq size 1 with
    | false => rw [hs] at h; cases h
    | true => rw [hs] at h; cases h; rfl
  · rename_i ks y ks' z h1 h2
    cases hs : Nat.beq size ks.length && catC.eqCK ks ks' with
    | false => rw [hs] at h; cases h
    | true => rw [hs] at h; cases h; rfl
  · split at h
    case h_2 => cases h
    cases h
    rfl
  · cases h
def catD (g : Gm) (T : Tab P) (el : TypeId) (size : Nat) (c : SC) (len : X) (d : SC) : Option SC := match c, d, len with
  | .cs l, .cs l', .i n => some (.cs (l.take (n.toNat * size) ++ l'))
  | c, d, len => catC g T el size c len d
theorem catD_den {g : Gm} {e : En} (hg : g.ok e) {T : Tab P} {el : TypeId} {size : Nat} {c d r : SC} {len : X} (h : catD g T el size c len d = some r) : r.den e = (c.den e).take ((len.I e).toNat * size) ++ d.den e := by
  unfold catD at h
  split at h
  · cases h
    simp only [SC.den, List.map_append, List.map_take]
    rfl
  · exact catC_den hg h
theorem catD_obj {g : Gm} (e : En) {T : Tab P} {el : TypeId} {size : Nat} {c d r : SC} {len : X} (h : catD g T el size c len d = some r) : r.obj e = none := by
  unfold catD at h
  split at h
  · cases h; rfl
  · exact catC_obj e h
def sSrc (g : Gm) (m : SMem) (size : Nat) (x : SV) : Option (X × List X × SC) := match x with
  | .a (.s (.z .sl0)) => some (.i 0, [], .cs [])
  | .a (.s (.z (.sl j px w c n _))) =>
    match m[j]? with
    | some (some b) =>
      match b.c with
      | .cs l => match px, n with
        | .i p, .i k => bif Nat.ble (p.toNat * w + c + k.toNat * size) l.length && decide (0 ≤ k) then some (.i k, [], .cs ((l.drop (p.toNat * w + c)).take (k.toNat * size))) else none
        | _, _ => none
      | .by y => bif Nat.beq size 1 then
          let off := mkAdd (mkMul px (.i (w : Nat))) (.i (c : Nat))
          some (n, [mkGe0 g px, mkGe0 g n, mkNot (mkLt g (mkLen y) (mkAdd off n))], .by (mkTake (mkDrop y off) n)) else none
      | .rw ks y => bif Nat.beq size ks.length && (Nat.beq c 0 && (Nat.beq w size || eqX px (.i 0))) then
          some (n, [mkGe0 g px, mkGe0 g n, mkNot (mkLt g (.u .rlen y) (mkAdd px n))], .rw ks (mkRtake (mkRdrop y px) n)) else none
      | .ob _ _ => none
    | _ => none
  | .a (.s (.z (.s y))) => bif Nat.beq size 1 then some (mkLen y, [], .by y) else none
  | _ => none
theorem sSrc_ok {g : Gm} {e : En} (hg : g.ok e) {m : SMem} {size : Nat} {x : SV} {n : X} {ns : List X} {c : SC} (h : sSrc g m size x = some (n, ns, c)) (hn : allB e ns) :
    0 ≤ n.I e ∧ ∃ cnd, srcA (denM e m) size (x.den e) = some ((n.I e).toNat, cnd, c.den e) ∧ cnd = true := by
  unfold sSrc at h
  split at h
  · cases h; exact ⟨Int.le_refl _, _, rfl, rfl⟩
  · rename_i j px w c0 n0 cap
    split at h
    case h_2 => cases h
    rename_i b hj
    simp only [srcA, SV.den, SA.den, SS.den, S0.den, denM_get hj]
    split at h
    · rename_i l hb
      split at h
      case h_2 => cases h
      rename_i p k
      cases hc : Nat.ble (p.toNat * w + c0 + k.toNat * size) l.length && decide (0 ≤ k) with
      | false => rw [hc] at h; cases h
      | true =>
        rw [hc] at h
        cases h
        rw [Bool.and_eq_true] at hc
        refine ⟨of_decide_eq_true hc.2, decide (((X.i p).I e).toNat * w + c0 + ((X.i k).I e).toNat * size ≤ (b.den e).cells.length), ?_, ?_⟩
        · simp only [SBlk.den, hb, SC.den, List.map_take, List.map_drop]
          rfl
        · rw [decide_eq_true_eq]
          simp only [SBlk.den, hb, SC.den, List.length_map]
          exact Nat.le_of_ble_eq_true hc.1
    · rename_i y hb
      cases hs : Nat.beq size 1 with
      | false => rw [hs] at h; cases h
      | true =>
        rw [hs] at h
        cases h
        simp only [allB_cons] at hn
        have h0 := mkGe0_ok hg hn.1
        have h1 := mkGe0_ok hg hn.2.1
        have h2 := hn.2.2.1
        rw [mkNot_B, mkLt_B hg, Bool.not_eq_true', decide_eq_false_iff_not, mkLen_I, mkAdd_I, lin_I e px w c0 h0] at h2
        have hs' := Nat.eq_of_beq_eq_true hs
        subst hs'
        have hc : (b.den e).cells = (y.S e).map Byt := by simp [SBlk.den, hb, SC.den]
        refine ⟨h1, decide ((px.I e).toNat * w + c0 + (n.I e).toNat * 1 ≤ (b.den e).cells.length), ?_, ?_⟩
        · rw [hc]
          simp only [SC.den, mkTake_S, mkDrop_S, lin_I e px w c0 h0, Int.toNat_natCast, List.map_take, List.map_drop, Nat.mul_one]
        · rw [decide_eq_true_eq, hc, List.length_map]; omega
    · rename_i ks y hb
      cases hs : Nat.beq size ks.length && (Nat.beq c0 0 && (Nat.beq w size || eqX px (.i 0))) with
      | false => rw [hs] at h; cases h
      | true =>
        rw [hs] at h
        cases h
        simp only [Bool.and_eq_true, Bool.or_eq_true] at hs
        have s1 := Nat.eq_of_beq_eq_true hs.1
        have s2 := Nat.eq_of_beq_eq_true hs.2.1
        have s3 : (px.I e).toNat * w = (px.I e).toNat * size := by
          rcases hs.2.2 with h | h
          · rw [Nat.eq_of_beq_eq_true h]
          · rw [eqX_eq h]; show (0 : Int).toNat * w = (0 : Int).toNat * size; simp
        subst s2
        simp only [allB_cons] at hn
        have h0 := mkGe0_ok hg hn.1
        have h1 := mkGe0_ok hg hn.2.1
        have h2 := hn.2.2.1
        rw [mkNot_B, mkLt_B hg, Bool.not_eq_true', decide_eq_false_iff_not, mkAdd_I] at h2
        have h2 : ¬ ((y.R e).length : Int) < px.I e + n.I e := h2
        have hc : (b.den e).cells = (y.R e).flatMap (rowV ks) := by simp [SBlk.den, hb, SC.den]
        refine ⟨h1, decide ((px.I e).toNat * w + 0 + (n.I e).toNat * size ≤ (b.den e).cells.length), ?_, ?_⟩
        · rw [hc, s3, s1, Nat.add_zero, rows_drop, rows_take]
          simp only [SC.den, mkRtake_R, mkRdrop_R]
        · rw [decide_eq_true_eq, hc, rows_len, s3, s1, Nat.add_zero, ← Nat.add_mul]
          exact Nat.mul_le_mul_right _ (by omega)
    · cases h
  · rename_i y
    cases hs : Nat.beq size 1 with
    | false => rw [hs] at h; cases h
    | true =>
      rw [hs] at h
      cases h
      rw [mkLen_I, Nat.eq_of_beq_eq_true hs]
      refine ⟨Int.natCast_nonneg _, true, ?_, rfl⟩
      simp only [srcA, SV.den, SA.den, SS.den, S0.den, bl, SC.den, Int.toNat_natCast]
      rfl
  · cases h
theorem sSrc_obj {g : Gm} (e : En) {m : SMem} {size : Nat} {x : SV} {n : X} {ns : List X} {c : SC} (h : sSrc g m size x = some (n, ns, c)) : c.obj e = none := by
  unfold sSrc at h
  split at h
  · cases h; rfl
  · split at h
    case h_2 => cases h
    split at h
    · split at h
      case h_2 => cases h
      rename_i p k
      generalize hc : (Nat.ble _ _ && decide (0 ≤ k)) = q at h
      cases q with
      | false => cases h
      | true => cases h; rfl
    · generalize hc : Nat.beq size 1 = q at h
      cases q with
      | false => cases h
      | true => cases h; rfl
    · generalize hc : (Nat.beq size _ && _) = q at h
      cases q with
      | false => cases h
      | true => cases h; rfl
    · cases h
  · generalize hc : Nat.beq size 1 = q at h
    cases q with
    | false => cases h
    | true => cases h; rfl
  · cases h
def appNeeds (g : Gm) (n : X) (bytes : Nat) : List X := [mkNot (mkLt g (.i 140737488355328) (mkMul n (.i (bytes : Nat)))), mkNot (mkLt g (.i 9223372036854775807) n)]
theorem appNeeds_ok {g : Gm} {e : En} (hg : g.ok e) {n : X} {bytes : Nat} (h : allB e (appNeeds g n bytes)) (h0 : 0 ≤ n.I e) : (n.I e).toNat * bytes ≤ 140737488355328 ∧ (n.I e).toNat ≤ 9223372036854775807 := by
  simp only [appNeeds, allB_cons, mkNot_B, mkLt_B hg, Bool.not_eq_true', decide_eq_false_iff_not, mkMul_I] at h
  obtain ⟨h1, h2, _⟩ := h
  have h1 : ¬ (140737488355328 : Int) < n.I e * (bytes : Int) := h1
  have h2 : ¬ (9223372036854775807 : Int) < n.I e := h2
  obtain ⟨k, hk⟩ := Int.eq_ofNat_of_zero_le h0
  rw [hk] at h1 h2 ⊢
  refine ⟨?_, ?_⟩
  · rw [Int.toNat_natCast]
    have : ((k * bytes : Nat) : Int) ≤ 140737488355328 := by rw [Int.natCast_mul]; omega
    omega
  · rw [Int.toNat_natCast]; omega
def sAppend (g : Gm) (T : Tab P) (ts tx : TypeId) (s x : SV) (m : SMem) : Option (List X × SV × SMem) :=
  match T.und ts, T.und tx with
  | some (.slice el), some dx =>
    match T.inf el with
    | some te =>
      match te.zero with
      | some z =>
        bif !isSrcD dx || !Nat.beq z.cells.toList.length te.size then none else
        match sSrc g m te.size x with
        | some (n, ns, src) =>
          match s with
          | .a (.s (.z .sl0)) => some (ns ++ appNeeds g n te.bytes, .z (.sl m.length (.i 0) 0 0 n n), m ++ [some ⟨src, el, true, false⟩])
          | .a (.s (.z (.sl j (.i p) w c len cap))) =>
            match m[j]? with
            | some (some b) =>
              bif b.w && (Nat.beq b.elem el && Nat.beq (p.toNat * w + c) 0) then
                match catD g T el te.size b.c len src with
                | some c' => some (ns ++ (mkGe0 g len :: mkEq g b.c.len (mkMul cap (.i (te.size : Nat))) :: mkNot (mkLt g cap len) :: appNeeds g (mkAdd len n) te.bytes), .z (.sl m.length (.i 0) 0 0 (mkAdd len n) (mkAdd len n)), m.set j none ++ [some ⟨c', el, true, false⟩])
                | none => none
              else none
            | _ => none
          | _ => none
        | none => none
      | none => none
    | none => none
  | _, _ => none
theorem sAppend_ok {n₀ : Nat} {g : Gm} {e : En} (hg : g.ok e) {T : Tab P} {ts tx : TypeId} {s x v : SV} {m m' : SMem} {ns : List X} (h : sAppend g T ts tx s x m = some (ns, v, m')) (hn : allB e ns) {k : Value → Mem → Prop} (hk : k (v.den e) (denM e m')) :
    evAppend (propA P n₀).toOps T ts tx (s.den e) (x.den e) (denM e m) k := by
  unfold sAppend at h
  split at h
  case h_2 => cases h
  rename_i el dx hts htx
  split at h
  case h_2 => cases h
  rename_i te hte
  split at h
  case h_2 => cases h
  rename_i z hz
  cases hc : !isSrcD dx || !Nat.beq z.cells.toList.length te.size with
  | true => rw [hc] at h; cases h
  | false =>
    rw [hc] at h
    simp only [cond_false] at h
    simp only [Bool.or_eq_false_iff, Bool.not_eq_false'] at hc
    split at h
    case h_2 => cases h
    rename_i n ns0 src hsrc
    unfold evAppend
    simp only [hts, htx, hte, hz]
    rw [if_neg (by rw [hc.1]; simp), if_neg (by rw [Nat.eq_of_beq_eq_true hc.2]; simp)]
    split at h
    · cases h
      rw [allB_app] at hn
      obtain ⟨h0, cnd, h1, rfl⟩ := sSrc_ok hg hsrc hn.1
      rw [h1]
      obtain ⟨b1, b2⟩ := appNeeds_ok hg hn.2 h0
      refine ⟨rfl, ?_⟩
      refine ⟨by rw [decide_eq_true_eq]; exact ⟨b1, b2⟩, ?_⟩
      rw [denM_app] at hk
      have e1 : denM e [some (⟨src, el, true, false⟩ : SBlk)] = [grownBlk el (src.den e)] := by
        show [some (ABlk.mk (src.den e) el true false (src.obj e))] = _
        rw [sSrc_obj e hsrc]; rfl
      rw [e1] at hk
      rw [denM_len]
      exact hk
    · rename_i j p w c len cap
      split at h
      case h_2 => cases h
      rename_i b hj
      cases hb : b.w && (Nat.beq b.elem el && Nat.beq (p.toNat * w + c) 0) with
      | false => rw [hb] at h; cases h
      | true =>
        rw [hb] at h
        simp only [cond_true] at h
        simp only [Bool.and_eq_true] at hb
        split at h
        case h_2 => cases h
        rename_i c' hcat
        cases h
        simp only [allB_app, allB_cons] at hn
        obtain ⟨hn0, hl0, heq, hle, hbd⟩ := hn
        obtain ⟨h0, cnd, h1, rfl⟩ := sSrc_ok hg hsrc hn0
        have l0 := mkGe0_ok hg hl0
        rw [mkEq_B hg, decide_eq_true_eq, SC.len_I, mkMul_I] at heq
        have heq : ((b.c.den e).length : Int) = cap.I e * (te.size : Int) := heq
        rw [mkNot_B, mkLt_B hg, Bool.not_eq_true', decide_eq_false_iff_not] at hle
        obtain ⟨b1, b2⟩ := appNeeds_ok hg hbd (by rw [mkAdd_I]; omega)
        rw [mkAdd_I] at b1 b2
        have hsum : (len.I e + n.I e).toNat = (len.I e).toNat + (n.I e).toNat := by omega
        rw [hsum] at b1 b2
        have hz0 : ((X.i p).I e).toNat * w + c = 0 := Nat.eq_of_beq_eq_true hb.2.2
        rw [h1]
        refine ⟨rfl, ?_⟩
        show match (denM e m)[j]? with | some (some b) => _ | _ => _
        rw [denM_get hj]
        have hrw : (b.den e).rw = true := hb.1
        have hel : ((b.den e).elem == el && ((X.i p).I e).toNat * w + c == 0) = true := by
          rw [hz0]
          have := Nat.eq_of_beq_eq_true hb.2.1
          simp [SBlk.den, this]
        simp only [hrw, if_true]
        rw [if_pos hel]
        refine ⟨?_, ?_⟩
        · rw [decide_eq_true_eq]
          refine ⟨?_, by omega, b1, b2⟩
          show (b.c.den e).length = _
          obtain ⟨q, hq⟩ := Int.eq_ofNat_of_zero_le (show 0 ≤ cap.I e by omega)
          rw [hq] at heq ⊢
          rw [Int.toNat_natCast]
          have : ((b.c.den e).length : Int) = ((q * te.size : Nat) : Int) := by rw [heq]; simp
          omega
        · rw [denM_app, denM_set] at hk
          have hk : k (.slice (some ⟨m.length, 0, none⟩) ((mkAdd len n).I e).toNat ((mkAdd len n).I e).toNat) ((denM e m).set j none ++ [some (ABlk.mk (c'.den e) el true false (c'.obj e))]) := hk
          rw [mkAdd_I, hsum, catD_den hg hcat, catD_obj e hcat] at hk
          rw [denM_len]
          exact hk
    · cases h
end Go.SX
end
noncomputable section
namespace Go.SX
set_option linter.unusedSectionVars false
open Go Go.AE
set_option linter.constructorNameAsVariable false
set_option linter.unusedSimpArgs false
set_option linter.unusedVariables false
variable {P : Program} [Fam]
theorem map_some' {α β : Type} {o : Option α} {f : α → β} {y : β} (h : o.map f = some y) : ∃ x, o = some x ∧ f x = y := by
  cases o with
  | none => cases h
  | some x => exact ⟨x, rfl, Option.some.inj h⟩
def sBuiltin (g : Gm) (T : Tab P) (b : Builtin) (ts : List TypeId) (xs : List SV) (m : SMem) : Option (List X × SV × SMem) := match b, ts, xs with
  | .len, [t], [x] => (sLen T g t x).map fun r => (r.1, r.2, m)
  | .append, [ts, tx], [s, x] => sAppend g T ts tx s x m
  | .min, _, [.a (.s (.z (.i k p))), .a (.s (.z (.i _ q)))] => some ([], .z (.i k (sMin g p q)), m)
  | .max, _, [.a (.s (.z (.i k p))), .a (.s (.z (.i _ q)))] => some ([], .z (.i k (sMax g p q)), m)
  | _, _, _ => none
def ssZ : SS → Option S0
  | .z x => some x
  | _ => none
def svC0 : SV → Option C0
  | .a (.s (.z x)) => some (.z x)
  | .a (.ag l) => (l.mapM ssZ).map .ag
  | _ => none
theorem svC0_ok {e : En} {v : SV} {x : C0} (h : svC0 v = some x) : v.den e = x.den e ∧ c0Ok (v.den e) = true := by
  unfold svC0 at h
  split at h
  · rename_i y
    cases h
    refine ⟨rfl, ?_⟩
    show c0Ok (y.den e) = true
    cases y <;> rfl
  · rename_i l
    obtain ⟨r, hr, rfl⟩ := map_some' h
    have : ∀ (l : List SS) (r : List S0), l.mapM ssZ = some r → l.map (SS.den e) = r.map (S0.den e) ∧ (l.map (SS.den e)).all s0Ok = true := by
      intro l
      induction l with
      | nil => intro r h; simp at h; subst h; exact ⟨rfl, rfl⟩
      | cons v l ih =>
        intro r h
        rw [List.mapM_cons] at h
        cases v with
        | z y =>
          simp only [ssZ, Option.bind_eq_bind, Option.bind_some] at h
          cases hl : l.mapM ssZ with
          | none => rw [hl] at h; simp at h
          | some ys =>
            rw [hl] at h
            simp at h
            subst h
            obtain ⟨h1, h2⟩ := ih ys hl
            refine ⟨?_, ?_⟩
            · rw [List.map_cons, List.map_cons, h1]; rfl
            · rw [List.map_cons, List.all_cons, h2, Bool.and_true]
              show s0Ok (y.den e) = true
              cases y <;> rfl
        | _ => simp [ssZ] at h
    obtain ⟨h1, h2⟩ := this l r hr
    refine ⟨?_, h2⟩
    show Value.agg ⟨l.map _⟩ = Value.agg ⟨r.map _⟩
    rw [h1]
  · cases h
def svC0s : List SV → Option (List C0)
  | [] => some []
  | v :: l => match svC0 v, svC0s l with
    | some x, some r => some (x :: r)
    | _, _ => none
theorem svC0s_ok {e : En} : ∀ {l : List SV} {r : List C0}, svC0s l = some r → l.map (SV.den e) = r.map (C0.den e) ∧ (l.map (SV.den e)).all c0Ok = true
  | [], _, h => by cases h; exact ⟨rfl, rfl⟩
  | v :: l, r, h => by
    unfold svC0s at h
    split at h
    · rename_i x r' h1 h2
      cases h
      obtain ⟨a1, a2⟩ := svC0_ok (e := e) h1
      obtain ⟨b1, b2⟩ := svC0s_ok (e := e) h2
      exact ⟨by rw [List.map_cons, List.map_cons, a1, b1], by rw [List.map_cons, List.all_cons, a2, b2]; rfl⟩
    · cases h
def sMake (fn : Fn) (first captured : List SV) : Option SV := match fn with
  | .func f => match svC0s first, svC0s captured with
    | some a, some c => some (.a (.s (.fn (.func f) a c)))
    | _, _ => none
  | _ => none
def sOp (g : Gm) (T : Tab P) (o : Op) (ρ : Operand → SV) (m : SMem) : Option (List X × SV × SMem) := match o with
  | .move x => some ([], ρ x, m)
  | .assign x => some ([], ρ x, m)
  | .pick c a b => (sPickD g (ρ c) (ρ a) (ρ b)).map fun v => ([], v, m)
  | .alloc el => (sAlloc T el m).map fun r => ([], r.1, r.2)
  | .box el x => (sBox el (ρ x) m).map fun r => ([], r.1, r.2)
  | .build t parts => (sBuild T t (parts.toList.map fun p => (p.1, ρ p.2))).map fun v => ([], v, m)
  | .buildSlice t len parts => (sBuildSlice T t len (parts.toList.map fun p => (p.1, ρ p.2)) m).map fun r => ([], r.1, r.2)
  | .makeSlice t l c => (match ρ l, ρ c, T.und t with
    | .a (.s (.z (.i kl (.i n)))), .a (.s (.z (.i kc (.i n')))), some (.slice e) => (match T.inf e with
      | some te => bif eqI n n' && (decide (0 < n) && (decide (n ≤ 65536) && Nat.ble te.bytes 65536)) then (sBuildSlice T t n.toNat [] m).map fun r => ([], r.1, r.2) else none
      | none => none)
    | _, _, _ => none)
  | .load t a => (sLoad g T t (ρ a) m).map fun r => (r.1, r.2, m)
  | .store t a x => (sStore g T t (ρ a) (ρ x) m).map fun r => (r.1, .undef, r.2)
  | .nilCheck x => (match ρ x with
    | .a (.s (.z (.p j px w c))) => some ([], .z (.p j px w c), m)
    | _ => none)
  | .binOp op t x y _ => (sBin g T op t (ρ x) (ρ y)).map fun r => (r.1, r.2, m)
  | .unOp op _ x => (sUn g op (ρ x)).map fun v => ([], v, m)
  | .convert s d x => (sConv g T s d (ρ x) m).map fun r => (r.1, r.2, m)
  | .slice t x lo hi none => (sSlice g T t (ρ x) (lo.map ρ) (hi.map ρ) m).map fun r => (r.1, r.2, m)
  | .fieldAddr t x f => (sFieldAddr T t (ρ x) f).map fun v => ([], v, m)
  | .field t x f => (sField T t (ρ x) f).map fun v => ([], v, m)
  | .indexAddr t x i => (sIndexAddr g T t (ρ x) (ρ i)).map fun r => (r.1, r.2, m)
  | .index t x i => (sIndex g T t (ρ x) (ρ i)).map fun r => (r.1, r.2, m)
  | .extract x i => (match ρ x with
    | .tu vs => (vs[i]?).map fun v => ([], .a v, m)
    | _ => none)
  | .makeFunc fn first captured => (sMake fn (first.toList.map ρ) (captured.toList.map ρ)).map fun v => ([], v, m)
  | .call ⟨.builtin b, args, ts⟩ => sBuiltin g T b ts.toList (args.toList.map ρ) m
  | _ => none
theorem map_some {α β : Type} {o : Option α} {f : α → β} {y : β} (h : o.map f = some y) : ∃ x, o = some x ∧ f x = y := by
  cases o with
  | none => cases h
  | some x => exact ⟨x, rfl, Option.some.inj h⟩
theorem map_two {α β : Type} {f : α → β} {l : List α} {a b : β} (h : l.map f = [a, b]) : ∃ x y, l = [x, y] ∧ f x = a ∧ f y = b := by
  rcases l with _ | ⟨x, _ | ⟨y, _ | ⟨z, l⟩⟩⟩
  · cases h
  · cases h
  · simp only [List.map_cons, List.map_nil, List.cons.injEq, and_true] at h
    exact ⟨x, y, rfl, h.1, h.2⟩
  · simp at h
theorem sBuiltin_ok {n₀ : Nat} {g : Gm} {e : En} (hg : g.ok e) {T : Tab P} {b : Builtin} {ts : List TypeId} {xs : List Operand} {ρ : Operand → SV} {m m' : SMem} {ns : List X} {v : SV} (h : sBuiltin g T b ts (xs.map ρ) m = some (ns, v, m')) (hn : allB e ns)
    {k : Value → Mem → Prop} (hk : k (v.den e) (denM e m')) : evBuiltin (propA P n₀).toOps T b ts xs (fun x => (ρ x).den e) (denM e m) k := by
  unfold sBuiltin at h
  split at h
  · rename_i t x hx
    match xs, hx with
    | [x'], hx =>
      simp only [List.map_cons, List.map_nil, List.cons.injEq, and_true] at hx
      subst hx
      obtain ⟨r, h1, h2⟩ := map_some h
      cases h2
      unfold evBuiltin
      simp only [sLen_ok hg (show sLen T g t (ρ x') = some (r.1, r.2) from h1) hn]
      exact hk
  · rename_i t tx s x hx
    match xs, hx with
    | [s', x'], hx =>
      simp only [List.map_cons, List.map_nil, List.cons.injEq, and_true] at hx
      obtain ⟨rfl, rfl⟩ := hx
      exact sAppend_ok hg h hn hk
  · rename_i ts k1 p k2 q hx
    obtain ⟨s', x', rfl, h1, h2⟩ := map_two hx
    cases h
    unfold evBuiltin
    simp only [h1, h2, SV.den, SA.den, SS.den, S0.den]
    have hk : k (.int k1 ((sMin g p q).I e)) (denM e m) := hk
    rw [sMin_I hg] at hk
    exact hk
  · rename_i ts k1 p k2 q hx
    obtain ⟨s', x', rfl, h1, h2⟩ := map_two hx
    cases h
    unfold evBuiltin
    simp only [h1, h2, SV.den, SA.den, SS.den, S0.den]
    have hk : k (.int k1 ((sMax g p q).I e)) (denM e m) := hk
    rw [sMax_I hg] at hk
    exact hk
  · cases h
theorem pairs_den (e : En) (ρ : Operand → SV) (ps : List (Nat × Operand)) : pairs (fun x => (ρ x).den e) ps = denP e (ps.map fun p => (p.1, ρ p.2)) := by
  simp [pairs, denP]
theorem sOp_ok {n₀ : Nat} {g : Gm} {e : En} (hg : g.ok e) {T : Tab P} {o : Op} {ρ : Operand → SV} {m m' : SMem} {ns : List X} {v : SV} (h : sOp g T o ρ m = some (ns, v, m')) (hn : allB e ns)
    {k : Value → Mem → Prop} (hk : k (v.den e) (denM e m')) : evOp (propA P n₀).toOps T o (fun x => (ρ x).den e) (denM e m) k := by
  cases o with
  | move x => cases h; exact hk
  | assign x => cases h; exact hk
  | pick c a b =>
    obtain ⟨r, h1, h2⟩ := map_some h
    cases h2
    exact sPickD_ok hg h1 hk
  | alloc el =>
    obtain ⟨r, h1, h2⟩ := map_some h
    cases h2
    exact sAlloc_ok h1 hk
  | box el x =>
    obtain ⟨r, h1, h2⟩ := map_some h
    cases h2
    exact sBox_ok h1 hk
  | build t parts =>
    obtain ⟨r, h1, h2⟩ := map_some h
    cases h2
    show evOpt _ (buildA T t (pairs _ _)) _ _
    rw [pairs_den, sBuild_ok h1]
    exact hk
  | buildSlice t len parts =>
    obtain ⟨r, h1, h2⟩ := map_some h
    cases h2
    show evBuildSlice _ (buildSliceA T t len (pairs _ _)) _ _ _
    rw [pairs_den]
    exact sBuildSlice_ok h1 hk
  | makeSlice t l c =>
    unfold sOp at h
    simp only at h
    split at h
    case h_2 => cases h
    rename_i kl n kc n' el hl hc hd
    split at h
    case h_2 => cases h
    rename_i te hte
    cases hq : eqI n n' && (decide (0 < n) && (decide (n ≤ 65536) && Nat.ble te.bytes 65536)) with
    | false => rw [hq] at h; cases h
    | true =>
      rw [hq] at h
      obtain ⟨r, h1, h2⟩ := map_some h
      cases h2
      simp only [Bool.and_eq_true] at hq
      have e1 := eqI_eq hq.1
      subst e1
      have hm : makeLen T t (.int kl n) (.int kc n) = some n.toNat := by
        unfold makeLen
        simp only [hd, hte]
        rw [if_pos (by simp only [Bool.and_eq_true, decide_eq_true_eq]; exact ⟨⟨⟨trivial, of_decide_eq_true hq.2.1⟩, of_decide_eq_true hq.2.2.1⟩, Nat.le_of_ble_eq_true hq.2.2.2⟩)]
      show evMakeSlice _ T t ((ρ l).den e) ((ρ c).den e) _ _
      rw [hl, hc]
      unfold evMakeSlice
      show (match makeLen T t (.int kl n) (.int kc n) with
        | some n => evBuildSlice (propA P n₀).toOps (buildSliceA T t n []) n (denM e m) k
        | none => (propA P n₀).toOps.fl)
      rw [hm]
      exact sBuildSlice_ok (ps := []) h1 hk
  | load t a =>
    obtain ⟨r, h1, h2⟩ := map_some h
    cases h2
    exact sLoad_ok hg h1 hn (k := fun v => k v (denM e m)) hk
  | store t a x =>
    obtain ⟨r, h1, h2⟩ := map_some h
    cases h2
    exact sStore_ok hg h1 hn (k := fun m' => k Go.undef m') hk
  | nilCheck x =>
    unfold sOp at h
    simp only at h
    split at h
    · rename_i j px w c hx
      cases h
      unfold evOp evNil
      simp only [hx, SV.den, SA.den, SS.den, S0.den]
      exact hk
    · cases h
  | binOp op t x y _ =>
    obtain ⟨r, h1, h2⟩ := map_some h
    cases h2
    obtain ⟨cs, h3, h4⟩ := sBin_ok hg (show sBin g T op t (ρ x) (ρ y) = some (r.1, r.2) from h1) hn
    exact evCond_of h3 h4 hk
  | unOp op _ x =>
    obtain ⟨r, h1, h2⟩ := map_some h
    cases h2
    show evOpt _ (aUn op _) _ _
    rw [sUn_ok hg h1]
    exact hk
  | convert s d x =>
    obtain ⟨r, h1, h2⟩ := map_some h
    cases h2
    exact sConv_ok hg h1 hn hk
  | slice t x lo hi mx =>
    cases mx with
    | some _ => cases h
    | none =>
      obtain ⟨r, h1, h2⟩ := map_some h
      cases h2
      have := sSlice_ok (n₀ := n₀) hg h1 hn (k := fun v => k v (denM e m)) hk
      rw [Option.map_map, Option.map_map] at this
      exact this
  | fieldAddr t x f =>
    obtain ⟨r, h1, h2⟩ := map_some h
    cases h2
    show evOpt _ (fieldAddrA T t _ f) _ _
    rw [sFieldAddr_ok h1]
    exact hk
  | field t x f =>
    obtain ⟨r, h1, h2⟩ := map_some h
    cases h2
    show evOpt _ (fieldA T t _ f) _ _
    rw [sField_ok h1]
    exact hk
  | indexAddr t x i =>
    obtain ⟨r, h1, h2⟩ := map_some h
    cases h2
    obtain ⟨cs, h3, h4⟩ := sIndexAddr_ok hg (show sIndexAddr g T t (ρ x) (ρ i) = some (r.1, r.2) from h1) hn
    exact evCond_of h3 h4 hk
  | index t x i =>
    obtain ⟨r, h1, h2⟩ := map_some h
    cases h2
    obtain ⟨cs, h3, h4⟩ := sIndex_ok hg (show sIndex g T t (ρ x) (ρ i) = some (r.1, r.2) from h1) hn
    exact evCond_of h3 h4 hk
  | extract x i =>
    unfold sOp at h
    simp only at h
    split at h
    · rename_i vs hx
      obtain ⟨r, h1, h2⟩ := map_some h
      cases h2
      unfold evOp evExtract
      simp only [hx, SV.den]
      refine ⟨r.den e, ?_, hk⟩
      rw [List.getElem?_map, h1]; rfl
    · cases h
  | makeFunc fn first captured =>
    obtain ⟨r, h1, h2⟩ := map_some h
    cases h2
    unfold sMake at h1
    split at h1
    case h_2 => cases h1
    rename_i f
    split at h1
    case h_2 => cases h1
    rename_i a c ha hc
    cases h1
    obtain ⟨a1, a2⟩ := svC0s_ok (e := e) ha
    obtain ⟨c1, c2⟩ := svC0s_ok (e := e) hc
    rw [List.map_map] at a1 a2 c1 c2
    show evMake _ (.func f) _ _ _ _
    unfold evMake
    simp only
    rw [if_pos (by rw [Bool.and_eq_true]; exact ⟨a2, c2⟩)]
    have hk : k (.func (.func f) ⟨a.map (C0.den e)⟩ ⟨c.map (C0.den e)⟩) (denM e m) := hk
    rw [← a1, ← c1] at hk
    exact hk
  | call c =>
    obtain ⟨callee, args, ts⟩ := c
    cases callee with
    | builtin b => exact sBuiltin_ok hg h hn hk
    | _ => cases h
  | _ => cases h
inductive Tr where
  | lf (x : Exit) (g : Gm) (fr : List SV) (m : SMem)
  | br (c : X) (t u : Tr)
  | nd (c : X) (t : Tr)
  | fl (why : Nat)
  | ag (b : Nat) (es : List X)
  | lp (b : Nat) (fs : List Fact) (init : List X) (body : Tr)
  | gv (fs : List Fact) (xs : List X) (t : Tr)
abbrev JJ := Nat → List D → Prop
abbrev KK := En → JJ → Exit → Gm → List SV → SMem → Prop
def En.ext (e : En) (b : Nat) (ds : List D) : En := ⟨fun n => bif Nat.ble b n && Nat.blt n (b + ds.length) then ds.getD (n - b) .u else e.ρ n⟩
def JJ.upd (J : JJ) (b : Nat) (q : List D → Prop) : JJ := fun n => if n = b then q else J n
def Tr.holds (K : KK) : Tr → En → JJ → Prop
  | .lf x g fr m, e, J => K e J x g fr m
  | .br c t u, e, J => (c.B e = true → t.holds K e J) ∧ (c.B e = false → u.holds K e J)
  | .nd c t, e, J => c.B e = true ∧ t.holds K e J
  | .fl _, _, _ => False
  | .ag b es, e, J => J b (es.map (X.den e))
  | .lp b fs init body, e, J => ∃ I : Nat → List D → Prop, (∃ k, I k (init.map (X.den e))) ∧ ∀ k ds, ds.length = init.length → I k ds →
      (∀ f ∈ fs, f.r.has (f.e.I (e.ext b ds))) ∧ body.holds K (e.ext b ds) (JJ.upd J b fun ds' => ∃ k', k' < k ∧ I k' ds')
  | .gv fs xs t, e, J => (∀ f ∈ fs, f.r.has (f.e.I e)) → (∀ x ∈ xs, x.B e = true) → t.holds K e J
def Tr.bind (t : Tr) (f : Exit → Gm → List SV → SMem → Tr) : Tr := match t with
  | .lf x g fr m => f x g fr m
  | .br c t u => .br c (t.bind f) (u.bind f)
  | .nd c t => .nd c (t.bind f)
  | .fl w => .fl w
  | .ag b es => .ag b es
  | .lp b fs init body => .lp b fs init (body.bind f)
  | .gv fs xs t => .gv fs xs (t.bind f)
theorem Tr.holds_bind {K : KK} {f : Exit → Gm → List SV → SMem → Tr} : ∀ (t : Tr) (e : En) (J : JJ), (t.bind f).holds K e J → t.holds (fun e J x g fr m => (f x g fr m).holds K e J) e J
  | .lf _ _ _ _, _, _, h => h
  | .br _ t u, e, J, h => ⟨fun hc => Tr.holds_bind t e J (h.1 hc), fun hc => Tr.holds_bind u e J (h.2 hc)⟩
  | .nd _ t, e, J, h => ⟨h.1, Tr.holds_bind t e J h.2⟩
  | .fl _, _, _, h => h.elim
  | .ag _ _, _, _, h => h
  | .lp _ _ _ body, _, _, ⟨I, h0, h⟩ => ⟨I, h0, fun k ds hl hI => ⟨(h k ds hl hI).1, Tr.holds_bind body _ _ (h k ds hl hI).2⟩⟩
  | .gv _ _ t, e, J, h => fun hf hx => Tr.holds_bind t e J (h hf hx)
def Gm.add (g : Gm) (fs : List Fact) (xs : List X) : Gm := ⟨g.nv, fs ++ g.fs, xs ++ g.as⟩
theorem Gm.add_ok {g : Gm} {e : En} (hg : g.ok e) {fs : List Fact} {xs : List X} (hf : ∀ f ∈ fs, f.r.has (f.e.I e)) (hx : ∀ x ∈ xs, x.B e = true) : (g.add fs xs).ok e := ⟨fun f h => by
    rcases List.mem_append.1 h with h | h
    · exact hf f h
    · exact hg.fs f h, fun x h => by
    rcases List.mem_append.1 h with h | h
    · exact hx x h
    · exact hg.as x h⟩
def ndsT (ns : List X) (t : Tr) : Tr := match ns with
  | [] => t
  | .b true :: ns => ndsT ns t
  | n :: ns => .nd n (ndsT ns t)
theorem ndsT_holds {K : KK} {e : En} {J : JJ} : ∀ {ns : List X} {t : Tr}, (ndsT ns t).holds K e J → allB e ns ∧ t.holds K e J
  | [], _, h => ⟨allB_nil e, h⟩
  | n :: ns, t, h => by
    unfold ndsT at h
    split at h
    · rename_i heq; cases heq
    · rename_i ns' heq
      cases heq
      obtain ⟨h1, h2⟩ := ndsT_holds h
      exact ⟨allB_cons.2 ⟨rfl, h1⟩, h2⟩
    · rename_i n' ns' _ heq
      cases heq
      obtain ⟨h1, h2⟩ := ndsT_holds h.2
      exact ⟨allB_cons.2 ⟨h.1, h1⟩, h2⟩
def litLo (g : Gm) (x : X) : Option Int := (rng g.fs x).lo
def litHi (g : Gm) (x : X) : Option Int := (rng g.fs x).hi
def factD (x : X) (lo hi : Option Int) : Fact := match x with
  | .o .add z (.i d) => ⟨z, ⟨lo.map (· - d), hi.map (· - d)⟩⟩
  | x => ⟨x, ⟨lo, hi⟩⟩
theorem factD_ok {e : En} {x : X} {lo hi : Option Int} (h1 : ∀ a, lo = some a → a ≤ x.I e) (h2 : ∀ a, hi = some a → x.I e ≤ a) : (factD x lo hi).r.has ((factD x lo hi).e.I e) := by
  unfold factD
  split
  · rename_i z d
    have hx : (X.o .add z (.i d)).I e = z.I e + d := rfl
    rw [hx] at h1 h2
    refine ⟨fun a ha => ?_, fun a ha => ?_⟩
    · obtain ⟨b, hb, rfl⟩ := map_some ha
      have := h1 b hb
      show b - d ≤ z.I e
      omega
    · obtain ⟨b, hb, rfl⟩ := map_some ha
      have := h2 b hb
      show z.I e ≤ b - d
      omega
  · exact ⟨h1, h2⟩
def simpleX : X → Bool
  | .i _ => true
  | _ => false
def factsLt (x y : X) : List Fact := bif simpleX x || simpleX y then [] else [factD (mkSub y x) (some 1) none, factD (mkSub x y) none (some (-1))]
def factsGe (x y : X) : List Fact := bif simpleX x || simpleX y then [] else [factD (mkSub x y) (some 0) none, factD (mkSub y x) none (some 0)]
theorem factsLt_ok {e : En} {x y : X} (h : x.I e < y.I e) : ∀ f ∈ factsLt x y, f.r.has (f.e.I e) := by
  intro f hf
  unfold factsLt at hf
  cases hs : simpleX x || simpleX y with
  | true => rw [hs] at hf; cases hf
  | false =>
    rw [hs] at hf
    simp only [cond_false, List.mem_cons, List.not_mem_nil, or_false] at hf
    rcases hf with rfl | rfl
    · refine factD_ok (fun a ha => ?_) (fun a ha => by cases ha)
      cases ha
      rw [mkSub_I]; omega
    · refine factD_ok (fun a ha => by cases ha) (fun a ha => ?_)
      cases ha
      rw [mkSub_I]; omega
theorem factsGe_ok {e : En} {x y : X} (h : ¬ x.I e < y.I e) : ∀ f ∈ factsGe x y, f.r.has (f.e.I e) := by
  intro f hf
  unfold factsGe at hf
  cases hs : simpleX x || simpleX y with
  | true => rw [hs] at hf; cases hf
  | false =>
    rw [hs] at hf
    simp only [cond_false, List.mem_cons, List.not_mem_nil, or_false] at hf
    rcases hf with rfl | rfl
    · refine factD_ok (fun a ha => ?_) (fun a ha => by cases ha)
      cases ha
      rw [mkSub_I]; omega
    · refine factD_ok (fun a ha => by cases ha) (fun a ha => ?_)
      cases ha
      rw [mkSub_I]; omega
def factsOf (g : Gm) (c : X) : List Fact := match c with
  | .o .lt x y => [⟨x, ⟨none, (litHi g y).map (· - 1)⟩⟩, ⟨y, ⟨(litLo g x).map (· + 1), none⟩⟩] ++ factsLt x y
  | .u .not (.o .lt x y) => [⟨x, ⟨litLo g y, none⟩⟩, ⟨y, ⟨none, litHi g x⟩⟩] ++ factsGe x y
  | .o .eq x y => [⟨x, rng g.fs y⟩]
  | .u .not (.o .eq x (.i k)) => (match (rng g.fs x).lo with | some a => bif eqI a k then [⟨x, ⟨some (k + 1), none⟩⟩] else [] | none => []) ++ (match (rng g.fs x).hi with | some a => bif eqI a k then [⟨x, ⟨none, some (k - 1)⟩⟩] else [] | none => [])
  | _ => []
theorem factsOf_ok {g : Gm} {e : En} (hg : g.ok e) {c : X} (h : c.B e = true) : ∀ f ∈ factsOf g c, f.r.has (f.e.I e) := by
  have lo : ∀ x a, litLo g x = some a → a ≤ x.I e := fun x a ha => (rng_ok hg.fs x).1 a ha
  have hi : ∀ x a, litHi g x = some a → x.I e ≤ a := fun x a ha => (rng_ok hg.fs x).2 a ha
  unfold factsOf
  split
  · rename_i x y
    have h : decide (x.I e < y.I e) = true := h
    have h := of_decide_eq_true h
    intro f hf
    simp only [List.mem_append, List.mem_cons, List.not_mem_nil, or_false] at hf
    rcases hf with (rfl | rfl) | hf
    rotate_right
    · exact factsLt_ok h f hf
    · refine ⟨fun a ha => (by cases ha), fun a ha => ?_⟩
      obtain ⟨b, hb, rfl⟩ := map_some ha
      have := hi y b hb
      show x.I e ≤ b - 1
      omega
    · refine ⟨fun a ha => ?_, fun a ha => (by cases ha)⟩
      obtain ⟨b, hb, rfl⟩ := map_some ha
      have := lo x b hb
      show b + 1 ≤ y.I e
      omega
  · rename_i x y
    have h : (!decide (x.I e < y.I e)) = true := h
    rw [Bool.not_eq_true', decide_eq_false_iff_not] at h
    intro f hf
    simp only [List.mem_append, List.mem_cons, List.not_mem_nil, or_false] at hf
    rcases hf with (rfl | rfl) | hf
    rotate_right
    · exact factsGe_ok h f hf
    · refine ⟨fun a ha => ?_, fun a ha => (by cases ha)⟩
      have := lo y a ha
      show a ≤ x.I e
      omega
    · refine ⟨fun a ha => (by cases ha), fun a ha => ?_⟩
      have := hi x a ha
      show y.I e ≤ a
      omega
  · rename_i x y
    have h : decide (x.I e = y.I e) = true := h
    have h := of_decide_eq_true h
    intro f hf
    simp only [List.mem_cons, List.not_mem_nil, or_false] at hf
    subst hf
    show (rng g.fs y).has (x.I e)
    rw [h]
    exact rng_ok hg.fs y
  · rename_i x k
    have h : (!decide (x.I e = k)) = true := h
    rw [Bool.not_eq_true', decide_eq_false_iff_not] at h
    have hr := rng_ok hg.fs x
    intro f hf
    rcases List.mem_append.1 hf with hf | hf
    · cases hl : (rng g.fs x).lo with
      | none => rw [hl] at hf; cases hf
      | some a =>
        rw [hl] at hf
        simp only at hf
        cases hk : eqI a k with
        | false => rw [hk] at hf; cases hf
        | true =>
          rw [hk] at hf
          have hak := eqI_eq hk
          obtain rfl := List.mem_singleton.1 hf
          refine ⟨fun b hb => ?_, fun b hb => (by cases hb)⟩
          cases hb
          have := hr.1 a hl
          show k + 1 ≤ x.I e
          omega
    · cases hl : (rng g.fs x).hi with
      | none => rw [hl] at hf; cases hf
      | some a =>
        rw [hl] at hf
        simp only at hf
        cases hk : eqI a k with
        | false => rw [hk] at hf; cases hf
        | true =>
          rw [hk] at hf
          have hak := eqI_eq hk
          obtain rfl := List.mem_singleton.1 hf
          refine ⟨fun b hb => (by cases hb), fun b hb => ?_⟩
          cases hb
          have := hr.2 a hl
          show x.I e ≤ k - 1
          omega
  · intro f hf; cases hf
def negs : X → List X
  | .o .or x y => negs x ++ negs y
  | x => [mkNot x]
theorem negs_ok {e : En} : ∀ {c : X}, c.B e = false → ∀ x ∈ negs c, x.B e = true := by
  intro c
  induction c with
  | o f x y ih1 ih2 =>
    intro h z hz
    unfold negs at hz
    split at hz
    · rename_i heq
      cases heq
      have h : (x.B e || y.B e) = false := h
      rw [Bool.or_eq_false_iff] at h
      rcases List.mem_append.1 hz with hz | hz
      · exact ih1 h.1 z hz
      · exact ih2 h.2 z hz
    · obtain rfl := List.mem_singleton.1 hz
      rw [mkNot_B, h]; rfl
  | _ =>
    intro h z hz
    simp only [negs, List.mem_cons, List.not_mem_nil, or_false] at hz
    subst hz
    rw [mkNot_B, h]; rfl
def conjs : X → List X
  | .o .and x y => conjs x ++ conjs y
  | .u .not (.o .or x y) => negs x ++ negs y
  | x => [x]
theorem conjs_ok {e : En} : ∀ {c : X}, c.B e = true → ∀ x ∈ conjs c, x.B e = true := by
  intro c
  induction c with
  | o f x y ih1 ih2 =>
    intro h z hz
    cases f with
    | and =>
      have h : (x.B e && y.B e) = true := h
      rw [Bool.and_eq_true] at h
      simp only [conjs, List.mem_append] at hz
      rcases hz with hz | hz
      · exact ih1 h.1 z hz
      · exact ih2 h.2 z hz
    | _ =>
      simp only [conjs, List.mem_cons, List.not_mem_nil, or_false] at hz
      subst hz; exact h
  | u f x ih =>
    intro h z hz
    unfold conjs at hz
    split at hz
    · rename_i heq; cases heq
    · rename_i a b heq
      cases heq
      have h : (!(a.B e || b.B e)) = true := h
      rw [Bool.not_eq_true', Bool.or_eq_false_iff] at h
      rcases List.mem_append.1 hz with hz | hz
      · exact negs_ok h.1 z hz
      · exact negs_ok h.2 z hz
    · simp only [List.mem_cons, List.not_mem_nil, or_false] at hz
      subst hz; exact h
  | _ =>
    intro h z hz
    simp only [conjs, List.mem_cons, List.not_mem_nil, or_false] at hz
    subst hz; exact h
def assume1 (g : Gm) (c : X) : Gm := ⟨g.nv, factsOf g c ++ g.fs, c :: g.as⟩
theorem assume1_ok {g : Gm} {e : En} (hg : g.ok e) {c : X} (h : c.B e = true) : (assume1 g c).ok e := by
  refine ⟨?_, ?_⟩
  · intro f hf
    rcases List.mem_append.1 hf with hf | hf
    · exact factsOf_ok hg h f hf
    · exact hg.fs f hf
  · intro x hx
    rcases List.mem_cons.1 hx with rfl | hx
    · exact h
    · exact hg.as x hx
def assumes (g : Gm) : List X → Gm
  | [] => g
  | c :: cs => assumes (assume1 g c) cs
theorem assumes_ok {e : En} : ∀ {cs : List X} {g : Gm}, g.ok e → (∀ c ∈ cs, c.B e = true) → (assumes g cs).ok e ∧ (assumes g cs).nv = g.nv
  | [], _, hg, _ => ⟨hg, rfl⟩
  | c :: cs, g, hg, h => assumes_ok (cs := cs) (assume1_ok hg (h c (List.mem_cons_self ..))) fun x hx => h x (List.mem_cons_of_mem _ hx)
def sgl (g : Gm) (x : X) : X := match rng g.fs x with
  | ⟨some a, some b⟩ => bif eqI a b then .i a else x
  | _ => x
theorem sgl_I {g : Gm} {e : En} (hg : g.ok e) (x : X) : (sgl g x).I e = x.I e := by
  have hr := rng_ok hg.fs x
  unfold sgl
  split
  · rename_i a b h
    rw [h] at hr
    cases he : eqI a b with
    | true =>
      have := eqI_eq he
      have h1 := hr.1 a rfl
      have h2 := hr.2 b rfl
      show a = x.I e
      omega
    | false => rfl
  · rfl
def apI (g : Gm) (f : Nat) (x y : X) : X := match y with
  | .i c => bif Fam.ii f then .i ((Fam.Φ f (.i c)).toI) else sgl g (.ap f x)
  | _ => sgl g (.ap f x)
theorem apI_I {g : Gm} {e : En} (hg : g.ok e) (f : Nat) {x z y : X} (h : y.I e = x.I e) (hz : (Fam.sh f).like (x.den e) (z.den e)) : (apI g f z y).I e = (X.ap f x).I e := by
  have hz : (X.ap f z).I e = (X.ap f x).I e := by
    show (Fam.Φ f (z.den e)).toI = (Fam.Φ f (x.den e)).toI
    rw [Fam.sh_ok f _ _ hz]
  unfold apI
  split
  · rename_i c
    cases hi : Fam.ii f with
    | true =>
      have h : c = (x.den e).toI := h
      show (Fam.Φ f (.i c)).toI = (Fam.Φ f (x.den e)).toI
      rw [Fam.ii_ok f (x.den e) hi, ← h]
    | false => exact (sgl_I hg _).trans hz
  · exact (sgl_I hg _).trans hz
def apB (g : Gm) (f : Nat) (x y : X) : X := match y with
  | .i c => bif Fam.ii f then .b ((Fam.Φ f (.i c)).toB) else known0 g (.ap f x)
  | _ => known0 g (.ap f x)
theorem apB_B {g : Gm} {e : En} (hg : g.ok e) (f : Nat) {x z y : X} (h : y.I e = x.I e) (hz : (Fam.sh f).like (x.den e) (z.den e)) : (apB g f z y).B e = (X.ap f x).B e := by
  have hz : (X.ap f z).B e = (X.ap f x).B e := by
    show (Fam.Φ f (z.den e)).toB = (Fam.Φ f (x.den e)).toB
    rw [Fam.sh_ok f _ _ hz]
  unfold apB
  split
  · rename_i c
    cases hi : Fam.ii f with
    | true =>
      have h : c = (x.den e).toI := h
      show (Fam.Φ f (.i c)).toB = (Fam.Φ f (x.den e)).toB
      rw [Fam.ii_ok f (x.den e) hi, ← h]
    | false => exact (known0_B hg _).trans hz
  · exact (known0_B hg _).trans hz
def iteG (g : Gm) (c x y : X) : X := match c, x, y with
  | .o .eq t (.i 1), .i k, .i 0 => bif within (rng g.fs t) 0 1 then mkMul t (.i k) else mkIte .i c x y
  | .u .not (.o .eq t (.i 0)), .i k, .i 0 => bif within (rng g.fs t) 0 1 then mkMul t (.i k) else mkIte .i c x y
  | .o .eq t (.i 0), .i 0, .i k => bif within (rng g.fs t) 0 1 then mkMul t (.i k) else mkIte .i c x y
  | c, x, y => mkIte .i c x y
theorem iteG_I {g : Gm} {e : En} (hg : g.ok e) (c x y : X) : (iteG g c x y).I e = bif c.B e then x.I e else y.I e := by
  have bit : ∀ t : X, within (rng g.fs t) 0 1 = true → t.I e = 0 ∨ t.I e = 1 := by
    intro t h
    obtain ⟨h1, h2⟩ := within_ok h (rng_ok hg.fs t)
    omega
  unfold iteG
  split
  · rename_i t k
    cases h : within (rng g.fs t) 0 1 with
    | false => (simp only [cond_false]; exact mkIte_I e _ _ _)
    | true =>
      show (mkMul t (.i k)).I e = bif decide (t.I e = 1) then k else 0
      rw [mkMul_I]
      show t.I e * k = _
      rcases bit t h with h | h <;> rw [h] <;> simp
  · rename_i t k
    cases h : within (rng g.fs t) 0 1 with
    | false => (simp only [cond_false]; exact mkIte_I e _ _ _)
    | true =>
      show (mkMul t (.i k)).I e = bif !decide (t.I e = 0) then k else 0
      rw [mkMul_I]
      show t.I e * k = _
      rcases bit t h with h | h <;> rw [h] <;> simp
  · rename_i t k
    cases h : within (rng g.fs t) 0 1 with
    | false => (simp only [cond_false]; exact mkIte_I e _ _ _)
    | true =>
      show (mkMul t (.i k)).I e = bif decide (t.I e = 0) then 0 else k
      rw [mkMul_I]
      show t.I e * k = _
      rcases bit t h with h | h <;> rw [h] <;> simp
  · exact mkIte_I e _ _ _
mutual
def smI (g : Gm) : X → X
  | .o .add x y => mkAdd (smI g x) (smI g y)
  | .o .sub x y => mkSub (smI g x) (smI g y)
  | .o .mul x y => mkMul (smI g x) (smI g y)
  | .o .ediv x y => mkEdiv (smI g x) (smI g y)
  | .o .emod x y => mkEmodG g (smI g x) (smI g y)
  | .o (.bit f k) x y => mkBit g f k (smI g x) (smI g y)
  | .u (.wrap k) x => mkWrap g k (smI g x)
  | .t .i c x y => iteG g (smB g c) (smI g x) (smI g y)
  | .u .len x => sgl g (mkLen x)
  | .v n => sgl g (.v n)
  | .ap f x => apI g f (smA g (Fam.sh f) x) (smI g x)
  | .u .fst x => sgl g (.u .fst (smD g x))
  | .u .snd x => sgl g (.u .snd (smD g x))
  | .o .nth x y => sgl g (.o .nth x (smI g y))
  | x => x
def smA (g : Gm) (s : Sh) : X → X
  | .o .pair x y => match s with
    | .p a b => .o .pair (match a with | .x => x | .i => smI g x | .b => smB g x | a => smA g a x) (match b with | .x => y | .i => smI g y | .b => smB g y | b => smA g b y)
    | _ => .o .pair x y
  | x => x
def smD (g : Gm) : X → X
  | .ap f x => .ap f (smA g (Fam.sh f) x)
  | .u .fst x => .u .fst (smD g x)
  | .u .snd x => .u .snd (smD g x)
  | x => x
def smB (g : Gm) : X → X
  | .b x => .b x
  | .u .not x => mkNot (smB g x)
  | .o .and x y => mkAnd (smB g x) (smB g y)
  | .o .or x y => mkNot (mkAnd (mkNot (smB g x)) (mkNot (smB g y)))
  | .o .beq x y => mkBeq (smB g x) (smB g y)
  | .o .eq x y => mkEq g (smI g x) (smI g y)
  | .o .lt x y => mkLt g (smI g x) (smI g y)
  | .o .seq x y => mkSeq g x y
  | .o .req x y => mkReq g x y
  | .o .slt x y => mkSlt g x y
  | .t .b c x y => mkIte .b (smB g c) (smB g x) (smB g y)
  | .ap f x => apB g f (smA g (Fam.sh f) x) (smI g x)
  | .u .fst x => known g (.u .fst (smD g x))
  | .u .snd x => known g (.u .snd (smD g x))
  | x => known g x
end
theorem not_not_and (a b : Bool) : (!(!a && !b)) = (a || b) := by cases a <;> cases b <;> rfl
mutual
theorem smI_ok {g : Gm} {e : En} (hg : g.ok e) : ∀ x : X, (smI g x).I e = x.I e
  | .o .add x y => by unfold smI; rw [mkAdd_I, smI_ok hg x, smI_ok hg y]; rfl
  | .o .sub x y => by unfold smI; rw [mkSub_I, smI_ok hg x, smI_ok hg y]; rfl
  | .o .mul x y => by unfold smI; rw [mkMul_I, smI_ok hg x, smI_ok hg y]; rfl
  | .o .ediv x y => by unfold smI; rw [mkEdiv_I, smI_ok hg x, smI_ok hg y]; rfl
  | .o .emod x y => by unfold smI; rw [mkEmodG_I hg, smI_ok hg x, smI_ok hg y]; rfl
  | .o (.bit f k) x y => by unfold smI; rw [mkBit_I hg, smI_ok hg x, smI_ok hg y]; rfl
  | .u (.wrap k) x => by unfold smI; rw [mkWrap_I hg, smI_ok hg x]; rfl
  | .t .i c x y => by
    unfold smI; rw [iteG_I hg, smB_ok hg c, smI_ok hg x, smI_ok hg y]
    show _ = ((So.i).den (c.den e).toB (x.den e) (y.den e)).toI
    rfl
  | .u .len x => by unfold smI; rw [sgl_I hg, mkLen_I]; rfl
  | .v n => by unfold smI; exact sgl_I hg _
  | .ap f x => by unfold smI; exact apI_I hg f (smI_ok hg x) (smA_ok hg (Fam.sh f) x)
  | .u .fst x => by
    unfold smI; rw [sgl_I hg]
    show ((smD g x).den e).fst.toI = _
    rw [smD_ok hg x]; rfl
  | .u .snd x => by
    unfold smI; rw [sgl_I hg]
    show ((smD g x).den e).snd.toI = _
    rw [smD_ok hg x]; rfl
  | .o .nth x y => by
    unfold smI
    rw [sgl_I hg]
    show (((x.den e).toS.getD ((smI g y).I e).toNat 0).toNat : Int) = _
    rw [smI_ok hg y]; rfl
  | .i _ | .b _ | .s _ | .nil | .set _ _ _ | .rset _ _ _ | .t .b _ _ _ | .t .s _ _ _ | .t .r _ _ _ | .t .d _ _ _ | .u .not _ | .u .rlen _ | .u .unit _ | .u .row _ => rfl
  | .o .tdiv _ _ | .o .tmod _ _ | .o (.shl _) _ _ | .o (.shr _) _ _ | .o .eq _ _ | .o .lt _ _ | .o .beq _ _ | .o .and _ _ | .o .or _ _ | .o .seq _ _ | .o .req _ _ | .o .slt _ _ | .o .cat _ _ | .o .take _ _ | .o .drop _ _ | .o .pair _ _ | .o .rcat _ _ | .o .rtake _ _ | .o .rdrop _ _ | .o (.rI _) _ _ | .o (.rB _) _ _ | .o (.rS _) _ _ => rfl
theorem smA_ok {g : Gm} {e : En} (hg : g.ok e) (s : Sh) : ∀ x : X, s.like (x.den e) ((smA g s x).den e)
  | .o .pair x y => by
    unfold smA
    cases s with
    | p a b =>
      refine ⟨?_, ?_⟩
      · cases a with
        | x => exact Sh.like_refl _ _
        | i => exact (smI_ok hg x).symm
        | b => exact (smB_ok hg x).symm
        | p a a' => exact smA_ok hg (.p a a') x
      · cases b with
        | x => exact Sh.like_refl _ _
        | i => exact (smI_ok hg y).symm
        | b => exact (smB_ok hg y).symm
        | p a a' => exact smA_ok hg (.p a a') y
    | _ => exact Sh.like_refl _ _
  | .i _ | .b _ | .s _ | .v _ | .nil | .u _ _ | .t _ _ _ _ | .set _ _ _ | .rset _ _ _ | .ap _ _ => Sh.like_refl _ _
  | .o .add _ _ | .o .sub _ _ | .o .mul _ _ | .o .ediv _ _ | .o .emod _ _ | .o (.bit _ _) _ _ | .o .tdiv _ _ | .o .tmod _ _ | .o (.shl _) _ _ | .o (.shr _) _ _ | .o .eq _ _ | .o .lt _ _ | .o .beq _ _ | .o .and _ _ | .o .or _ _ | .o .seq _ _ | .o .req _ _ | .o .slt _ _ | .o .cat _ _ | .o .nth _ _ | .o .take _ _ | .o .drop _ _ | .o .rcat _ _ | .o .rtake _ _ | .o .rdrop _ _ | .o (.rI _) _ _ | .o (.rB _) _ _ | .o (.rS _) _ _ => Sh.like_refl _ _
theorem smD_ok {g : Gm} {e : En} (hg : g.ok e) : ∀ x : X, (smD g x).den e = x.den e
  | .ap f x => by
    unfold smD
    show Fam.Φ f _ = Fam.Φ f _
    rw [Fam.sh_ok f _ _ (smA_ok hg (Fam.sh f) x)]
  | .u .fst x => by
    unfold smD
    show ((smD g x).den e).fst = (x.den e).fst
    rw [smD_ok hg x]
  | .u .snd x => by
    unfold smD
    show ((smD g x).den e).snd = (x.den e).snd
    rw [smD_ok hg x]
  | .i _ | .b _ | .s _ | .v _ | .nil | .o _ _ _ | .t _ _ _ _ | .set _ _ _ | .rset _ _ _ | .u (.wrap _) _ | .u .not _ | .u .len _ | .u .rlen _ | .u .unit _ | .u .row _ => rfl
theorem smB_ok {g : Gm} {e : En} (hg : g.ok e) : ∀ x : X, (smB g x).B e = x.B e
  | .b x => rfl
  | .u .not x => by unfold smB; rw [mkNot_B, smB_ok hg x]; rfl
  | .o .and x y => by unfold smB; rw [mkAnd_B, smB_ok hg x, smB_ok hg y]; rfl
  | .o .or x y => by unfold smB; rw [mkNot_B, mkAnd_B, mkNot_B, mkNot_B, smB_ok hg x, smB_ok hg y, not_not_and]; rfl
  | .o .beq x y => by unfold smB; rw [mkBeq_B, smB_ok hg x, smB_ok hg y]; rfl
  | .o .eq x y => by unfold smB; rw [mkEq_B hg, smI_ok hg x, smI_ok hg y]; rfl
  | .o .lt x y => by unfold smB; rw [mkLt_B hg, smI_ok hg x, smI_ok hg y]; rfl
  | .o .seq x y => by unfold smB; rw [mkSeq_B hg]; rfl
  | .o .req x y => by unfold smB; rw [mkReq_B hg]; rfl
  | .o .slt x y => by unfold smB; rw [mkSlt_B hg]; rfl
  | .t .b c x y => by
    unfold smB; rw [mkIte_B, smB_ok hg c, smB_ok hg x, smB_ok hg y]
    show _ = ((So.b).den (c.den e).toB (x.den e) (y.den e)).toB
    rfl
  | .ap f x => by unfold smB; exact apB_B hg f (smI_ok hg x) (smA_ok hg (Fam.sh f) x)
  | .u .fst x => by
    unfold smB; rw [known_B hg]
    show ((smD g x).den e).fst.toB = _
    rw [smD_ok hg x]; rfl
  | .u .snd x => by
    unfold smB; rw [known_B hg]
    show ((smD g x).den e).snd.toB = _
    rw [smD_ok hg x]; rfl
  | .i _ | .s _ | .v _ | .nil | .set _ _ _ | .rset _ _ _ | .t .i _ _ _ | .t .s _ _ _ | .t .r _ _ _ | .t .d _ _ _ | .u (.wrap _) _ | .u .len _ | .u .rlen _ | .u .unit _ | .u .row _ => known_B hg _
  | .o .add _ _ | .o .sub _ _ | .o .mul _ _ | .o .ediv _ _ | .o .emod _ _ | .o (.bit _ _) _ _ | .o .tdiv _ _ | .o .tmod _ _ | .o (.shl _) _ _ | .o (.shr _) _ _ | .o .cat _ _ | .o .nth _ _ | .o .take _ _ | .o .drop _ _ | .o .pair _ _ | .o .rcat _ _ | .o .rtake _ _ | .o .rdrop _ _ | .o (.rI _) _ _ | .o (.rB _) _ _ | .o (.rS _) _ _ => known_B hg _
end
def occ (n : Nat) : X → Bool
  | .v k => Nat.beq k n
  | .u _ x => occ n x
  | .o _ x y => occ n x || occ n y
  | .t _ c x y => occ n c || (occ n x || occ n y)
  | .set x y z => occ n x || (occ n y || occ n z)
  | .rset x y z => occ n x || (occ n y || occ n z)
  | .ap _ x => occ n x
  | _ => false
def again1 (n : Nat) : List X → Gm → Gm
  | [], g => g
  | a :: l, g => bif occ n a then again1 n l (assumes g (conjs (smB g a))) else again1 n l g
theorem again1_ok {e : En} {n : Nat} : ∀ {l : List X} {g : Gm}, g.ok e → (∀ a ∈ l, a.B e = true) → (again1 n l g).ok e ∧ (again1 n l g).nv = g.nv
  | [], _, hg, _ => ⟨hg, rfl⟩
  | a :: l, g, hg, h => by
    unfold again1
    cases occ n a with
    | false => exact again1_ok hg fun x hx => h x (List.mem_cons_of_mem _ hx)
    | true =>
      obtain ⟨h1, h2⟩ := assumes_ok hg (conjs_ok (c := smB g a) (by rw [smB_ok hg]; exact h a List.mem_cons_self))
      obtain ⟨h3, h4⟩ := again1_ok (n := n) (l := l) h1 fun x hx => h x (List.mem_cons_of_mem _ hx)
      exact ⟨h3, h4.trans h2⟩
def occX (y : X) : X → Bool
  | .ap f x => eqX y (.ap f x) || occX y x
  | .u _ x => occX y x
  | .o _ a b => occX y a || occX y b
  | .t _ c a b => occX y c || (occX y a || occX y b)
  | .set a b c => occX y a || (occX y b || occX y c)
  | .rset a b c => occX y a || (occX y b || occX y c)
  | _ => false
def againX (y : X) : List X → Gm → Gm
  | [], g => g
  | a :: l, g => bif occX y a then againX y l (assumes g (conjs (smB g a))) else againX y l g
theorem againX_ok {e : En} {y : X} : ∀ {l : List X} {g : Gm}, g.ok e → (∀ a ∈ l, a.B e = true) → (againX y l g).ok e ∧ (againX y l g).nv = g.nv
  | [], _, hg, _ => ⟨hg, rfl⟩
  | a :: l, g, hg, h => by
    unfold againX
    cases occX y a with
    | false => exact againX_ok hg fun x hx => h x (List.mem_cons_of_mem _ hx)
    | true =>
      obtain ⟨h1, h2⟩ := assumes_ok hg (conjs_ok (c := smB g a) (by rw [smB_ok hg]; exact h a List.mem_cons_self))
      obtain ⟨h3, h4⟩ := againX_ok (y := y) (l := l) h1 fun x hx => h x (List.mem_cons_of_mem _ hx)
      exact ⟨h3, h4.trans h2⟩
def fresh1 (c : X) (g0 g : Gm) : Gm := match c with
  | .ap f x => againX (.ap f x) g0.as g
  | .u .not (.ap f x) => againX (.ap f x) g0.as g
  | .o .eq (.v n) (.i _) => again1 n g0.as g
  | .v n => again1 n g0.as g
  | .u .not (.v n) => again1 n g0.as g
  | _ => g
theorem fresh1_ok {e : En} {c : X} {g0 g : Gm} (h0 : g0.ok e) (hg : g.ok e) : (fresh1 c g0 g).ok e ∧ (fresh1 c g0 g).nv = g.nv := by
  unfold fresh1
  split
  · exact againX_ok hg h0.as
  · exact againX_ok hg h0.as
  · exact again1_ok hg h0.as
  · exact again1_ok hg h0.as
  · exact again1_ok hg h0.as
  · exact ⟨hg, rfl⟩
def hasT : X → Bool
  | .t _ _ _ _ => true
  | .u _ x => hasT x
  | .o _ x y => hasT x || hasT y
  | _ => false
def assumesS (g : Gm) : List X → Gm
  | [] => g
  | c :: cs => bif hasT c then assumesS (assumes g (conjs (smB g c))) cs else assumesS (assume1 g c) cs
theorem assumesS_ok {e : En} : ∀ {cs : List X} {g : Gm}, g.ok e → (∀ c ∈ cs, c.B e = true) → (assumesS g cs).ok e ∧ (assumesS g cs).nv = g.nv
  | [], _, hg, _ => ⟨hg, rfl⟩
  | c :: cs, g, hg, h => by
    unfold assumesS
    have hc := h c List.mem_cons_self
    cases hasT c with
    | false => exact assumesS_ok (assume1_ok hg hc) fun x hx => h x (List.mem_cons_of_mem _ hx)
    | true =>
      obtain ⟨h1, h2⟩ := assumes_ok hg (conjs_ok (c := smB g c) (by rw [smB_ok hg]; exact hc))
      obtain ⟨h3, h4⟩ := assumesS_ok (cs := cs) h1 fun x hx => h x (List.mem_cons_of_mem _ hx)
      exact ⟨h3, h4.trans h2⟩
def assume (g : Gm) (c : X) : Gm := fresh1 c g (assumesS g (conjs c))
theorem assume_ok {g : Gm} {e : En} (hg : g.ok e) {c : X} (h : c.B e = true) : (assume g c).ok e ∧ (assume g c).nv = g.nv := by
  obtain ⟨h1, h2⟩ := assumesS_ok hg (conjs_ok h)
  obtain ⟨h3, h4⟩ := fresh1_ok (c := c) hg h1
  exact ⟨h3, h4.trans h2⟩
def brT (g : Gm) (c : X) (t u : Gm → Tr) : Tr := match known g c with
  | .b true => t g
  | .b false => u g
  | c => .br c (t (assume g c)) (u (assume g (mkNot c)))
theorem brT_holds {K : KK} {e : En} {J : JJ} {g : Gm} (hg : g.ok e) {c : X} {t u : Gm → Tr} (h : (brT g c t u).holds K e J) :
    ∃ g', g'.ok e ∧ g'.nv = g.nv ∧ ((c.B e = true ∧ (t g').holds K e J) ∨ (c.B e = false ∧ (u g').holds K e J)) := by
  have hk := known_B hg c
  unfold brT at h
  split at h
  · rename_i hc
    rw [hc] at hk
    exact ⟨g, hg, rfl, .inl ⟨hk.symm, h⟩⟩
  · rename_i hc
    rw [hc] at hk
    exact ⟨g, hg, rfl, .inr ⟨hk.symm, h⟩⟩
  · cases hb : (known g c).B e with
    | true =>
      obtain ⟨h1, h2⟩ := assume_ok hg hb
      exact ⟨_, h1, h2, .inl ⟨by rw [← hk, hb], h.1 hb⟩⟩
    | false =>
      have hb' : (mkNot (known g c)).B e = true := by rw [mkNot_B, hb]; rfl
      obtain ⟨h1, h2⟩ := assume_ok hg hb'
      exact ⟨_, h1, h2, .inr ⟨by rw [← hk, hb], h.2 hb⟩⟩
end Go.SX
end
noncomputable section
namespace Go.SX
set_option linter.unusedSectionVars false
open Go Go.AE
set_option linter.constructorNameAsVariable false
set_option linter.unusedSimpArgs false
set_option linter.unusedVariables false
variable {P : Program} [Fam]
def X.sc (n : Nat) : X → Bool
  | .v k => Nat.blt k n
  | .u _ x => x.sc n
  | .o _ x y => x.sc n && y.sc n
  | .t _ c x y => c.sc n && (x.sc n && y.sc n)
  | .set x y z => x.sc n && (y.sc n && z.sc n)
  | .rset x y z => x.sc n && (y.sc n && z.sc n)
  | .ap _ x => x.sc n
  | _ => true
def Agv (n : Nat) (e e' : En) : Prop := ∀ k, k < n → e'.ρ k = e.ρ k
theorem X.sc_den {n : Nat} {e e' : En} (h : Agv n e e') : ∀ {x : X}, x.sc n = true → x.den e' = x.den e := by
  intro x
  induction x with
  | v k => intro hs; exact h k (by simpa [X.sc, Nat.blt_eq] using hs)
  | u o x ih => intro hs; simp only [X.den, ih hs]
  | o o x y ih1 ih2 =>
    intro hs
    simp only [X.sc, Bool.and_eq_true] at hs
    simp only [X.den, ih1 hs.1, ih2 hs.2]
  | t q c x y ih1 ih2 ih3 =>
    intro hs
    simp only [X.sc, Bool.and_eq_true] at hs
    simp only [X.den, ih1 hs.1, ih2 hs.2.1, ih3 hs.2.2]
  | set x y z ih1 ih2 ih3 =>
    intro hs
    simp only [X.sc, Bool.and_eq_true] at hs
    simp only [X.den, ih1 hs.1, ih2 hs.2.1, ih3 hs.2.2]
  | rset x y z ih1 ih2 ih3 =>
    intro hs
    simp only [X.sc, Bool.and_eq_true] at hs
    simp only [X.den, ih1 hs.1, ih2 hs.2.1, ih3 hs.2.2]
  | ap f x ih => intro hs; simp only [X.den, ih hs]
  | _ => intro _; rfl
def S0.sc (n : Nat) : S0 → Bool
  | .b x => x.sc n
  | .i _ x => x.sc n
  | .s x => x.sc n
  | .p _ x _ _ => x.sc n
  | .sl _ x _ _ a c => x.sc n && (a.sc n && c.sc n)
  | _ => true
def C0.sc (n : Nat) : C0 → Bool
  | .z x => x.sc n
  | .ag l => l.all (S0.sc n)
def SS.sc (n : Nat) : SS → Bool
  | .z x => x.sc n
  | .fn _ fs cs => fs.all (C0.sc n) && cs.all (C0.sc n)
  | _ => true
def SA.sc (n : Nat) : SA → Bool
  | .s x => x.sc n
  | .ag l => l.all (SS.sc n)
def SV.sc (n : Nat) : SV → Bool
  | .a x => x.sc n
  | .tu l => l.all (SA.sc n)
  | .gd c x => c.sc n && x.sc n
theorem map_sc {α β : Type} {p : α → Bool} {f f' : α → β} (h : ∀ x, p x = true → f' x = f x) {l : List α} (hl : l.all p = true) : l.map f' = l.map f :=
  List.map_congr_left fun x hx => h x (List.all_eq_true.1 hl x hx)
theorem S0.sc_den {n : Nat} {e e' : En} (h : Agv n e e') (x : S0) (hs : x.sc n = true) : x.den e' = x.den e := by
  cases x with
  | sl j x w c a b =>
    simp only [S0.sc, Bool.and_eq_true] at hs
    simp only [S0.den, X.I, X.sc_den h hs.1, X.sc_den h hs.2.1, X.sc_den h hs.2.2]
  | p0 => rfl
  | sl0 => rfl
  | _ => simp only [S0.sc] at hs; simp only [S0.den, X.I, X.B, X.S, X.sc_den h hs]
theorem C0.sc_den {n : Nat} {e e' : En} (h : Agv n e e') (x : C0) (hs : x.sc n = true) : x.den e' = x.den e := by
  cases x with
  | z x => exact S0.sc_den h x hs
  | ag l => simp only [C0.den, map_sc (S0.sc_den h) hs]
theorem SS.sc_den {n : Nat} {e e' : En} (h : Agv n e e') (x : SS) (hs : x.sc n = true) : x.den e' = x.den e := by
  cases x with
  | z x => exact S0.sc_den h x hs
  | fn f fs cs =>
    simp only [SS.sc, Bool.and_eq_true] at hs
    simp only [SS.den, map_sc (C0.sc_den h) hs.1, map_sc (C0.sc_den h) hs.2]
  | _ => rfl
theorem SA.sc_den {n : Nat} {e e' : En} (h : Agv n e e') (x : SA) (hs : x.sc n = true) : x.den e' = x.den e := by
  cases x with
  | s x => exact SS.sc_den h x hs
  | ag l => simp only [SA.den, map_sc (SS.sc_den h) hs]
theorem SV.sc_den {n : Nat} {e e' : En} (h : Agv n e e') (x : SV) (hs : x.sc n = true) : x.den e' = x.den e := by
  cases x with
  | a x => exact SA.sc_den h x hs
  | tu l => simp only [SV.den, map_sc (SA.sc_den h) hs]
  | gd c x =>
    simp only [SV.sc, Bool.and_eq_true] at hs
    simp only [SV.den, X.B, X.sc_den h hs.1, SA.sc_den h x hs.2]
def scF (n : Nat) (fr : List SV) : Bool := fr.all (SV.sc n)
theorem scF_den {n : Nat} {e e' : En} (h : Agv n e e') {fr : List SV} (hs : scF n fr = true) : denF e' fr = denF e fr := map_sc (SV.sc_den h) hs
structure At (g : Gm) (e : En) (J : JJ) (g' : Gm) (e' : En) (J' : JJ) : Prop where
  ok : g'.ok e'
  le : g.nv ≤ g'.nv
  ag : Agv g.nv e e'
  ja : ∀ b, b < g.nv → J' b = J b
  eq : g'.nv = g.nv → e' = e
theorem At.refl {g : Gm} {e : En} {J : JJ} (h : g.ok e) : At g e J g e J := ⟨h, Nat.le_refl _, fun _ _ => rfl, fun _ _ => rfl, fun _ => rfl⟩
theorem At.same {g g' : Gm} {e : En} {J : JJ} (h : g'.ok e) (hn : g'.nv = g.nv) : At g e J g' e J := ⟨h, Nat.le_of_eq hn.symm, fun _ _ => rfl, fun _ _ => rfl, fun _ => rfl⟩
theorem At.trans {g g' g'' : Gm} {e e' e'' : En} {J J' J'' : JJ} (h : At g e J g' e' J') (h' : At g' e' J' g'' e'' J'') : At g e J g'' e'' J'' := by
  refine ⟨h'.ok, Nat.le_trans h.le h'.le, fun k hk => (h'.ag k (Nat.lt_of_lt_of_le hk h.le)).trans (h.ag k hk), fun b hb => (h'.ja b (Nat.lt_of_lt_of_le hb h.le)).trans (h.ja b hb), fun hq => ?_⟩
  have h1 := h.le
  have h2 := h'.le
  rw [h'.eq (by omega), h.eq (by omega)]
abbrev CallF := FuncId → Gm → List SV → SMem → Tr
def CallOk (T : Tab P) (call : CallF) : Prop := ∀ (n : FuncId) (g : Gm) (args : List SV) (m : SMem) (e : En) (J : JJ) (K : KK) (KV : Value → Mem → Prop), g.ok e → T.fn n = true → (call n g args m).holds K e J →
  (∀ g' e' J' x fr' m', At g e J g' e' J' → K e' J' x g' fr' m' → ∃ v, x = .ret ∧ fr' = [v] ∧ KV (v.den e') (denM e' m')) → ACall P n (args.map (SV.den e)) (denM e m) KV
def putS (fr : List SV) (dst : Option Tmp) (v : SV) : List SV := match dst with
  | some d => fr.set d v
  | none => fr
theorem putS_den (e : En) (fr : List SV) (dst : Option Tmp) (v : SV) : denF e (putS fr dst v) = putA (denF e fr) dst (v.den e) := by
  cases dst with
  | none => rfl
  | some d => simp [putS, putA, denF, List.map_set]
noncomputable def setK {α : Type} (fr : List SV) : Nat → SV → (List SV → α) → α := List.rec (motive := fun _ => Nat → SV → (List SV → α) → α) (fun _ _ k => k []) (fun x l ih n v k => Nat.rec (motive := fun _ => α) (k (v :: l)) (fun m _ => ih m v fun l' => k (x :: l')) n) fr
theorem setK_eq {α : Type} : ∀ (fr : List SV) (n : Nat) (v : SV) (k : List SV → α), setK fr n v k = k (fr.set n v)
  | [], _, _, _ => rfl
  | _ :: _, 0, _, _ => rfl
  | x :: l, n + 1, v, k => setK_eq l n v fun l' => k (x :: l')
noncomputable def putK (fr : List SV) (dst : Option Tmp) (v : SV) (k : List SV → Tr) : Tr := match dst with
  | some d => setK fr d v k
  | none => k fr
theorem putK_eq (fr : List SV) (dst : Option Tmp) (v : SV) (k : List SV → Tr) : putK fr dst v k = k (putS fr dst v) := by
  cases dst with
  | none => rfl
  | some d => exact setK_eq fr d v k
noncomputable def memK (m : SMem) (k : SMem → Tr) : Tr := List.rec (motive := fun _ => (SMem → Tr) → Tr) (fun k => k []) (fun b _ ih k => ih fun l' => k (b :: l')) m k
theorem memK_eq : ∀ (m : SMem) (k : SMem → Tr), memK m k = k m
  | [], _ => rfl
  | b :: m, k => memK_eq m fun l' => k (b :: l')
def ndA (g : Gm) (ns : List X) (k : Gm → Tr) : Tr := match ns with
  | [] => k g
  | _ => ndsT ns (k (assumes g ns))
theorem ndA_eq (g : Gm) (ns : List X) (k : Gm → Tr) : ndA g ns k = ndsT ns (k (assumes g ns)) := by
  cases ns <;> rfl
def C0.sv : C0 → SV
  | .z x => .z x
  | .ag l => .a (.ag (l.map .z))
theorem C0.sv_den (e : En) (x : C0) : x.sv.den e = x.den e := by
  cases x with
  | z x => rfl
  | ag l =>
    show Value.agg ⟨(l.map SS.z).map (SS.den e)⟩ = Value.agg ⟨l.map (S0.den e)⟩
    rw [List.map_map]; rfl
def callOf : Op → Option (Operand × List Operand)
  | .call ⟨.value f, args, _⟩ => some (f, args.toList)
  | _ => none
theorem callOf_eq {o : Op} {f : Operand} {args : List Operand} (h : callOf o = some (f, args)) : ∃ aa ts, o = .call ⟨.value f, aa, ts⟩ ∧ aa.toList = args := by
  unfold callOf at h
  split at h
  · cases h; exact ⟨_, _, rfl, rfl⟩
  · cases h
def sCallV (T : Tab P) (call : CallF) (g : Gm) (fr : List SV) (m : SMem) (f : SV) (args : List SV) (next : Gm → SV → SMem → Tr) : Tr := match f with
  | .a (.s (.fn (.func n) fs cs)) => bif T.fn n then (call n g (fs.map C0.sv ++ args ++ cs.map C0.sv) m).bind fun x g' fr' m' => match x, fr' with
    | .ret, [v] => bif Nat.beq g'.nv g.nv || scF g.nv fr then next g' v m' else .fl 1
    | _, _ => .fl 2
    else .fl 3
  | _ => .fl 4
theorem sCallV_ok {n₀ : Nat} {T : Tab P} {call : CallF} (hc : CallOk T call) {g : Gm} {fr : List SV} {m : SMem} {f : Operand} {fa : Array Operand} {ts : Array TypeId} {ρ : Operand → SV} {next : Gm → SV → SMem → Tr} {e : En} {J : JJ} {K : KK} (hg : g.ok e)
    (h : (sCallV T call g fr m (ρ f) (fa.toList.map ρ) next).holds K e J) {k : Value → Mem → Prop} (hk : ∀ g' e' J' v m', At g e J g' e' J' → denF e' fr = denF e fr → (next g' v m').holds K e' J' → k (v.den e') (denM e' m')) :
    evOp (propA P n₀).toOps T (.call ⟨.value f, fa, ts⟩) (fun x => (ρ x).den e) (denM e m) k := by
  unfold sCallV at h
  split at h
  case h_2 => exact h.elim
  rename_i n fs cs hf
  cases hfn : T.fn n with
  | false => rw [hfn] at h; exact h.elim
  | true =>
    rw [hfn] at h
    simp only [cond_true] at h
    have h := Tr.holds_bind _ _ _ h
    unfold evOp evCall
    simp only [hf, SV.den, SA.den, SS.den, hfn, if_true]
    have hargs : (fs.map C0.sv ++ fa.toList.map ρ ++ cs.map C0.sv).map (SV.den e) = fs.map (C0.den e) ++ fa.toList.map (fun x => (ρ x).den e) ++ cs.map (C0.den e) := by
      have hcs : (SV.den e ∘ C0.sv) = C0.den e := funext (C0.sv_den e)
      simp only [List.map_append, List.map_map, hcs]
      rfl
    have := hc n g _ m e J _ k hg hfn h (by
      intro g' e' J' x fr' m' hat hK
      split at hK
      · rename_i v
        cases hq : Nat.beq g'.nv g.nv || scF g.nv fr with
        | false => rw [hq] at hK; exact hK.elim
        | true =>
          rw [hq] at hK
          refine ⟨v, rfl, rfl, hk g' e' J' v m' hat ?_ hK⟩
          rw [Bool.or_eq_true] at hq
          rcases hq with hq | hq
          · rw [hat.eq (Nat.eq_of_beq_eq_true hq)]
          · exact scF_den hat.ag hq
      · exact hK.elim)
    rw [hargs] at this
    exact this
def keepsM : Op → Bool
  | .alloc _ | .box _ _ | .buildSlice _ _ _ | .makeSlice _ _ _ | .store _ _ _ => false
  | .call ⟨.builtin .append, _, _⟩ => false
  | .call ⟨.builtin .len, _, _⟩ => true
  | .call _ => false
  | _ => true
theorem keepsM_ok {g : Gm} {T : Tab P} {o : Op} {ρ : Operand → SV} {m m' : SMem} {ns : List X} {v : SV} (hk : keepsM o = true) (h : sOp g T o ρ m = some (ns, v, m')) : m' = m := by
  cases o with
  | move x => cases h; rfl
  | assign x => cases h; rfl
  | alloc _ => cases hk
  | box _ _ => cases hk
  | buildSlice _ _ _ => cases hk
  | makeSlice _ _ _ => cases hk
  | store _ _ _ => cases hk
  | nilCheck x =>
    unfold sOp at h
    simp only at h
    split at h
    · cases h; rfl
    · cases h
  | slice t x lo hi mx =>
    cases mx with
    | some _ => cases h
    | none => obtain ⟨r, _, h2⟩ := map_some h; cases h2; rfl
  | extract x i =>
    unfold sOp at h
    simp only at h
    split at h
    · obtain ⟨r, _, h2⟩ := map_some h; cases h2; rfl
    · cases h
  | call c =>
    obtain ⟨callee, args, ts⟩ := c
    cases callee with
    | builtin b =>
      cases b with
      | len =>
        unfold sOp sBuiltin at h
        simp only at h
        split at h
        · obtain ⟨r, _, h2⟩ := map_some h; cases h2; rfl
        · rename_i heq _ _; cases heq
        · rename_i heq _; cases heq
        · rename_i heq _; cases heq
        · cases h
      | _ => cases hk
    | _ => cases hk
  | pick _ _ _ => obtain ⟨r, _, h2⟩ := map_some h; cases h2; rfl
  | makeFunc _ _ _ => obtain ⟨r, _, h2⟩ := map_some h; cases h2; rfl
  | build _ _ => obtain ⟨r, _, h2⟩ := map_some h; cases h2; rfl
  | load _ _ => obtain ⟨r, _, h2⟩ := map_some h; cases h2; rfl
  | binOp _ _ _ _ _ => obtain ⟨r, _, h2⟩ := map_some h; cases h2; rfl
  | unOp _ _ _ => obtain ⟨r, _, h2⟩ := map_some h; cases h2; rfl
  | convert _ _ _ => obtain ⟨r, _, h2⟩ := map_some h; cases h2; rfl
  | fieldAddr _ _ _ => obtain ⟨r, _, h2⟩ := map_some h; cases h2; rfl
  | field _ _ _ => obtain ⟨r, _, h2⟩ := map_some h; cases h2; rfl
  | indexAddr _ _ _ => obtain ⟨r, _, h2⟩ := map_some h; cases h2; rfl
  | index _ _ _ => obtain ⟨r, _, h2⟩ := map_some h; cases h2; rfl
  | _ => cases h
def mkImp (c n : X) : X := match n with
  | .b true => .b true
  | n => .o .or (mkNot c) n
theorem mkImp_all {e : En} {c : X} {ns : List X} (h : allB e (ns.map (mkImp c))) (hc : c.B e = true) : allB e ns := by
  intro n hn
  have := h (mkImp c n) (List.mem_map.2 ⟨n, hn, rfl⟩)
  have : ((mkNot c).B e || n.B e) = true := by
    unfold mkImp at this
    split at this
    · show (_ || true) = true
      rw [Bool.or_true]
    · exact this
  rw [mkNot_B, hc] at this
  simpa using this
def guardC (c : X) (want : Bool) : X := bif want then c else mkNot c
theorem guardC_B (e : En) (c : X) (want : Bool) : (guardC c want).B e = (c.B e == want) := by
  cases want with
  | true => show c.B e = (c.B e == true); cases c.B e <;> rfl
  | false => show (mkNot c).B e = (c.B e == false); rw [mkNot_B]; cases c.B e <;> rfl
def opTag : Op → Nat
  | .move _ => 1 | .assign _ => 2 | .pick _ _ _ => 3 | .alloc _ => 4 | .box _ _ => 5 | .build _ _ => 6 | .buildSlice _ _ _ => 7 | .load _ _ => 8 | .store _ _ _ => 9 | .nilCheck _ => 10
  | .binOp _ _ _ _ _ => 11 | .unOp _ _ _ => 12 | .convert _ _ _ => 13 | .slice _ _ _ _ _ => 14 | .fieldAddr _ _ _ => 15 | .field _ _ _ => 16 | .indexAddr _ _ _ => 17 | .index _ _ _ => 18 | .extract _ _ => 19
  | .makeFunc _ _ _ => 20 | .call ⟨.builtin .append, _, _⟩ => 21 | .call ⟨.builtin .len, _, _⟩ => 22 | .call ⟨.builtin .copy, _, _⟩ => 23 | .call _ => 24 | .makeSlice _ _ _ => 25 | _ => 26
def sRun (T : Tab P) (call : CallF) (o : Oper) (g : Gm) (fr : List SV) (m : SMem) (next : Gm → SV → SMem → Tr) : Tr := match callOf o.op with
  | some (f, args) => sCallV T call g fr m (rd g fr f) (args.map (rd g fr)) next
  | none => match sOp g T o.op (rd g fr) m with
    | some (ns, v, m') => ndA g ns fun g => next g v m'
    | none => .fl (500 + opTag o.op)
def guardOf (all : List Oper) (g : Gm) (fr : List SV) (j : Nat) (want : Bool) : Option X := match ((atL all j).bind (·.dst)).bind (atL fr) with
  | some v => match res g v with
    | .a (.s (.z (.b c))) => some (guardC c want)
    | .tu _ => some (.b false)
    | .gd d (.s (.z (.b c))) => some (mkAnd d (guardC c want))
    | _ => none
  | none => none
def sGuard (T : Tab P) (call : CallF) (o : Oper) (g : Gm) (fr : List SV) (m : SMem) (c : X) (next : Gm → SV → SMem → Tr) : Tr :=
  match known g c with
  | .b true => sRun T call o g fr m next
  | .b false => next g .undef m
  | c => match (bif keepsM o.op then sOp (assume g c) T o.op (rd (assume g c) fr) m else none) with
    | some (ns, .a x, _) => ndsT (ns.map (mkImp c)) (next g (.gd c x) m)
    | _ => .br c (sRun T call o (assume g c) fr m next) (next (assume g (mkNot c)) .undef m)
def sOps (T : Tab P) (call : CallF) (all : List Oper) : List Oper → Gm → List SV → SMem → Tr
  | [], g, fr, m => .lf .normal g fr m
  | o :: rest, g, fr, m => match o.guard with
    | none => sRun T call o g fr m fun g v m => putK fr o.dst v fun fr => bif keepsM o.op then sOps T call all rest g fr m else memK m fun m => sOps T call all rest g fr m
    | some (j, want) => match guardOf all g fr j want with
      | some c => sGuard T call o g fr m c fun g v m => putK fr o.dst v fun fr => bif keepsM o.op then sOps T call all rest g fr m else memK m fun m => sOps T call all rest g fr m
      | none => .fl 6
theorem sRun_ok {n₀ : Nat} {T : Tab P} {call : CallF} (hc : CallOk T call) {o : Oper} {g : Gm} {fr : List SV} {m : SMem} {next : Gm → SV → SMem → Tr} {e : En} {J : JJ} {K : KK} (hg : g.ok e) (h : (sRun T call o g fr m next).holds K e J) {k : Value → Mem → Prop}
    (hk : ∀ g' e' J' v m', At g e J g' e' J' → denF e' fr = denF e fr → (next g' v m').holds K e' J' → k (v.den e') (denM e' m')) : evOp (propA P n₀).toOps T o.op (aeval (denF e fr)) (denM e m) k := by
  have hρ : (fun x => (rd g fr x).den e) = aeval (denF e fr) := funext fun x => rd_den hg fr x
  rw [← hρ]
  unfold sRun at h
  split at h
  · rename_i f args hco
    obtain ⟨aa, ts, ho, haa⟩ := callOf_eq hco
    rw [ho]
    rw [← haa] at h
    exact sCallV_ok hc hg h hk
  · split at h
    case h_2 => exact h.elim
    rename_i ns v m' hs
    rw [ndA_eq] at h
    obtain ⟨hn, h⟩ := ndsT_holds h
    obtain ⟨h1, h2⟩ := assumes_ok (g := g) hg hn
    exact sOp_ok hg hs hn (hk _ e J v m' (.same h1 h2) rfl h)
theorem guardOf_ok {all : List Oper} {g : Gm} {e : En} (hg : g.ok e) {fr : List SV} {j : Nat} {want : Bool} {c : X} (h : guardOf all g fr j want = some c) :
    (∃ b, ((all[j]?).bind (·.dst)).bind ((denF e fr)[·]?) = some (.bool b) ∧ c.B e = (b == want)) ∨ (∃ l, ((all[j]?).bind (·.dst)).bind ((denF e fr)[·]?) = some (.tuple l) ∧ c.B e = false) := by
  unfold guardOf at h
  rw [atL_eq, show (atL fr) = fun t => fr[t]? from funext (atL_eq fr)] at h
  split at h
  case h_2 => cases h
  rename_i v hv
  have hv' : ((all[j]?).bind (·.dst)).bind ((denF e fr)[·]?) = some (v.den e) := by
    cases ho : (all[j]?).bind (·.dst) with
    | none => rw [ho] at hv; cases hv
    | some t =>
      rw [ho] at hv
      simp only [Option.bind_some] at hv ⊢
      simp only [denF, List.getElem?_map, hv]; rfl
  have hr := res_den hg v
  rw [hv', ← hr]
  split at h
  · rename_i c' hc'
    cases h
    refine .inl ⟨c'.B e, ?_, guardC_B e c' want⟩
    rw [hc']; rfl
  · rename_i l hc'
    cases h
    refine .inr ⟨⟨l.map (SA.den e)⟩, ?_, rfl⟩
    rw [hc']; rfl
  · rename_i d c' hc'
    cases h
    rw [hc']
    show (∃ b, some (bif d.B e then Value.bool (c'.B e) else Go.undef) = some (.bool b) ∧ _) ∨ _
    cases hd : d.B e with
    | true =>
      refine .inl ⟨c'.B e, rfl, ?_⟩
      rw [mkAnd_B, hd, guardC_B]; rfl
    | false =>
      refine .inr ⟨#[], ?_, ?_⟩
      · show some (bif d.B e then _ else _) = _
        rw [hd]; rfl
      · rw [mkAnd_B, hd]; rfl
  · cases h
theorem sGuard_ok {n₀ : Nat} {T : Tab P} {call : CallF} (hc : CallOk T call) {o : Oper} {g : Gm} {fr : List SV} {m : SMem} {next : Gm → SV → SMem → Tr} {c : X} {e : En} {J : JJ} {K : KK} (hg : g.ok e) (h : (sGuard T call o g fr m c next).holds K e J) {k : Value → Mem → Prop}
    (hk : ∀ g' e' J' v m', At g e J g' e' J' → denF e' fr = denF e fr → (next g' v m').holds K e' J' → k (v.den e') (denM e' m')) :
    (c.B e = true → evOp (propA P n₀).toOps T o.op (aeval (denF e fr)) (denM e m) k) ∧ (c.B e = false → k Go.undef (denM e m)) := by
  have hkn := known_B hg c
  unfold sGuard at h
  split at h
  · rename_i hq
    rw [hq] at hkn
    refine ⟨fun _ => sRun_ok hc hg h hk, fun hf => ?_⟩
    rw [← hkn] at hf; cases hf
  · rename_i hq
    rw [hq] at hkn
    refine ⟨fun ht => ?_, fun _ => hk g e J .undef m (.refl hg) rfl h⟩
    rw [← hkn] at ht; cases ht
  · split at h
    · rename_i ns x m1 hs
      cases hko : keepsM o.op with
      | false => rw [hko] at hs; cases hs
      | true =>
        rw [hko] at hs
        simp only [cond_true] at hs
        obtain ⟨hn, h⟩ := ndsT_holds h
        have hden := hk g e J _ m (.refl hg) rfl h
        refine ⟨fun ht => ?_, fun hf => ?_⟩
        · rw [← hkn] at ht
          obtain ⟨h1, h2⟩ := assume_ok hg ht
          have hρ : (fun x => (rd (assume g (known g c)) fr x).den e) = aeval (denF e fr) := funext fun x => rd_den h1 fr x
          rw [← hρ]
          have := keepsM_ok hko hs
          subst this
          refine sOp_ok h1 hs (mkImp_all hn ht) ?_
          have hden : k (bif (known g c).B e then x.den e else Go.undef) (denM e _) := hden
          rw [ht] at hden
          exact hden
        · rw [← hkn] at hf
          have hden : k (bif (known g c).B e then x.den e else Go.undef) (denM e _) := hden
          rw [hf] at hden
          exact hden
    · refine ⟨fun ht => ?_, fun hf => ?_⟩
      · rw [← hkn] at ht
        obtain ⟨h1, h2⟩ := assume_ok hg ht
        refine sRun_ok hc h1 (h.1 ht) fun g' e' J' v m' hat hd hn => hk g' e' J' v m' ((At.same h1 h2).trans hat) hd hn
      · rw [← hkn] at hf
        have hf' : (mkNot (known g c)).B e = true := by rw [mkNot_B, hf]; rfl
        obtain ⟨h1, h2⟩ := assume_ok hg hf'
        exact hk _ e J .undef m (.same h1 h2) rfl (h.2 hf)
theorem sOps_ok {n₀ : Nat} {T : Tab P} {call : CallF} (hc : CallOk T call) {all : List Oper} {k : List Value → Mem → Prop} {K : KK} : ∀ (l : List Oper) (g : Gm) (fr : List SV) (m : SMem) (e : En) (J : JJ), g.ok e → (sOps T call all l g fr m).holds K e J →
    (∀ g' e' J' fr' m', At g e J g' e' J' → K e' J' .normal g' fr' m' → k (denF e' fr') (denM e' m')) → evOpsF (propA P n₀).toOps T all l (denF e fr) (denM e m) k
  | [], g, fr, m, e, J, hg, h, hk => hk g e J fr m (.refl hg) h
  | o :: rest, g, fr, m, e, J, hg, h, hk => by
    have next : ∀ g' e' J' v m', At g e J g' e' J' → denF e' fr = denF e fr → (putK fr o.dst v fun fr => bif keepsM o.op then sOps T call all rest g' fr m' else memK m' fun m => sOps T call all rest g' fr m).holds K e' J' → laidF (denF e fr) o.dst (v.den e') fun a => evOpsF (propA P n₀).toOps T all rest a (denM e' m') k := by
      intro g' e' J' v m' hat hd hn
      rw [putK_eq] at hn
      have hn : (sOps T call all rest g' (putS fr o.dst v) m').holds K e' J' := by
        cases hkm : keepsM o.op with
        | true => rw [hkm] at hn; exact hn
        | false => rw [hkm] at hn; simp only [cond_false, memK_eq] at hn; exact hn
      rw [laidF_eq, ← hd, ← putS_den]
      exact sOps_ok hc rest g' _ m' e' J' hat.ok hn fun g'' e'' J'' fr'' m'' hat' hK => hk g'' e'' J'' fr'' m'' (hat.trans hat') hK
    unfold sOps at h
    unfold evOpsF
    split at h
    · rename_i hgd
      simp only [hgd]
      exact sRun_ok (k := fun v m' => laidF (denF e fr) o.dst v fun a => evOpsF (propA P n₀).toOps T all rest a m' k) hc hg h next
    · rename_i j want hgd
      simp only [hgd]
      split at h
      case h_2 => exact h.elim
      rename_i c hcq
      obtain ⟨h1, h2⟩ := sGuard_ok (k := fun v m' => laidF (denF e fr) o.dst v fun a => evOpsF (propA P n₀).toOps T all rest a m' k) hc hg h next
      rcases guardOf_ok hg hcq with ⟨b, hb, hcb⟩ | ⟨l, hl, hcb⟩
      · simp only [hb]
        exact ⟨fun ht => h1 (by rw [hcb]; exact ht), fun hf => h2 (by rw [hcb]; exact hf)⟩
      · simp only [hl]
        exact h2 hcb
end Go.SX
end
