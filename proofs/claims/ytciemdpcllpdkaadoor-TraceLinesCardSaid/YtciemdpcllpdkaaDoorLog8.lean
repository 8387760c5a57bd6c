/-
  An abstract logic for the model, and a symbolic executor over it (part 8). Conditions: none.
-/
import Derived.Test.YtciemdpcllpdkaaDoorLog7
set_option linter.unusedVariables false
set_option linter.unusedSimpArgs false
set_option linter.unnecessarySimpa false
set_option linter.constructorNameAsVariable false
noncomputable section
namespace Go.SX
set_option linter.unusedSectionVars false
open Go Go.AE
set_option linter.constructorNameAsVariable false
set_option linter.unusedSimpArgs false
set_option linter.unusedVariables false
variable {P : Program} [Fam]
def gcT (n₀ : Nat) (x : Exit) (g : Gm) (fr : List SV) (m : SMem) : Tr := match x, fr with
  | .ret, [v] => bif Nat.blt n₀ m.length && seesB n₀ g.nv [] [] [v] (m.take n₀) [v] m then .lf .ret g [v] (m.take n₀) else .lf .ret g [v] m
  | x, fr => .lf x g fr m
theorem ext_nil (e : En) (b : Nat) : e.ext b [] = e := by
  cases e with
  | mk ρ =>
    show En.mk _ = En.mk _
    congr 1
    funext n
    show (bif Nat.ble b n && Nat.blt n (b + 0) then _ else ρ n) = ρ n
    cases h : Nat.ble b n with
    | false => rfl
    | true =>
      have := Nat.le_of_ble_eq_true h
      have h2 : Nat.blt n (b + 0) = false := by
        cases h2 : Nat.blt n (b + 0) with
        | false => rfl
        | true => rw [Nat.blt_eq] at h2; omega
      rw [h2]; rfl
theorem gc_ok {T : Tab P} {n : FuncId} {t : Gm → List SV → SMem → Tr}
    (ht : ∀ (g : Gm) (args : List SV) (m : SMem) (e : En) (J : JJ) (K : KK) (KV : Value → Mem → Prop), g.ok e → (t g args m).holds K e J → (∀ g' e' J' x fr' m', At g e J g' e' J' → K e' J' x g' fr' m' → ∃ v, x = .ret ∧ fr' = [v] ∧ KV (v.den e') (denM e' m')) → ACall P n (args.map (SV.den e)) (denM e m) KV)
    {g : Gm} {args : List SV} {m : SMem} {e : En} {J : JJ} {K : KK} {KV : Value → Mem → Prop} (hg : g.ok e) (h : ((t g args m).bind (gcT m.length)).holds K e J)
    (hk : ∀ g' e' J' x fr' m', At g e J g' e' J' → K e' J' x g' fr' m' → ∃ v, x = .ret ∧ fr' = [v] ∧ KV (v.den e') (denM e' m')) : ACall P n (args.map (SV.den e)) (denM e m) KV := by
  refine ACall.sees (K' := fun v m' => ∃ v2 m2, Sees m.length [v] m' [v2] m2 ∧ KV v2 m2) (ht g args m e J _ _ hg (Tr.holds_bind _ _ _ h) ?_) (by rw [denM_len]; exact fun v m' h => h)
  intro g' e' J' x fr' m' hat hK
  have same : (Tr.lf x g' fr' m').holds K e' J' → ∃ v, x = .ret ∧ fr' = [v] ∧ ∃ v2 m2, Sees m.length [v.den e'] (denM e' m') [v2] m2 ∧ KV v2 m2 := by
    intro hK
    obtain ⟨v, h1, h2, h3⟩ := hk g' e' J' x fr' m' hat hK
    exact ⟨v, h1, h2, _, _, Sees.refl _ _ _, h3⟩
  unfold gcT at hK
  split at hK
  · rename_i v
    cases hq : Nat.blt m.length m'.length && seesB m.length g'.nv [] [] [v] (m'.take m.length) [v] m' with
    | false => rw [hq] at hK; exact same hK
    | true =>
      rw [hq] at hK
      rw [Bool.and_eq_true] at hq
      obtain ⟨v', _, h2, h3⟩ := hk g' e' J' .ret [v] (m'.take m.length) hat hK
      cases h2
      have := seesB_ok hq.2 (e := e') (e' := e') fun _ _ => rfl
      rw [List.map_nil, ext_nil] at this
      exact ⟨v, rfl, rfl, _, _, this, h3⟩
  · exact same hK
def oneT : Tr → Option (List X × SV × SMem)
  | .nd c t => (oneT t).map fun r => (c :: r.1, r.2)
  | .lf .ret _ [v] m => some ([], v, m)
  | _ => none
def mgB (g : Gm) (c : X) (t u : Tr) : Tr := match oneT t, oneT u with
  | some (ns, v, m), some (ns', v', m') => match iteV c v v', zipO (iteB c) m m' with
    | some w, some mm => ndsT (ns.map (mkImp c) ++ ns'.map (mkImp (mkNot c))) (.lf .ret g [w] mm)
    | _, _ => .br c t u
  | _, _ => .br c t u
def mg (g : Gm) : Tr → Tr
  | .br c t u => mgB g c (mg g t) (mg g u)
  | .nd c t => .nd c (mg g t)
  | t => t
theorem oneT_holds {Q : KK} {e : En} {J : JJ} : ∀ {t : Tr} {ns : List X} {v : SV} {m : SMem}, oneT t = some (ns, v, m) → allB e ns → (∀ g, Q e J .ret g [v] m) → t.holds Q e J
  | .nd c t, ns, v, m, h, hn, hq => by
    obtain ⟨⟨ns0, v0, m0⟩, hr, h2⟩ := map_some h
    cases h2
    rw [allB_cons] at hn
    exact ⟨hn.1, oneT_holds hr hn.2 hq⟩
  | .lf x g fr m0, ns, v, m, h, _, hq => by
    unfold oneT at h
    split at h
    · rename_i heq; cases heq
    · rename_i heq
      cases heq
      cases h
      exact hq _
    · cases h
  | .br _ _ _, _, _, _, h, _, _ => by cases h
  | .fl _, _, _, _, h, _, _ => by cases h
  | .ag _ _, _, _, _, h, _, _ => by cases h
  | .lp _ _ _ _, _, _, _, h, _, _ => by cases h
  | .gv _ _ _, _, _, _, h, _, _ => by cases h
def ByDen (Q : KK) : Prop := ∀ e J x g fr m g' fr' m', denF e fr = denF e fr' → denM e m = denM e m' → Q e J x g fr m → Q e J x g' fr' m'
def rs (g : Gm) : Tr → Tr
  | .lf x _ fr m => .lf x g fr m
  | .br c t u => .br c (rs g t) (rs g u)
  | .nd c t => .nd c (rs g t)
  | t => t
theorem mg_ok {Q : KK} (hQ : ByDen Q) {g : Gm} {e : En} {J : JJ} : ∀ {t : Tr} {K : KK}, (∀ x fr m, K e J x g fr m → Q e J x g fr m) → t.flat = true → (mg g (rs g t)).holds K e J → t.holds Q e J
  | .br c t u, K, hKQ, hf, h => by
    have h : (mgB g c (mg g (rs g t)) (mg g (rs g u))).holds K e J := h
    simp only [Tr.flat, Bool.and_eq_true] at hf
    unfold mgB at h
    split at h
    · rename_i ns v m ns' v' m' h1 h2
      split at h
      · rename_i w mm hw hm
        obtain ⟨hn, hl⟩ := ndsT_holds h
        rw [allB_app] at hn
        have hl : Q e J .ret g [w] mm := hKQ _ _ _ hl
        have dv := iteV_den (e := e) hw
        have dm : denM e mm = bif c.B e then denM e m else denM e m' := zipO_ok (d := fun b : Option SBlk => b.map (SBlk.den e)) (c := c.B e) (fun x y z hz => iteB_den hz) hm
        refine ⟨fun hc => mg_ok hQ (K := Q) (fun _ _ _ h => h) hf.1 (oneT_holds h1 (mkImp_all hn.1 hc) fun g' => ?_), fun hc => mg_ok hQ (K := Q) (fun _ _ _ h => h) hf.2 (oneT_holds h2 (mkImp_all hn.2 (by rw [mkNot_B, hc]; rfl)) fun g' => ?_)⟩
        · rw [hc] at dv dm
          exact hQ _ _ _ _ _ _ _ _ _ (by simp only [denF, List.map_cons, List.map_nil, dv]; rfl) dm hl
        · rw [hc] at dv dm
          exact hQ _ _ _ _ _ _ _ _ _ (by simp only [denF, List.map_cons, List.map_nil, dv]; rfl) dm hl
      · exact ⟨fun hc => mg_ok hQ hKQ hf.1 (h.1 hc), fun hc => mg_ok hQ hKQ hf.2 (h.2 hc)⟩
    · exact ⟨fun hc => mg_ok hQ hKQ hf.1 (h.1 hc), fun hc => mg_ok hQ hKQ hf.2 (h.2 hc)⟩
  | .nd c t, K, hKQ, hf, h => ⟨h.1, mg_ok hQ (t := t) hKQ hf h.2⟩
  | .lf x g' fr m, K, hKQ, _, h => hQ _ _ _ _ _ _ _ _ _ rfl rfl (hKQ _ _ _ h)
  | .fl _, _, _, _, h => h.elim
  | .ag _ _, _, _, hf, _ => by cases hf
  | .lp _ _ _ _, _, _, hf, _ => by cases hf
  | .gv _ _ _, _, _, hf, _ => by cases hf
def KV' (fr : List SV) (e : En) (v : Value) : Prop := denF e fr = [v]
def tidy (g : Gm) (t : Tr) : Tr := bif t.flat then mg g (rs g t) else t
theorem tidy_ok {n : FuncId} {t : Gm → List SV → SMem → Tr}
    (ht : ∀ (g : Gm) (args : List SV) (m : SMem) (e : En) (J : JJ) (K : KK) (KV : Value → Mem → Prop), g.ok e → (t g args m).holds K e J → (∀ g' e' J' x fr' m', At g e J g' e' J' → K e' J' x g' fr' m' → ∃ v, x = .ret ∧ fr' = [v] ∧ KV (v.den e') (denM e' m')) → ACall P n (args.map (SV.den e)) (denM e m) KV)
    {g : Gm} {args : List SV} {m : SMem} {e : En} {J : JJ} {K : KK} {KV : Value → Mem → Prop} (hg : g.ok e) (h : (tidy g (t g args m)).holds K e J)
    (hk : ∀ g' e' J' x fr' m', At g e J g' e' J' → K e' J' x g' fr' m' → ∃ v, x = .ret ∧ fr' = [v] ∧ KV (v.den e') (denM e' m')) : ACall P n (args.map (SV.den e)) (denM e m) KV := by
  unfold tidy at h
  cases hf : (t g args m).flat with
  | false => rw [hf] at h; exact ht g args m e J K KV hg h hk
  | true =>
    rw [hf] at h
    refine ht g args m e J (fun e' J' x g' fr' m' => ∃ v, x = .ret ∧ KV' fr' e' v ∧ KV v (denM e' m')) KV hg (mg_ok ?_ (K := K) ?_ hf h) ?_
    · rintro e J x g fr m g' fr' m' h1 h2 ⟨v, hx, hv, hkv⟩
      exact ⟨v, hx, by unfold KV' at hv ⊢; rw [← h1]; exact hv, by rw [← h2]; exact hkv⟩
    · intro x fr m hK
      obtain ⟨v, h1, h2, h3⟩ := hk g e J x fr m (.refl hg) hK
      exact ⟨v.den e, h1, by rw [h2]; rfl, h3⟩
    · rintro g' e' J' x fr' m' _ ⟨v, hx, hv, hkv⟩
      unfold KV' denF at hv
      match fr', hv with
      | [u], hv =>
        simp only [List.map_cons, List.map_nil, List.cons.injEq, and_true] at hv
        exact ⟨u, hx, rfl, by rw [hv]; exact hkv⟩
def sCalls (T : Tab P) (W : FuncId → Nat → List (Hint P)) (C : FuncId → Option CallF) (cf : Nat) : Nat → CallF
  | 0, _, _, _, _ => .fl 70
  | d + 1, n, g, args, m => match C n with
    | some c => c n g args m
    | none => match P.funcs[n]? with
      | some fn => (match fn.body with
        | some code => tidy g ((sFn T (sCalls T W C cf d) (W n) cf fn code g args m).bind (gcT m.length))
        | none => .fl 71)
      | none => .fl 72
def ConOk (T : Tab P) (n : FuncId) (call : CallF) : Prop := ∀ (g : Gm) (args : List SV) (m : SMem) (e : En) (J : JJ) (K : KK) (KV : Value → Mem → Prop), g.ok e → (call n g args m).holds K e J →
  (∀ g' e' J' x fr' m', At g e J g' e' J' → K e' J' x g' fr' m' → ∃ v, x = .ret ∧ fr' = [v] ∧ KV (v.den e') (denM e' m')) → ACall P n (args.map (SV.den e)) (denM e m) KV
theorem sCalls_ok {T : Tab P} {W : FuncId → Nat → List (Hint P)} {C : FuncId → Option CallF} (hC : ∀ n c, C n = some c → ConOk T n c) {cf : Nat} : ∀ d : Nat, CallOk T (sCalls T W C cf d)
  | 0, _, _, _, _, _, _, _, _, _, _, h, _ => h.elim
  | d + 1, n, g, args, m, e, J, K, KV, hg, hfn, h, hk => by
    unfold sCalls at h
    split at h
    · rename_i c hc
      exact hC n c hc g args m e J K KV hg h hk
    · split at h
      · rename_i fn hf
        split at h
        · rename_i code hb
          refine tidy_ok (t := fun g args m => (sFn T (sCalls T W C cf d) (W n) cf fn code g args m).bind (gcT m.length)) ?_ hg h hk
          intro g args m e J K KV hg h hk
          refine gc_ok (T := T) (t := sFn T (sCalls T W C cf d) (W n) cf fn code) ?_ hg h hk
          intro g args m e J K KV hg h hk
          exact sFn_ok (sCalls_ok hC d) hf hb hg h hk
        · exact h.elim
      · exact h.elim
end Go.SX
end
noncomputable section
namespace Go.SX
set_option linter.unusedSectionVars false
open Go Go.AE
set_option linter.constructorNameAsVariable false
set_option linter.unusedSimpArgs false
set_option linter.unusedVariables false
variable {P : Program} [Fam]
abbrev ConF := Gm → List SV → SMem → Option (List X × SV × SMem)
def conCall (f : ConF) : CallF := fun _ g args m => match f g args m with
  | some (ns, v, m') => ndsT ns (.lf .ret (assumes g ns) [v] m')
  | none => .fl 90
def Con (P : Program) (n : FuncId) (f : ConF) : Prop := ∀ (g : Gm) (args : List SV) (m : SMem) (ns : List X) (v : SV) (m' : SMem) (e : En), f g args m = some (ns, v, m') → g.ok e → allB e ns → ACall P n (args.map (SV.den e)) (denM e m) fun w m2 => w = v.den e ∧ m2 = denM e m'
theorem Con.ok {T : Tab P} {n : FuncId} {f : ConF} (h : Con P n f) : ConOk T n (conCall f) := by
  intro g args m e J K KV hg hh hk
  unfold conCall at hh
  split at hh
  case h_2 => exact hh.elim
  rename_i ns v m' hf
  obtain ⟨hn, hl⟩ := ndsT_holds hh
  obtain ⟨a1, a2⟩ := assumes_ok (g := g) hg hn
  refine (h g args m ns v m' e hf hg hn).mono ?_
  rintro w m2 ⟨rfl, rfl⟩
  obtain ⟨v2, _, hv, hkv⟩ := hk _ e J .ret [v] m' (At.same a1 a2) hl
  cases hv
  exact hkv
def conTab : List (FuncId × CallF) → FuncId → Option CallF
  | [], _ => none
  | (k, c) :: l, n => bif Nat.beq k n then some c else conTab l n
theorem conTab_ok {T : Tab P} : ∀ {l : List (FuncId × CallF)}, (∀ p ∈ l, ConOk T p.1 p.2) → ∀ n c, conTab l n = some c → ConOk T n c
  | [], _, _, _, h => by cases h
  | (k, c0) :: l, hl, n, c, h => by
    unfold conTab at h
    cases hk : Nat.beq k n with
    | true =>
      rw [hk] at h
      cases h
      have := Nat.eq_of_beq_eq_true hk
      subst this
      exact hl _ List.mem_cons_self
    | false => rw [hk] at h; exact conTab_ok (fun p hp => hl p (List.mem_cons_of_mem _ hp)) n c h
def S0.plain : S0 → Bool
  | .b _ | .i _ _ | .s _ | .p0 | .sl0 => true
  | _ => false
def SS.plain : SS → Bool
  | .z x => x.plain
  | .nf | .ni => true
  | _ => false
def SA.plain : SA → Bool
  | .s x => x.plain
  | .ag l => l.all SS.plain
def SV.plain : SV → Bool
  | .a x => x.plain
  | .tu l => l.all SA.plain
  | _ => false
theorem map_id_of {l : List SS} {e : En} {f : Value → Value} (h : ∀ x ∈ l, f (x.den e) = x.den e) : (l.map (SS.den e)).map f = l.map (SS.den e) := by
  rw [List.map_map]
  exact List.map_congr_left fun x hx => h x hx
theorem SS.ren_plain {x : SS} (h : x.plain = true) (e : En) (ρ : Nat → Nat) : renS ρ (x.den e) = x.den e := by
  cases x with
  | z x => cases x <;> first | rfl | cases h
  | fn => cases h
  | nf => rfl
  | ni => rfl
  | top => cases h
theorem SA.ren_plain {x : SA} (h : x.plain = true) (e : En) (ρ : Nat → Nat) : ren1 ρ (x.den e) = x.den e ∧ ren ρ (x.den e) = x.den e := by
  cases x with
  | s x =>
    have := SS.ren_plain h e ρ
    cases x with
    | z x => cases x <;> first | exact ⟨rfl, rfl⟩ | cases h
    | fn => cases h
    | nf => exact ⟨rfl, rfl⟩
    | ni => exact ⟨rfl, rfl⟩
    | top => cases h
  | ag l =>
    have := map_id_of (l := l) (e := e) (f := renS ρ) fun x hx => SS.ren_plain (List.all_eq_true.1 h x hx) e ρ
    exact ⟨congrArg (fun l => Value.agg ⟨l⟩) this, congrArg (fun l => Value.agg ⟨l⟩) this⟩
theorem SV.ren_plain {x : SV} (h : x.plain = true) (e : En) (ρ : Nat → Nat) : ren ρ (x.den e) = x.den e := by
  cases x with
  | a x => exact (SA.ren_plain h e ρ).2
  | tu l =>
    show Value.tuple ⟨(l.map (SA.den e)).map (ren1 ρ)⟩ = Value.tuple ⟨l.map (SA.den e)⟩
    rw [List.map_map]
    congr 2
    exact List.map_congr_left fun x hx => (SA.ren_plain (List.all_eq_true.1 h x hx) e ρ).1
  | gd => cases h
theorem ACall.anyMem {n : FuncId} {args : List Value} {v : Value} (h : ACall P n args [] fun w m2 => w = v ∧ m2 = []) (ha : args.all plainC = true) (hv : ∀ ρ, ren ρ v = v) (m : Mem) : ACall P n args m fun w m2 => w = v ∧ m2 = m := by
  have hl : args.all (low ([] : List Nat).length) = true := List.all_eq_true.2 fun x hx => by
    have := List.all_eq_true.1 ha x hx
    cases x with
    | pointer a => cases a with | none => rfl | some a => cases this
    | slice a n c => cases a with | none => rfl | some a => simp [plainC, plainS] at this
    | agg l =>
      obtain ⟨l⟩ := l
      refine List.all_eq_true.2 fun y hy => ?_
      have := List.all_eq_true.1 this y hy
      cases y with
      | pointer a => cases a with | none => rfl | some a => cases this
      | slice a n c => cases a with | none => rfl | some a => simp [plainS] at this
      | func fn f c => obtain ⟨f⟩ := f; obtain ⟨c⟩ := c; cases f <;> cases c <;> first | rfl | simp [plainS] at this
      | _ => rfl
    | tuple l => obtain ⟨l⟩ := l; cases l <;> first | rfl | simp [plainC, plainS] at this
    | func fn f c => obtain ⟨f⟩ := f; obtain ⟨c⟩ := c; cases f <;> cases c <;> first | rfl | simp [plainC, plainS] at this
    | _ => rfl
  have hp : args.map (ren (place [] m.length)) = args := by
    conv => rhs; rw [← List.map_id args]
    refine List.map_congr_left fun x hx => ?_
    have := List.all_eq_true.1 ha x hx
    cases x with
    | pointer a => cases a with | none => rfl | some a => cases this
    | slice a n c => cases a with | none => rfl | some a => simp [plainC, plainS] at this
    | agg l =>
      obtain ⟨l⟩ := l
      show Value.agg ⟨l.map (renS _)⟩ = Value.agg ⟨l⟩
      congr 2
      conv => rhs; rw [← List.map_id l]
      refine List.map_congr_left fun y hy => ?_
      have := List.all_eq_true.1 this y hy
      cases y with
      | pointer a => cases a with | none => rfl | some a => cases this
      | slice a n c => cases a with | none => rfl | some a => simp [plainS] at this
      | func fn f c => obtain ⟨f⟩ := f; obtain ⟨c⟩ := c; cases f <;> cases c <;> first | rfl | simp [plainS] at this
      | _ => rfl
    | tuple l => obtain ⟨l⟩ := l; cases l <;> first | rfl | simp [plainC, plainS] at this
    | func fn f c => obtain ⟨f⟩ := f; obtain ⟨c⟩ := c; cases f <;> cases c <;> first | rfl | simp [plainC, plainS] at this
    | _ => rfl
  have := ACall.frame (K := fun w nb => w = v ∧ nb = []) (h.mono fun w m2 ⟨h1, h2⟩ => ⟨[], by rw [h2]; rfl, rfl, h1, rfl⟩) m [] ⟨rfl, fun i b hb => by simp at hb⟩ (fun _ h => by cases h) hl
  rw [hp] at this
  refine this.mono ?_
  rintro w m2 ⟨v0, nb, ⟨rfl, hnb⟩, rfl, rfl⟩
  have : nb = [] := List.map_eq_nil_iff.1 hnb
  subst this
  exact ⟨hv _, by simp⟩
def envOf (ds : List D) : En := ⟨fun n => ds.getD n .u⟩
def cmp0 (e : En) : S0 → S0 → Bool
  | .b x, .b y => eqB (x.B e) (y.B e)
  | .i k x, .i k' y => eqK k k' && eqI (x.I e) (y.I e)
  | .s x, .s y => eqBs (x.S e) (y.S e)
  | .p0, .p0 => true
  | .sl0, .sl0 => true
  | _, _ => false
theorem cmp0_ok {e : En} {a b : S0} (h : cmp0 e a b = true) : a.den e = b.den e ∧ b.plain = true := by
  cases a <;> cases b <;> simp only [cmp0, Bool.and_eq_true, Bool.false_eq_true] at h
  · exact ⟨congrArg Value.bool (eqB_eq h), rfl⟩
  · exact ⟨by show Value.int _ _ = Value.int _ _; rw [eqK_eq h.1, eqI_eq h.2], rfl⟩
  · exact ⟨by show Value.string ⟨⟨_⟩⟩ = Value.string ⟨⟨_⟩⟩; rw [eqBs_eq h], rfl⟩
  · exact ⟨rfl, rfl⟩
  · exact ⟨rfl, rfl⟩
def cmpS (e : En) : SS → SS → Bool
  | .z x, .z y => cmp0 e x y
  | .nf, .nf => true
  | .ni, .ni => true
  | _, _ => false
theorem cmpS_ok {e : En} {a b : SS} (h : cmpS e a b = true) : a.den e = b.den e ∧ b.plain = true := by
  cases a <;> cases b <;> simp only [cmpS, Bool.false_eq_true] at h
  · exact cmp0_ok h
  · exact ⟨rfl, rfl⟩
  · exact ⟨rfl, rfl⟩
theorem eqL_map {α β : Type} {p : α → α → Bool} {f : α → β} {q : α → Bool} (hp : ∀ x y, p x y = true → f x = f y ∧ q y = true) : ∀ {l l' : List α}, eqL p l l' = true → l.map f = l'.map f ∧ l'.all q = true
  | [], [], _ => ⟨rfl, rfl⟩
  | x :: l, y :: l', h => by
    simp only [eqL, Bool.and_eq_true] at h
    obtain ⟨h1, h2⟩ := hp _ _ h.1
    obtain ⟨h3, h4⟩ := eqL_map hp h.2
    exact ⟨by rw [List.map_cons, List.map_cons, h1, h3], by rw [List.all_cons, h2, h4]; rfl⟩
  | [], _ :: _, h => by cases h
  | _ :: _, [], h => by cases h
def cmpA (e : En) : SA → SA → Bool
  | .s x, .s y => cmpS e x y
  | .ag l, .ag l' => eqL (cmpS e) l l'
  | _, _ => false
theorem cmpA_ok {e : En} {a b : SA} (h : cmpA e a b = true) : a.den e = b.den e ∧ b.plain = true := by
  cases a <;> cases b <;> simp only [cmpA, Bool.false_eq_true] at h
  · exact cmpS_ok h
  · rename_i l l'
    obtain ⟨h1, h2⟩ := eqL_map (f := SS.den e) (q := SS.plain) (fun _ _ h => cmpS_ok h) h
    exact ⟨by show Value.agg ⟨l.map _⟩ = Value.agg ⟨l'.map _⟩; rw [h1], h2⟩
def cmpV (e : En) : SV → SV → Bool
  | .a x, .a y => cmpA e x y
  | .tu l, .tu l' => eqL (cmpA e) l l'
  | _, _ => false
theorem cmpV_ok {e : En} {a b : SV} (h : cmpV e a b = true) : a.den e = b.den e ∧ b.plain = true := by
  cases a <;> cases b <;> simp only [cmpV, Bool.false_eq_true] at h
  · exact cmpA_ok h
  · rename_i l l'
    obtain ⟨h1, h2⟩ := eqL_map (f := SA.den e) (q := SA.plain) (fun _ _ h => cmpA_ok h) h
    exact ⟨by show Value.tuple ⟨l.map _⟩ = Value.tuple ⟨l'.map _⟩; rw [h1], h2⟩
def evT (e : En) (sp : SV) : Tr → Bool
  | .lf .ret _ [v] [] => cmpV e v sp
  | .br c t u => bif c.B e then evT e sp t else evT e sp u
  | .nd c t => c.B e && evT e sp t
  | _ => false
theorem evT_ok {e : En} {sp : SV} {J : JJ} : ∀ {t : Tr}, evT e sp t = true → t.holds (fun e' _ x _ fr' m' => ∃ v, x = .ret ∧ fr' = [v] ∧ v.den e' = sp.den e ∧ denM e' m' = []) e J ∧ sp.plain = true
  | .lf x g fr m, h => by
    unfold evT at h
    split at h
    · rename_i heq
      cases heq
      have h1 := cmpV_ok h
      exact ⟨⟨_, rfl, rfl, h1.1, rfl⟩, h1.2⟩
    · rename_i heq; cases heq
    · rename_i heq; cases heq
    · cases h
  | .br c t u, h => by
    unfold evT at h
    cases hc : c.B e with
    | true =>
      rw [hc] at h
      have h1 := evT_ok (J := J) h
      exact ⟨⟨fun _ => h1.1, fun hf => (by rw [hc] at hf; cases hf)⟩, h1.2⟩
    | false =>
      rw [hc] at h
      have h1 := evT_ok (J := J) h
      exact ⟨⟨fun hf => (by rw [hc] at hf; cases hf), fun _ => h1.1⟩, h1.2⟩
  | .nd c t, h => by
    simp only [evT, Bool.and_eq_true] at h
    have h1 := evT_ok (J := J) (t := t) h.2
    exact ⟨⟨h.1, h1.1⟩, h1.2⟩
  | .fl _, h => by cases h
  | .ag _ _, h => by cases h
  | .lp _ _ _ _, h => by cases h
  | .gv _ _ _, h => by cases h
def treeOf (T : Tab P) (W : FuncId → Nat → List (Hint P)) (C : FuncId → Option CallF) (cf d : Nat) (n : FuncId) (g : Gm) (args : List SV) (m : SMem) : Tr := sCalls T W C cf (d + 1) n g args m
theorem ACall.of_treeOf {T : Tab P} {W : FuncId → Nat → List (Hint P)} {C : FuncId → Option CallF} (hC : ∀ n c, C n = some c → ConOk T n c) {cf d : Nat} {n : FuncId} (hfn : T.fn n = true) {g : Gm} {args : List SV} {m : SMem} {e : En} {KV : Value → Mem → Prop} (hg : g.ok e)
    (h : (treeOf T W C cf d n g args m).holds (fun e' _ x _ fr' m' => ∃ v, x = .ret ∧ fr' = [v] ∧ KV (v.den e') (denM e' m')) e (fun _ _ => False)) : ACall P n (args.map (SV.den e)) (denM e m) KV :=
  sCalls_ok hC (d + 1) n g args m e _ _ KV hg hfn h fun _ _ _ _ _ _ _ h => h
theorem ACall.of_fin {T : Tab P} {W : FuncId → Nat → List (Hint P)} {C : FuncId → Option CallF} (hC : ∀ n c, C n = some c → ConOk T n c) {cf d : Nat} {n : FuncId} (hfn : T.fn n = true) {g : Gm} {args : List SV} {e : En} {sp : SV} (hg : g.ok e) (ha : (args.map (SV.den e)).all plainC = true)
    (h : evT e sp (treeOf T W C cf d n g args []) = true) (m : Mem) : ACall P n (args.map (SV.den e)) m fun w m2 => w = sp.den e ∧ m2 = m := by
  obtain ⟨h1, h2⟩ := evT_ok (J := fun _ _ => False) h
  have := ACall.of_treeOf (KV := fun w m2 => w = sp.den e ∧ m2 = []) hC hfn hg (Tr.holds_mono (fun _ _ _ _ _ _ ⟨v, a, b, c, d⟩ => ⟨v, a, b, c, d⟩) h1)
  exact ACall.anyMem this ha (SV.ren_plain h2 e) m
end Go.SX
end
noncomputable section
namespace Go.SX
set_option linter.unusedSectionVars false
open Go Go.AE
set_option linter.constructorNameAsVariable false
set_option linter.unusedSimpArgs false
set_option linter.unusedVariables false
variable {P : Program} [Fam]
def layX {R : Type} : X → (X → R) → R
  | .i n, k => k (.i n)
  | .b true, k => k (.b true)
  | .b false, k => k (.b false)
  | .s l, k => k (.s l)
  | .v n, k => k (.v n)
  | .u f x, k => layX x fun x => k (.u f x)
  | .o f x y, k => layX x fun x => layX y fun y => k (.o f x y)
  | .t q c x y, k => layX c fun c => layX x fun x => layX y fun y => k (.t q c x y)
  | .set x y z, k => layX x fun x => layX y fun y => layX z fun z => k (.set x y z)
  | .rset x y z, k => layX x fun x => layX y fun y => layX z fun z => k (.rset x y z)
  | .ap f x, k => layX x fun x => k (.ap f x)
  | .nil, k => k .nil
theorem layX_eq {R : Type} : ∀ (x : X) (k : X → R), layX x k = k x
  | .i _, _ | .b true, _ | .b false, _ | .s _, _ | .v _, _ | .nil, _ => rfl
  | .u _ x, k => layX_eq x _
  | .o _ x y, k => (layX_eq x _).trans (layX_eq y _)
  | .t _ c x y, k => (layX_eq c _).trans ((layX_eq x _).trans (layX_eq y _))
  | .set c x y, k => (layX_eq c _).trans ((layX_eq x _).trans (layX_eq y _))
  | .rset c x y, k => (layX_eq c _).trans ((layX_eq x _).trans (layX_eq y _))
  | .ap _ x, k => layX_eq x _
def gI (n : Nat) (hi : List Int) : Gm := ⟨n, hi.zipIdx.map fun p => ⟨.v p.2, ⟨some 0, some p.1⟩⟩, []⟩
theorem gI_ok {n : Nat} {hi : List Int} {e : En} (h : ∀ p ∈ hi.zipIdx, 0 ≤ (e.ρ p.2).toI ∧ (e.ρ p.2).toI ≤ p.1) : (gI n hi).ok e := ⟨fun f hf => by
  obtain ⟨p, hp, rfl⟩ := List.mem_map.1 hf
  exact Rg.has_mk (h p hp).1 (h p hp).2, fun c hc => by cases hc⟩
end Go.SX
end
noncomputable section
namespace Go.SX
set_option linter.unusedSectionVars false
open Go Go.AE
set_option linter.constructorNameAsVariable false
set_option linter.unusedSimpArgs false
set_option linter.unusedVariables false
variable {P : Program} [Fam]
mutual
def atI : X → Option X
  | .t .i c x y => atB c
  | .o _ x y => match atI x with | some a => some a | none => atI y
  | .u _ x => atI x
  | _ => none
def atB : X → Option X
  | .u .not x => atB x
  | .o .and x y => atB x
  | .o .or x y => atB x
  | .o .beq x y => atB x
  | .t .b c x y => atB c
  | .o .eq x y => match atI x with | some a => some a | none => match atI y with | some a => some a | none => some (.o .eq x y)
  | .o .lt x y => match atI x with | some a => some a | none => match atI y with | some a => some a | none => some (.o .lt x y)
  | .b _ => none
  | x => some x
end
def emptyR (r : Rg) : Bool := match r.lo, r.hi with
  | some a, some b => decide (b < a)
  | _, _ => false
theorem emptyR_ok {r : Rg} {n : Int} (h : emptyR r = true) (hr : r.has n) : False := by
  obtain ⟨rl, rh⟩ := r
  unfold emptyR at h
  cases rl <;> cases rh <;> simp only [Bool.false_eq_true] at h
  have h1 := hr.1 _ rfl
  have h2 := hr.2 _ rfl
  have := of_decide_eq_true h
  omega
def absurdG (g : Gm) (c : X) : Bool := (factsOf g c).any fun f => emptyR (rng (assume1 g c).fs f.e)
theorem absurdG_ok {g : Gm} {e : En} (hg : g.ok e) {c : X} (h : absurdG g c = true) : c.B e = false := by
  cases hc : c.B e with
  | false => rfl
  | true =>
    exfalso
    unfold absurdG at h
    rw [List.any_eq_true] at h
    obtain ⟨f, _, hf⟩ := h
    exact emptyR_ok hf (rng_ok (assume1_ok hg hc).fs f.e)
def excl (as : List X) (x : X) : Nat → Int → Int → Bool
  | 0, _, _ => false
  | n + 1, lo, hi => bif decide (hi < lo) then true else
    bif inAs (.u .not (.o .eq x (.i lo))) as then excl as x n (lo + 1) hi else
    bif inAs (.u .not (.o .eq x (.i hi))) as then excl as x n lo (hi - 1) else false
theorem not_eq_B {e : En} {x : X} {k : Int} (h : (X.u .not (.o .eq x (.i k))).B e = true) : x.I e ≠ k := by
  have h : (!decide (x.I e = k)) = true := h
  simpa using h
theorem excl_ok {e : En} {as : List X} (has : ∀ c ∈ as, c.B e = true) {x : X} : ∀ (n : Nat) (lo hi : Int), excl as x n lo hi = true → lo ≤ x.I e → x.I e ≤ hi → False
  | 0, _, _, h, _, _ => by cases h
  | n + 1, lo, hi, h, h1, h2 => by
    unfold excl at h
    cases hd : decide (hi < lo) with
    | true => have := of_decide_eq_true hd; omega
    | false =>
      rw [hd] at h
      simp only [cond_false] at h
      cases hl : inAs (.u .not (.o .eq x (.i lo))) as with
      | true =>
        rw [hl] at h
        have := not_eq_B (inAs_ok hl has)
        exact excl_ok has n (lo + 1) hi h (by omega) h2
      | false =>
        rw [hl] at h
        simp only [cond_false] at h
        cases hh : inAs (.u .not (.o .eq x (.i hi))) as with
        | true =>
          rw [hh] at h
          have := not_eq_B (inAs_ok hh has)
          exact excl_ok has n lo (hi - 1) h h1 (by omega)
        | false => rw [hh] at h; cases h
def isFalse : X → Bool
  | .b false => true
  | _ => false
theorem isFalse_ok {g : Gm} {e : En} (hg : g.ok e) {x : X} (h : isFalse (smB g x) = true) : x.B e = false := by
  rw [← smB_ok hg x]
  unfold isFalse at h
  split at h
  · rename_i hx; rw [hx]; rfl
  · cases h
def isTrue : X → Bool
  | .b true => true
  | _ => false
theorem isTrue_ok {g : Gm} {e : En} (hg : g.ok e) {x : X} (h : isTrue (smB g x) = true) : x.B e = true := by
  rw [← smB_ok hg x]
  unfold isTrue at h
  split at h
  · rename_i hx; rw [hx]; rfl
  · cases h
def orG (g : Gm) : X → Bool
  | .u .not (.o .and (.u .not p) (.u .not q)) => g.as.any fun c => eqX c (.o .or p q)
  | _ => false
theorem orG_ok {g : Gm} {e : En} (hg : g.ok e) {x : X} (h : orG g x = true) : x.B e = true := by
  unfold orG at h
  split at h
  · rename_i p q
    obtain ⟨c, hc, he⟩ := List.any_eq_true.1 h
    have := hg.as c hc
    rw [eqX_eq he] at this
    have this : (p.B e || q.B e) = true := this
    show (!(!p.B e && !q.B e)) = true
    rw [Bool.not_and, Bool.not_not, Bool.not_not]; exact this
  · cases h
def inG0 (g : Gm) (x : X) : Bool := isTrue (smB g x) || (g.as.any (fun c => eqX c x) || orG g x)
theorem inG0_ok {g : Gm} {e : En} (hg : g.ok e) {x : X} (h : inG0 g x = true) : x.B e = true := by
  unfold inG0 at h
  rw [Bool.or_eq_true, Bool.or_eq_true] at h
  rcases h with h | h | h
  · exact isTrue_ok hg h
  · obtain ⟨c, hc, he⟩ := List.any_eq_true.1 h
    rw [← eqX_eq he]; exact hg.as c hc
  · exact orG_ok hg h
def inG (g : Gm) : X → Bool
  | .o .and x y => inG0 g (.o .and x y) || (inG g x && inG g y)
  | x => inG0 g x
theorem inG_ok {g : Gm} {e : En} (hg : g.ok e) : ∀ {x : X}, inG g x = true → x.B e = true
  | .o .and x y, h => by
    unfold inG at h
    rw [Bool.or_eq_true, Bool.and_eq_true] at h
    rcases h with h | h
    · exact inG0_ok hg h
    · show (x.B e && y.B e) = true
      rw [inG_ok hg h.1, inG_ok hg h.2]; rfl
  | .i _, h | .b _, h | .s _, h | .v _, h | .nil, h | .ap _ _, h | .set _ _ _, h | .rset _ _ _, h | .t _ _ _ _, h | .u _ _, h => inG0_ok hg h
  | .o .add _ _, h | .o .sub _ _, h | .o .mul _ _, h | .o .ediv _ _, h | .o .emod _ _, h | .o (.bit _ _) _ _, h | .o .tdiv _ _, h | .o .tmod _ _, h | .o (.shl _) _ _, h | .o (.shr _) _ _, h | .o .eq _ _, h | .o .lt _ _, h | .o .beq _ _, h | .o .or _ _, h | .o .seq _ _, h | .o .req _ _, h | .o .slt _ _, h => inG0_ok hg h
  | .o .cat _ _, h | .o .nth _ _, h | .o .take _ _, h | .o .drop _ _, h | .o .pair _ _, h | .o .rcat _ _, h | .o .rtake _ _, h | .o .rdrop _ _, h | .o (.rI _) _ _, h | .o (.rB _) _ _, h | .o (.rS _) _ _, h => inG0_ok hg h
def deadC (g : Gm) (c : X) : Bool := match c with
  | .u .not (.o .eq x (.i _)) => (match (rng g.fs x).lo, (rng g.fs x).hi with
    | some a, some b => excl g.as x 300 a b
    | _, _ => false)
  | .u .not (.o .and x y) => inG g x && inG g y
  | .o .or x y => isFalse (smB g x) && isFalse (smB g y)
  | _ => false
def dead (g : Gm) : Bool := g.as.any fun c => deadC g c || (hasT c && isFalse (smB g c))
theorem dead_ok {g : Gm} {e : En} (hg : g.ok e) (h : dead g = true) : False := by
  unfold dead at h
  rw [List.any_eq_true] at h
  obtain ⟨c, hcm, hc⟩ := h
  have hcB := hg.as c hcm
  rw [Bool.or_eq_true] at hc
  rcases hc with hc | hc
  rotate_right
  · rw [Bool.and_eq_true] at hc
    rw [isFalse_ok hg hc.2] at hcB
    cases hcB
  unfold deadC at hc
  split at hc
  · rename_i x _
    have hr := rng_ok hg.fs x
    split at hc
    · rename_i a b ha hb
      exact excl_ok hg.as 300 a b hc (hr.1 a ha) (hr.2 b hb)
    · cases hc
  · rename_i x y
    rw [Bool.and_eq_true] at hc
    have hcB : (!(x.B e && y.B e)) = true := hcB
    rw [inG_ok hg hc.1, inG_ok hg hc.2] at hcB
    cases hcB
  · rename_i x y
    rw [Bool.and_eq_true] at hc
    have hcB : (x.B e || y.B e) = true := hcB
    rw [isFalse_ok hg hc.1, isFalse_ok hg hc.2] at hcB
    cases hcB
  · cases hc
def cntT : X → Nat
  | .o .add x y => cntT x + cntT y
  | .i _ => 0
  | _ => 1
def lins : List X → List X
  | [] => []
  | .o .lt x y :: l => mkAdd (mkSub y x) (.i (-1)) :: lins l
  | .u .not (.o .lt x y) :: l => mkSub x y :: lins l
  | .o .eq x y :: l => mkSub x y :: mkSub y x :: lins l
  | _ :: l => lins l
theorem lins_ok {e : En} : ∀ {as : List X}, (∀ c ∈ as, c.B e = true) → ∀ x ∈ lins as, 0 ≤ x.I e
  | [], _, x, hx => by cases hx
  | c :: l, h, x, hx => by
    have hc := h c List.mem_cons_self
    have ih := lins_ok fun c hc => h c (List.mem_cons_of_mem _ hc)
    unfold lins at hx
    split at hx
    · cases hx
    · rename_i heq
      cases heq
      rcases List.mem_cons.1 hx with rfl | hx
      · have hc := of_decide_eq_true hc
        rw [mkAdd_I, mkSub_I]
        simp only [X.I] at hc ⊢
        show 0 ≤ _ + (-1 : Int)
        omega
      · exact ih x hx
    · rename_i heq
      cases heq
      rcases List.mem_cons.1 hx with rfl | hx
      · have hc := hc
        rename_i a b _
        have hc : (!decide (X.I e a < X.I e b)) = true := hc
        simp only [Bool.not_eq_true', decide_eq_false_iff_not] at hc
        rw [mkSub_I]
        omega
      · exact ih x hx
    · rename_i heq
      cases heq
      rename_i a b
      have hc : decide (X.I e a = X.I e b) = true := hc
      have hc := of_decide_eq_true hc
      rcases List.mem_cons.1 hx with rfl | hx
      · rw [mkSub_I]; omega
      · rcases List.mem_cons.1 hx with rfl | hx
        · rw [mkSub_I]; omega
        · exact ih x hx
    · rename_i heq
      cases heq
      exact ih x hx
def linGe (g : Gm) (cs : List X) : Nat → X → Bool
  | 0, t => nonneg (rng g.fs t)
  | d + 1, t => nonneg (rng g.fs t) || cs.any fun c => layX (mkSub t c) fun u => Nat.ble (cntT u) (cntT t) && linGe g cs d u
theorem linGe_ok {g : Gm} {e : En} (hg : g.ok e) {cs : List X} (hc : ∀ x ∈ cs, 0 ≤ x.I e) : ∀ (d : Nat) (t : X), linGe g cs d t = true → 0 ≤ t.I e
  | 0, t, h => nonneg_ok h (rng_ok hg.fs t)
  | d + 1, t, h => by
    unfold linGe at h
    rw [Bool.or_eq_true] at h
    rcases h with h | h
    · exact nonneg_ok h (rng_ok hg.fs t)
    · obtain ⟨c, hcm, h⟩ := List.any_eq_true.1 h
      rw [layX_eq, Bool.and_eq_true] at h
      have h1 := linGe_ok hg hc d _ h.2
      rw [mkSub_I] at h1
      have := hc c hcm
      omega
def linsF : List Fact → List X
  | [] => []
  | ⟨.o .add x y, r⟩ :: l => (match r.hi with | some b => [mkSub (.i b) (.o .add x y)] | none => []) ++ ((match r.lo with | some a => [mkSub (.o .add x y) (.i a)] | none => []) ++ linsF l)
  | _ :: l => linsF l
theorem linsF_ok {e : En} : ∀ {fs : List Fact}, (∀ f ∈ fs, f.r.has (f.e.I e)) → ∀ x ∈ linsF fs, 0 ≤ x.I e
  | [], _, x, hx => by cases hx
  | f :: l, h, x, hx => by
    have hf := h f List.mem_cons_self
    have ih := linsF_ok fun c hc => h c (List.mem_cons_of_mem _ hc)
    unfold linsF at hx
    split at hx
    · cases hx
    · rename_i a b r l' heq
      cases heq
      rcases List.mem_append.1 hx with hx | hx
      · split at hx
        · rename_i k hk
          obtain rfl := List.mem_singleton.1 hx
          have : (X.o .add a b).I e ≤ k := hf.2 k hk
          rw [mkSub_I]
          show 0 ≤ k - (X.o .add a b).I e
          omega
        · cases hx
      · rcases List.mem_append.1 hx with hx | hx
        · split at hx
          · rename_i k hk
            obtain rfl := List.mem_singleton.1 hx
            have : k ≤ (X.o .add a b).I e := hf.1 k hk
            rw [mkSub_I]
            show 0 ≤ (X.o .add a b).I e - k
            omega
          · cases hx
        · exact ih x hx
    · rename_i heq
      cases heq
      exact ih x hx
theorem linsG_ok {g : Gm} {e : En} (hg : g.ok e) : ∀ x ∈ lins g.as ++ linsF g.fs, 0 ≤ x.I e := fun x hx => by
  rcases List.mem_append.1 hx with hx | hx
  · exact lins_ok hg.as x hx
  · exact linsF_ok hg.fs x hx
def linB (g : Gm) : X → Bool
  | .o .lt x y => linGe g (lins g.as ++ linsF g.fs) 3 (mkAdd (mkSub y x) (.i (-1)))
  | .u .not (.o .lt x y) => linGe g (lins g.as ++ linsF g.fs) 3 (mkSub x y)
  | _ => false
theorem linB_ok {g : Gm} {e : En} (hg : g.ok e) {x : X} (h : linB g x = true) : x.B e = true := by
  unfold linB at h
  split at h
  · rename_i a b
    have := linGe_ok hg (linsG_ok hg) _ _ h
    rw [mkAdd_I, mkSub_I] at this
    have : 0 ≤ X.I e b - X.I e a + (-1 : Int) := this
    show decide (X.I e a < X.I e b) = true
    rw [decide_eq_true_eq]; omega
  · rename_i a b
    have := linGe_ok hg (linsG_ok hg) _ _ h
    rw [mkSub_I] at this
    show (!decide (X.I e a < X.I e b)) = true
    simp only [Bool.not_eq_true', decide_eq_false_iff_not]; omega
  · cases h
def occA (y : X) : X → Bool
  | .u o x => eqX y (.u o x) || occA y x
  | .o o a b => eqX y (.o o a b) || (occA y a || occA y b)
  | .t q c a b => eqX y (.t q c a b) || (occA y c || (occA y a || occA y b))
  | .ap f x => eqX y (.ap f x) || occA y x
  | .set a b c => occA y a || (occA y b || occA y c)
  | .rset a b c => occA y a || (occA y b || occA y c)
  | x => eqX y x
def deadQ (a : X) (g : Gm) : Bool := g.as.any fun c => occA a c && deadC g c
theorem deadQ_ok {a : X} {g : Gm} {e : En} (hg : g.ok e) (h : deadQ a g = true) : False := by
  unfold deadQ at h
  obtain ⟨c, hcm, hc⟩ := List.any_eq_true.1 h
  rw [Bool.and_eq_true] at hc
  exact dead_ok hg (by unfold dead; exact List.any_eq_true.2 ⟨c, hcm, by rw [hc.2]; rfl⟩)
def tautB (k : Gm → X → Bool) (a : X) (g : Gm) (y : X) : Bool := isTrue (smB g y) || (deadQ a g || k g y)
theorem tautB_ok {k : Gm → X → Bool} {a : X} {g : Gm} {e : En} {y : X} (hk : ∀ (g : Gm) (x : X), g.ok e → k g x = true → x.B e = true) (hg : g.ok e) (h : tautB k a g y = true) : y.B e = true := by
  unfold tautB at h
  rw [Bool.or_eq_true, Bool.or_eq_true] at h
  rcases h with h | h | h
  · exact isTrue_ok hg h
  · exact (deadQ_ok hg h).elim
  · exact hk g y hg h
def taut : Nat → Gm → X → Bool
  | 0, _, _ => false
  | n + 1, g, x => layX (smB g x) fun y => match y with
    | .b b => b || dead g
    | .o .and a b => taut n g a && taut n g b
    | y => (g.as.any (fun c => eqX c y)) || (linB g y || match atB y with
      | some a => (absurdG g a || tautB (taut n) a (assume g a) y) && (absurdG g (mkNot a) || tautB (taut n) a (assume g (mkNot a)) y)
      | none => false)
theorem taut_ok {e : En} : ∀ (n : Nat) (g : Gm) (x : X), g.ok e → taut n g x = true → x.B e = true
  | 0, _, _, _, h => by cases h
  | n + 1, g, x, hg, h => by
    unfold taut at h
    rw [layX_eq] at h
    rw [← smB_ok hg x]
    split at h
    · rename_i b hb
      rw [Bool.or_eq_true] at h
      rcases h with h | h
      · rw [hb]; exact h
      · exact (dead_ok hg h).elim
    · rename_i a b hb
      rw [Bool.and_eq_true] at h
      rw [hb]
      show (a.B e && b.B e) = true
      rw [taut_ok n _ _ hg h.1, taut_ok n _ _ hg h.2]; rfl
    · rw [Bool.or_eq_true, Bool.or_eq_true] at h
      rcases h with h | h | h
      · obtain ⟨c, hc, he⟩ := List.any_eq_true.1 h
        rw [← eqX_eq he]
        exact hg.as c hc
      · exact linB_ok hg h
      split at h
      case h_2 => cases h
      rename_i a _
      simp only [Bool.and_eq_true, Bool.or_eq_true] at h
      cases ha : a.B e with
      | true =>
        rcases h.1 with h1 | h1
        · have := absurdG_ok hg h1; rw [ha] at this; cases this
        · exact tautB_ok (fun g x hg h => taut_ok n g x hg h) (assume_ok hg ha).1 h1
      | false =>
        have hn : (mkNot a).B e = true := by rw [mkNot_B, ha]; rfl
        rcases h.2 with h1 | h1
        · have := absurdG_ok hg h1; rw [hn] at this; cases this
        · exact tautB_ok (fun g x hg h => taut_ok n g x hg h) (assume_ok hg hn).1 h1
structure LI where
  inv : X
  ms : X
structure LA where
  b : Nat
  len : Nat
  fs : List Fact
  li : LI
def factX (f : Fact) (b : Nat) (es : List X) (g : Gm) : Bool :=
  let r := rng g.fs (f.e.sub b es)
  f.e.sc (b + es.length) && ((match f.r.lo with | some a => (match r.lo with | some c => decide (a ≤ c) | none => false) || taut 6 g (.u .not (.o .lt (f.e.sub b es) (.i a))) | none => true) && (match f.r.hi with | some a => (match r.hi with | some c => decide (c ≤ a) | none => false) || taut 6 g (.u .not (.o .lt (.i a) (f.e.sub b es))) | none => true))
def headOk (n : Nat) (g : Gm) (la : LA) (es : List X) : Bool :=
  Nat.beq es.length la.len && (la.fs.all (fun f => factX f la.b es g) && (la.li.inv.sc (la.b + la.len) && (la.li.ms.sc (la.b + la.len) && taut n g (la.li.inv.sub la.b es))))
def JOk (e : En) (J : JJ) (la : LA) : Prop := la.li.inv.sc (la.b + la.len) = true ∧ la.li.ms.sc (la.b + la.len) = true ∧ (∀ f ∈ la.fs, f.e.sc (la.b + la.len) = true) ∧ ∀ ds : List D, ds.length = la.len → la.li.inv.B (e.ext la.b ds) = true → (∀ f ∈ la.fs, f.r.has (f.e.I (e.ext la.b ds))) → 0 ≤ la.li.ms.I (e.ext la.b ds) → la.li.ms.I (e.ext la.b ds) < la.li.ms.I e → J la.b ds
theorem ext_agv {b : Nat} {e e' : En} (h : Agv b e e') (ds : List D) : Agv (b + ds.length) (e.ext b ds) (e'.ext b ds) := by
  intro k hk
  show (bif Nat.ble b k && Nat.blt k (b + ds.length) then ds.getD (k - b) .u else e'.ρ k) = (bif Nat.ble b k && Nat.blt k (b + ds.length) then ds.getD (k - b) .u else e.ρ k)
  rcases Nat.lt_or_ge k b with hkb | hkb
  · rw [h k hkb]
  · have h1 : Nat.ble b k = true := Nat.ble_eq ▸ hkb
    have h2 : Nat.blt k (b + ds.length) = true := by rw [Nat.blt_eq]; exact hk
    rw [h1, h2]; rfl
theorem Agv.le {n n' : Nat} {e e' : En} (h : Agv n e e') (hn : n' ≤ n) : Agv n' e e' := fun k hk => h k (by omega)
theorem JOk.move {e e' : En} {J J' : JJ} {la : LA} (h : JOk e J la) (ha : Agv (la.b + la.len) e e') (hJ : J' la.b = J la.b) : JOk e' J' la := by
  obtain ⟨h1, h2, h3, h4⟩ := h
  refine ⟨h1, h2, h3, fun ds hl hi hf h0 hlt => ?_⟩
  rw [hJ]
  have hx := ext_agv (ha.le (Nat.le_add_right _ _)) ds
  rw [hl] at hx
  have ei : la.li.inv.B (e'.ext la.b ds) = la.li.inv.B (e.ext la.b ds) := by simp only [X.B, X.sc_den hx h1]
  have em : la.li.ms.I (e'.ext la.b ds) = la.li.ms.I (e.ext la.b ds) := by simp only [X.I, X.sc_den hx h2]
  have em2 : la.li.ms.I e' = la.li.ms.I e := by simp only [X.I, X.sc_den ha h2]
  refine h4 ds hl (by rw [← ei]; exact hi) (fun f hfm => ?_) (by rw [← em]; exact h0) (by rw [← em, ← em2]; exact hlt)
  have := hf f hfm
  rw [show f.e.I (e'.ext la.b ds) = f.e.I (e.ext la.b ds) from by simp only [X.I, X.sc_den hx (h3 f hfm)]] at this
  exact this
theorem factX_ok {g : Gm} {e : En} (hg : g.ok e) {f : Fact} {b : Nat} {es : List X} (h : factX f b es g = true) {e0 : En} (ha : Agv b e0 e) : f.r.has (f.e.I (e0.ext b (es.map (X.den e)))) := by
  unfold factX at h
  simp only [Bool.and_eq_true] at h
  have hr := rng_ok hg.fs (f.e.sub b es)
  have hd : (f.e.sub b es).I e = f.e.I (e0.ext b (es.map (X.den e))) := by
    simp only [X.I, X.sub_den ha h.1]
  rw [hd] at hr
  refine ⟨fun x hx => ?_, fun x hx => ?_⟩
  · have h1 := h.2.1
    rw [hx] at h1
    simp only [Bool.or_eq_true] at h1
    rcases h1 with h1 | h1
    · cases hrl : (rng g.fs (f.e.sub b es)).lo with
      | none => rw [hrl] at h1; cases h1
      | some c => rw [hrl] at h1; exact Int.le_trans (of_decide_eq_true h1) (hr.1 _ hrl)
    · have := taut_ok 6 g _ hg h1
      have : (!decide (X.I e (f.e.sub b es) < x)) = true := this
      rw [hd] at this
      simp only [Bool.not_eq_true', decide_eq_false_iff_not] at this
      omega
  · have h1 := h.2.2
    rw [hx] at h1
    simp only [Bool.or_eq_true] at h1
    rcases h1 with h1 | h1
    · cases hrl : (rng g.fs (f.e.sub b es)).hi with
      | none => rw [hrl] at h1; cases h1
      | some c => rw [hrl] at h1; exact Int.le_trans (hr.2 _ hrl) (of_decide_eq_true h1)
    · have := taut_ok 6 g _ hg h1
      have : (!decide (x < X.I e (f.e.sub b es))) = true := this
      rw [hd] at this
      simp only [Bool.not_eq_true', decide_eq_false_iff_not] at this
      omega
theorem headOk_ok {n : Nat} {g : Gm} {e e0 : En} (hg : g.ok e) {la : LA} {es : List X} (h : headOk n g la es = true) (ha : Agv la.b e0 e) : es.length = la.len ∧ la.li.inv.B (e0.ext la.b (es.map (X.den e))) = true ∧ (∀ f ∈ la.fs, f.r.has (f.e.I (e0.ext la.b (es.map (X.den e))))) ∧ la.li.ms.I (e0.ext la.b (es.map (X.den e))) = (la.li.ms.sub la.b es).I e ∧
    la.li.inv.sc (la.b + la.len) = true ∧ la.li.ms.sc (la.b + la.len) = true ∧ ∀ f ∈ la.fs, f.e.sc (la.b + la.len) = true := by
  simp only [headOk, Bool.and_eq_true] at h
  obtain ⟨h1, h2, h3, h4, h5⟩ := h
  have hl := Nat.eq_of_beq_eq_true h1
  refine ⟨hl, ?_, fun f hf => factX_ok hg (List.all_eq_true.1 h2 f hf) ha, ?_, h3, h4, fun f hf => ?_⟩
  · have := taut_ok n g _ hg h5
    simp only [X.B, X.sub_den ha (show la.li.inv.sc (la.b + es.length) = true by rw [hl]; exact h3)] at this
    exact this
  · simp only [X.I, X.sub_den ha (show la.li.ms.sc (la.b + es.length) = true by rw [hl]; exact h4)]
  · have := List.all_eq_true.1 h2 f hf
    simp only [factX, Bool.and_eq_true] at this
    rw [← hl]; exact this.1
def finTrue (n : Nat) (g : Gm) (v : SV) : Bool := match v with
  | .a (.s (.z (.b x))) => taut n g x
  | _ => false
theorem finTrue_ok {n : Nat} {g : Gm} {e : En} (hg : g.ok e) {v : SV} (h : finTrue n g v = true) : v.den e = .bool true := by
  unfold finTrue at h
  split at h
  · show Value.bool _ = _
    rw [taut_ok n g _ hg h]
  · cases h
end Go.SX
end
