/-
  An abstract logic for the model (part 17b): how frames and memories look, evaluated by functions. Conditions: none.
-/
import Derived.Test.YtfohjnfdgegfcaaDoorAe17
namespace Go.AE
variable {P : Program}

def rd0 (ops : Array Oper) : RD := ⟨ops.toList, [], 0, [], [], fun _ => [], fun _ => [], fun _ => ⟨undef, none⟩⟩
theorem ready_at {ops : Array Oper} {listed : Array Bool} (hl : listed.size = ops.size) {i : Nat} : i ∈ Region.ready .any ops listed ↔
    i < ops.size ∧ listed.getD i false = false ∧ ∃ o, ops[i]? = some o ∧ ∀ j ∈ waits o, listed.getD j false = true := by
  have := ready_iff (r := rd0 ops) (ops := ops) rfl (listed := listed) (by simpa [rd0] using hl) (i := i)
  simpa [rd0] using this

theorem wpOp_move {ops : Array Oper} {Q : Exit → Act → World → Prop} {i d t : Nat} {o : Oper} (ho : ops[i]? = some o) (hop : o.op = .move (.tmp t)) (hd : o.dst = some d) (hg : o.guard = none) {N : Act → World → Prop} {A : Act} {W : World} :
    wpOp P ops Q i N A W ↔ N (A.put (some d) (A.eval (.tmp t))) W := by
  have he : execOp A.eval o = pure (.value (A.eval (.tmp t))) := by simp only [execOp, hop]
  unfold wpOp
  rw [ho]
  simp only [Region.wanted, hg, if_true, Oper.wp, Oper.asks, he, hd]
  constructor
  · rintro (h | ⟨⟨h, _⟩, _⟩)
    · rw [← hd]; exact h
    · have : ((pure (Next.value (A.eval (.tmp t))) : Sem Next).runT P W #[]).2 = #[] := rfl
      rw [this] at h
      simp at h
  · intro h
    exact .inl (by rw [← hd] at h; exact h)

theorem wpOp_store {ops ops' : Array Oper} {Q : Exit → Act → World → Prop} {i : Nat} {o o' : Oper} {te : TypeId} {x y : Operand} (ho : ops[i]? = some o) (ho' : ops'[i]? = some o') (hop : o.op = .store te x y) (hop' : o'.op = .store te x y) (hd : o.dst = none) (hd' : o'.dst = none)
    (hg : o.guard = none) (hg' : o'.guard = none) {N N' : Act → World → Prop} {A A' : Act} {W : World} (hx : A'.eval x = A.eval x) (hy : A'.eval y = A.eval y) (hnp : ∀ c a w, ¬ Q (.panic c) a w) (h : wpOp P ops' Q i N' A' W) (hN : ∀ W', N' A' W' → N A W') : wpOp P ops Q i N A W := by
  have he : execOp A'.eval o' = execOp A.eval o := by simp only [execOp, hop, hop', hx, hy]
  unfold wpOp at h ⊢
  rw [ho'] at h
  rw [ho]
  simp only [Region.wanted, hg, hg', if_true, Oper.wp, Oper.asks, he] at h ⊢
  refine h.imp (fun h => ?_) fun h => h
  have hs : execOp A.eval o = (do Instr.storeAt te (A.eval x) (A.eval y); pure .skip) := by simp only [execOp, hop]
  rw [hs, Sem.run_bind] at h ⊢
  cases hr : (Instr.storeAt te (A.eval x) (A.eval y)).run P W with
  | ok u w' =>
    rw [hr] at h
    simp only [Result.andThen] at h ⊢
    have h1 : N' (A'.put o'.dst undef) w' := h
    rw [hd'] at h1
    show N (A.put o.dst undef) w'
    rw [hd]
    exact hN w' h1
  | halt s w' =>
    rw [hr] at h
    simp only [Result.andThen] at h ⊢
    cases s with
    | panic v => exact absurd h (hnp _ _ _)
    | _ => exact h

theorem set_set {l : Array Bool} {i j : Nat} (h : i ≠ j) : (l.setIfInBounds i true).setIfInBounds j true = (l.setIfInBounds j true).setIfInBounds i true := by
  apply Array.ext_getElem?
  intro k
  simp only [Array.getElem?_setIfInBounds, Array.size_setIfInBounds]
  by_cases h1 : i = k <;> by_cases h2 : j = k
  · omega
  · simp [h1, h2]
  · simp [h1, h2]
  · simp [h1, h2]

theorem wpAny_late {ops ops' : Array Oper} {Q : Exit → Act → World → Prop} {p d t : Nat} {te : TypeId} {x y : Operand} {om oq oq' : Oper} (hm : ops[p]? = some om) (hq : ops[p + 1]? = some oq) (hq' : ops'[p + 1]? = some oq')
    (hsame : ∀ i, i ≠ p + 1 → ops'[i]? = ops[i]?) (hsz : ops'.size = ops.size) (mop : om.op = .move (.tmp t)) (md : om.dst = some d) (mg : om.guard = none)
    (qop : oq.op = .store te x y) (qd : oq.dst = none) (qg : oq.guard = none) (qop' : oq'.op = .store te x y) (qd' : oq'.dst = none) (qg' : oq'.guard = none) (hw : ∀ j, j ∈ waits oq' ↔ j ∈ waits oq ∨ j = p)
    (hx : x ≠ .tmp d) (hy : y ≠ .tmp d) (hpw : ∀ j ∈ waits om, j < p) (hqw : ∀ j, j < p → j ∈ waits oq) (hlate : ∀ j o, p + 1 < j → ops[j]? = some o → p ∈ waits o) (hnp : ∀ c a w, ¬ Q (.panic c) a w) :
    ∀ (n fuel : Nat), fuel ≤ n → ∀ (listed : Array Bool) (A : Act) (W : World), listed.size = ops.size → wpAny P .any ops' Q fuel listed A W → wpAny P .any ops Q fuel listed A W := by
  have hm' : ops'[p]? = some om := by rw [hsame p (by omega), hm]
  have hplt : p < ops.size := by
    rcases Nat.lt_or_ge p ops.size with h | h
    · exact h
    · rw [Array.getElem?_eq_none h] at hm; cases hm
  have hqlt : p + 1 < ops.size := by
    rcases Nat.lt_or_ge (p + 1) ops.size with h | h
    · exact h
    · rw [Array.getElem?_eq_none h] at hq; cases hq
  have evk : ∀ (A : Act) (v : Value) (z : Operand), z ≠ .tmp d → (A.put (some d) v).eval z = A.eval z := by
    intro A v z hz
    cases z with
    | tmp k =>
      have : d ≠ k := fun e => hz (by rw [e])
      simp only [Act.eval, Act.put, Array.getD_eq_getD_getElem?, Array.getElem?_setIfInBounds, if_neg this]
    | const v => rfl
    | global _ => rfl
    | func _ => rfl
  have yl : ∀ tmps j, yielded ops' tmps j = yielded ops tmps j := by
    intro tmps j
    unfold yielded
    by_cases hj : j = p + 1
    · subst hj; rw [hq, hq']; simp [qd, qd']
    · rw [hsame j hj]
  -- what is ready
  have back : ∀ (listed : Array Bool), listed.size = ops.size → ∀ i, i ∈ Region.ready .any ops' listed → i ∈ Region.ready .any ops listed := by
    intro listed hl i hi
    obtain ⟨h1, h2, o, ho, hwt⟩ := (ready_at (by rw [hsz]; exact hl)).1 hi
    rw [hsz] at h1
    refine (ready_at hl).2 ⟨h1, h2, ?_⟩
    by_cases hip : i = p + 1
    · subst hip
      rw [hq'] at ho; cases ho
      exact ⟨oq, hq, fun j hj => hwt j ((hw j).2 (.inl hj))⟩
    · rw [hsame i hip] at ho
      exact ⟨o, ho, hwt⟩
  have fwd : ∀ (listed : Array Bool), listed.size = ops.size → ∀ i, i ∈ Region.ready .any ops listed → i ∈ Region.ready .any ops' listed ∨ (i = p + 1 ∧ listed.getD p false = false ∧ p ∈ Region.ready .any ops' listed ∧ ∀ j ∈ waits oq, listed.getD j false = true) := by
    intro listed hl i hi
    obtain ⟨h1, h2, o, ho, hwt⟩ := (ready_at hl).1 hi
    by_cases hip : i = p + 1
    · subst hip
      rw [hq] at ho; cases ho
      cases hpl : listed.getD p false with
      | true =>
        refine .inl ((ready_at (by rw [hsz]; exact hl)).2 ⟨by rw [hsz]; exact h1, h2, oq', hq', fun j hj => ?_⟩)
        rcases (hw j).1 hj with h | h
        · exact hwt j h
        · rw [h]; exact hpl
      | false =>
        refine .inr ⟨rfl, rfl, (ready_at (by rw [hsz]; exact hl)).2 ⟨by rw [hsz]; exact hplt, hpl, om, hm', fun j hj => hwt j (hqw j (hpw j hj))⟩, hwt⟩
    · exact .inl ((ready_at (by rw [hsz]; exact hl)).2 ⟨by rw [hsz]; exact h1, h2, o, by rw [hsame i hip]; exact ho, hwt⟩)
  intro n
  induction n with
  | zero =>
    intro fuel hf listed A W hl h
    obtain rfl : fuel = 0 := by omega
    refine ⟨?_, h.2⟩
    cases hre : Region.ready .any ops listed with
    | nil => rfl
    | cons i rest =>
      exfalso
      rcases fwd listed hl i (by rw [hre]; exact List.mem_cons_self) with h' | ⟨_, _, h', _⟩ <;> (rw [h.1] at h'; cases h')
  | succ n ih =>
    intro fuel hf listed A W hl h
    cases fuel with
    | zero => exact ih 0 (by omega) listed A W hl h
    | succ f =>
      refine ⟨fun hempty => h.1 ?_, fun i hi => ?_⟩
      · cases hre : Region.ready .any ops' listed with
        | nil => rfl
        | cons i rest =>
          have := back listed hl i (by rw [hre]; exact List.mem_cons_self)
          rw [hempty] at this; cases this
      rcases fwd listed hl i hi with hi' | ⟨rfl, hpl, hp', hwt⟩
      · have hN : ∀ a w, wpAny P .any ops' Q f (listed.setIfInBounds i true) a w → wpAny P .any ops Q f (listed.setIfInBounds i true) a w := fun a w => ih f (by omega) _ a w (by simpa using hl)
        have := wpOp_mono hN (h.2 i hi')
        by_cases hip : i = p + 1
        · subst hip
          exact wpOp_store hq hq' qop qop' qd qd' qg qg' rfl rfl hnp this fun _ h => h
        · unfold wpOp at this ⊢
          rw [hsame i hip] at this
          have hy : yielded ops' A.tmps = yielded ops A.tmps := funext (yl A.tmps)
          rw [hy] at this
          exact this
      · have h1 := (wpOp_move hm' mop md mg).1 (h.2 p hp')
        have hl1 : (listed.setIfInBounds p true).size = ops.size := by simpa using hl
        have hq1 : p + 1 ∈ Region.ready .any ops' (listed.setIfInBounds p true) := by
          obtain ⟨_, h2, _⟩ := (ready_at hl).1 hi
          refine (ready_at (by rw [hsz]; exact hl1)).2 ⟨by rw [hsz]; exact hqlt, ?_, oq', hq', fun j hj => ?_⟩
          · rw [getD_set (by omega), h2]; simp
          · rw [getD_set (by omega)]
            rcases (hw j).1 hj with h | h
            · rw [hwt j h]; rfl
            · rw [h]; simp
        cases f with
        | zero => rw [h1.1] at hq1; cases hq1
        | succ f' =>
          have h2 := h1.2 (p + 1) hq1
          refine wpOp_store hq hq' qop qop' qd qd' qg qg' (evk A _ x hx) (evk A _ y hy) hnp h2 fun W' h3 => ?_
          have hl2 : (listed.setIfInBounds (p + 1) true).size = ops.size := by simpa using hl
          have hpr : p ∈ Region.ready .any ops (listed.setIfInBounds (p + 1) true) := by
            refine (ready_at hl2).2 ⟨hplt, ?_, om, hm, fun j hj => ?_⟩
            · rw [getD_set (by omega), hpl]; simp
            · rw [getD_set (by omega), hwt j (hqw j (hpw j hj))]; rfl
          refine ⟨fun hempty => (by rw [hempty] at hpr; cases hpr), fun i' hi2 => ?_⟩
          obtain ⟨g1, g2, o2, ho2, hw2⟩ := (ready_at hl2).1 hi2
          have hip : i' = p := by
            rcases Nat.lt_trichotomy i' p with hlt | he | hgt
            · rw [getD_set (by omega), hwt i' (hqw i' hlt)] at g2; simp at g2
            · exact he
            · exfalso
              by_cases e : i' = p + 1
              · subst e; rw [getD_set (by omega)] at g2; simp at g2
              · have := hw2 p (hlate i' o2 (by omega) ho2)
                rw [getD_set (by omega), hpl] at this
                simp at this
          subst hip
          refine (wpOp_move hm mop md mg).2 ?_
          refine ih f' (by omega) _ _ W' (by simpa using hl) ?_
          rw [set_set (by omega)]
          exact h3

/-- A copy ahead of a store may come up behind it: it is all one. -/
def lateAt (all : List Oper) (p : Nat) : Bool := match all[p]?, all[p + 1]? with
  | some om, some oq => match om.op, om.dst, om.guard, oq.op, oq.dst, oq.guard with
    | .move (.tmp _), some d, none, .store _ x y, none, none =>
      (match x with | .tmp k => !Nat.beq k d | _ => true) && (match y with | .tmp k => !Nat.beq k d | _ => true) &&
      !(waits oq).contains p && (waits om).all (fun j => Nat.blt j p) && (List.range p).all (fun j => (waits oq).contains j) &&
      (List.range all.length).all (fun j => Nat.ble j (p + 1) || match all[j]? with | some o => (waits o).contains p | none => true)
    | _, _, _, _, _, _ => false
  | _, _ => false
def addEdge (p : Nat) (o : Oper) : Oper := { o with after := o.after.push ⟨p, .data⟩ }
def lateFix (all : List Oper) : Nat → List Oper
  | 0 => all
  | p + 1 => bif lateAt all p then all.modify (p + 1) (addEdge p) else all

theorem waits_addEdge (p : Nat) (o : Oper) (j : Nat) : j ∈ waits (addEdge p o) ↔ j ∈ waits o ∨ j = p := by
  simp only [waits, addEdge, Array.toList_push, List.filter_append, List.map_append, List.mem_append]
  have : ([({ on := p, ground := .data } : Edge)].filter (Region.binds .any)).map (·.on) = [p] := rfl
  rw [this]; simp

theorem wpAny_fix {ops : Array Oper} {Q : Exit → Act → World → Prop} (hnp : ∀ c a w, ¬ Q (.panic c) a w) (q : Nat) {fuel : Nat} {listed : Array Bool} {A : Act} {W : World} (hl : listed.size = ops.size)
    (h : wpAny P .any (lateFix ops.toList q).toArray Q fuel listed A W) : wpAny P .any ops Q fuel listed A W := by
  cases q with
  | zero => simpa [lateFix] using h
  | succ p =>
    cases hla : lateAt ops.toList p with
    | false =>
      simp only [lateFix, hla, cond_false] at h
      simpa using h
    | true =>
      simp only [lateFix, hla, cond_true] at h
      unfold lateAt at hla
      split at hla
      · rename_i om oq hm hq
        split at hla
        · rename_i t d te x y mop md mg qop qd qg
          simp only [Bool.and_eq_true] at hla
          obtain ⟨⟨⟨⟨⟨h1, h2⟩, _⟩, h4⟩, h5⟩, h6⟩ := hla
          have hm' : ops[p]? = some om := by rw [← hm]; simp
          have hq' : ops[p + 1]? = some oq := by rw [← hq]; simp
          refine wpAny_late (oq' := addEdge p oq) hm' hq' ?_ ?_ (by simp) mop md mg qop qd qg qop qd qg (waits_addEdge p oq) ?_ ?_ ?_ ?_ ?_ hnp fuel fuel (Nat.le_refl _) listed A W hl h
          · simp [hq']
          · intro i hi
            simp only [List.getElem?_toArray, List.getElem?_modify]
            have : ¬ p + 1 = i := fun e => hi e.symm
            simp [this]
          · rintro rfl
            simp only [Bool.not_eq_true'] at h1
            rw [Nat.beq_refl] at h1; cases h1
          · rintro rfl
            simp only [Bool.not_eq_true'] at h2
            rw [Nat.beq_refl] at h2; cases h2
          · intro j hj
            exact Nat.le_of_ble_eq_true (List.all_eq_true.1 h4 j hj)
          · intro j hj
            exact contains_iff.1 (List.all_eq_true.1 h5 j (List.mem_range.2 hj))
          · intro j o hj ho
            have hjl : j < ops.size := by
              rcases Nat.lt_or_ge j ops.size with h | h
              · exact h
              · rw [Array.getElem?_eq_none h] at ho; cases ho
            have := List.all_eq_true.1 h6 j (List.mem_range.2 (by simpa using hjl))
            simp only [Bool.or_eq_true] at this
            rcases this with h | h
            · have := Nat.le_of_ble_eq_true h; omega
            · have ho' : ops.toList[j]? = some o := by rw [← ho]; simp
              rw [ho'] at h
              exact contains_iff.1 h
        · cases hla
      · cases hla
end Go.AE
