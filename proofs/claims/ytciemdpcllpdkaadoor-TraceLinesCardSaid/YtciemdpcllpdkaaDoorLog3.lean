/-
  An abstract logic for the model, and a symbolic executor over it (part 3). Conditions: none.
-/
import Derived.Test.YtciemdpcllpdkaaDoorLog2
import Derived.RangeFuncLeaves
import Derived.RangeFuncRecord
import Derived.OrdersHeld
set_option linter.unusedVariables false
set_option linter.unusedSimpArgs false
set_option linter.unnecessarySimpa false
set_option linter.constructorNameAsVariable false
section
namespace Go.AE
variable {P : Program} {r : RD} {G₀ : List (Option GB)}
theorem RSt.congr {c : Ctx} {E E' : Nat → Bool} {G : List (Option GB)} {A : Act} {W : World} (h : RDOK P r) (s : RSt P r c G₀ E G A W) (he : ∀ k, k < r.q → E k = E' k) : RSt P r c G₀ E' G A W := by
  have hm : r.mE E = r.mE E' := by
    unfold RD.mE
    congr 1
    apply List.map_congr_left
    intro p hp
    rw [he p.1 (RD.sl_low h (Nat.le_refl _) p hp)]
  refine ⟨hm ▸ s.rel, (r.frE_congr he) ▸ s.frm, s.base, fun i b hi hE hb => s.none_ i b hi (by rw [he i hi]; exact hE) hb, fun j b gb hj hg => s.low j b gb (by rw [hm]; exact hj) hg⟩
theorem cl_sub (h : RDOK P r) {E : Nat → Bool} (hclosed : ∀ k ok, E k = true → r.all[k]? = some ok → ∀ j ∈ waits ok, E j = true) : ∀ (n i : Nat) (o : Oper), i < n → r.all[i]? = some o → (∀ j ∈ waits o, E j = true) → ∀ x ∈ r.cls.getD i [], E x = true
  | 0, i, _, hi, _, _, _, _ => by omega
  | n + 1, i, o, hi, ho, hw, x, hx => by
    rcases h.cl i o ho x hx with hx | ⟨j, hj, hxj⟩
    · exact hw x hx
    · have hji := h.early i o ho j hj
      have hjl : j < r.all.length := Nat.lt_trans hji (lt_of_getElem? ho)
      have hoj : r.all[j]? = some r.all[j] := List.getElem?_eq_getElem hjl
      exact cl_sub h hclosed n j r.all[j] (by omega) hoj (hclosed j _ (hw j hj) hoj) x hxj
theorem ready_iff {ops : Array Oper} (hops : ops.toList = r.all) {listed : Array Bool} (hl : listed.size = r.all.length) {i : Nat} : i ∈ Region.ready .any ops listed ↔
    i < r.all.length ∧ listed.getD i false = false ∧ ∃ o, r.all[i]? = some o ∧ ∀ j ∈ waits o, listed.getD j false = true := by
  have hsz : ops.size = r.all.length := by rw [← hops]; simp
  unfold Region.ready
  rw [List.mem_filter, List.mem_range, hsz]
  constructor
  · rintro ⟨h1, h2⟩
    simp only [Bool.and_eq_true, Bool.not_eq_true'] at h2
    obtain ⟨h2, h3⟩ := h2
    have ho : ops[i]? = r.all[i]? := by rw [← hops]; simp
    have hi' : i < listed.size := by rw [hl]; exact h1
    refine ⟨h1, ?_, r.all[i], List.getElem?_eq_getElem h1, ?_⟩
    · simp only [Array.getD, hi', dif_pos] at h2 ⊢; exact h2
    · rw [ho, List.getElem?_eq_getElem h1] at h3
      simp only [Option.map_some, Option.getD_some] at h3
      intro j hj
      obtain ⟨e, he, rfl⟩ := List.mem_map.1 hj
      obtain ⟨he1, he2⟩ := List.mem_filter.1 he
      have := Array.all_eq_true'.1 h3 e (Array.mem_toList_iff.1 he1)
      rw [he2] at this
      simpa using this
  · rintro ⟨h1, h2, o, ho, hw⟩
    refine ⟨h1, ?_⟩
    have hi' : i < listed.size := by rw [hl]; exact h1
    have ho' : ops[i]? = some o := by rw [← ho, ← hops]; simp
    simp only [Bool.and_eq_true, Bool.not_eq_true', ho', Option.map_some, Option.getD_some]
    refine ⟨?_, ?_⟩
    · simp only [Array.getD, hi', dif_pos] at h2 ⊢; exact h2
    · refine Array.all_eq_true'.2 fun e he => ?_
      cases hb : Region.binds .any e with
      | false => rfl
      | true =>
        simp only [Bool.not_true, Bool.false_or]
        exact hw e.on (List.mem_map.2 ⟨e, List.mem_filter.2 ⟨Array.mem_toList_iff.2 he, hb⟩, rfl⟩)
theorem ready_some (h : RDOK P r) {ops : Array Oper} (hops : ops.toList = r.all) {listed : Array Bool} (hl : listed.size = r.all.length) {i : Nat} (hi : i < r.all.length) (hE : listed.getD i false = false) : Region.ready .any ops listed ≠ [] := by
  have : ∀ n i, i < n → i < r.all.length → listed.getD i false = false → ∃ k, k ∈ Region.ready .any ops listed := by
    intro n
    induction n with
    | zero => intro i hi; omega
    | succ n ih =>
      intro i hin hi hE
      have ho : r.all[i]? = some r.all[i] := List.getElem?_eq_getElem hi
      by_cases hw : ∀ j ∈ waits r.all[i], listed.getD j false = true
      · exact ⟨i, (ready_iff hops hl).2 ⟨hi, hE, _, ho, hw⟩⟩
      · rcases Classical.em (∃ j, j ∈ waits r.all[i] ∧ listed.getD j false = false) with ⟨j, hj, hjE⟩ | hno
        · have := h.early i _ ho j hj
          exact ih j (by omega) (by omega) hjE
        · exfalso
          apply hw
          intro j hj
          cases hjE : listed.getD j false with
          | true => rfl
          | false => exact absurd ⟨j, hj, hjE⟩ hno
  obtain ⟨k, hk⟩ := this (i + 1) i (by omega) hi hE
  intro he
  rw [he] at hk; cases hk
theorem getD_set {listed : Array Bool} {i k : Nat} (hi : i < listed.size) : (listed.setIfInBounds i true).getD k false = (listed.getD k false || k == i) := by
  simp only [Array.getD_eq_getD_getElem?, Array.getElem?_setIfInBounds]
  by_cases h : i = k
  · subst h; simp [hi]
  · have : (k == i) = false := by simpa using fun e => h e.symm
    simp [h, this]
theorem RSt.sees {c : Ctx} {E : Nat → Bool} {G : List (Option GB)} {A : Act} {W : World} (h : RDOK P r) (s : RSt P r c G₀ E G A W) {i : Nat} {o : Oper} (hi : i < r.q) (ho : r.all[i]? = some o) (hE : E i = false)
    (hready : ∀ j ∈ waits o, E j = true) (hclosed : ∀ k ok, E k = true → r.all[k]? = some ok → ∀ j ∈ waits ok, E j = true)
    (hlow : ∀ t ∈ o.looksAt r.all.toArray, AE.low (r.m.length + (r.sl i).length) (aeval (r.fr i) (.tmp t)) = true) (x : Operand) : VR (G.take (r.id i)) (rhoFor (o.looksAt r.all.toArray) (r.fr i) x) (A.eval x) := by
  cases x with
  | tmp t =>
    simp only [rhoFor]
    split
    · rename_i hc
      have ht : t ∈ o.looksAt r.all.toArray := by simpa using hc
      have e : aeval (r.fr i) (.tmp t) = aeval (r.frE E) (.tmp t) := by
        simp only [aeval, RD.same_looks h hi ho hE hready hclosed ht]
      have hl := hlow t ht
      rw [e] at hl ⊢
      exact (s.frm.eval (.tmp t)).low hl
    · exact .top _
  | const v =>
    simp only [rhoFor, aeval, Act.eval]
    split
    · rename_i hp; exact .plain _ hp
    · exact .top _
  | global _ => exact .top _
  | func f => exact .s (.func _)
theorem any_ok (h : RDOK P r) {c : Ctx} {ops : Array Oper} (hops : ops.toList = r.all) {Q : Exit → Act → World → Prop}
    (hQ : ∀ A W G listed, RSt P r c G₀ (fun k => decide (k < r.q)) G A W → listed.size = r.all.length → (∀ k, k < r.all.length → listed.getD k false = decide (k < r.q)) → wpAny P .any ops Q (r.all.length - r.q) listed A W) :
    ∀ (fuel : Nat) (listed : Array Bool) (A : Act) (W : World) (G : List (Option GB)), listed.size = r.all.length → fuel + cnt (fun k => listed.getD k false) r.all.length = r.all.length →
      (∀ k ok, listed.getD k false = true → r.all[k]? = some ok → ∀ j ∈ waits ok, listed.getD j false = true) → (∀ k, listed.getD k false = true → k < r.q) → RSt P r c G₀ (fun k => listed.getD k false) G A W → wpAny P .any ops Q fuel listed A W := by
  intro fuel
  induction fuel with
  | zero =>
    intro listed A W G hl hcnt hclosed hlow s
    have hfull : ∀ k, k < r.all.length → listed.getD k false = true := cnt_full (by omega)
    have hqe : r.q = r.all.length := by
      rcases Nat.lt_or_ge r.q r.all.length with hlt | hge
      · have := hlow r.q (hfull r.q hlt); omega
      · have := h.le; omega
    have := hQ A W G listed (s.congr h fun k hk => by rw [hfull k (by omega)]; simp [hk]) hl (fun k hk => by rw [hfull k hk]; simp [hqe]; exact hk)
    rw [hqe, Nat.sub_self] at this
    exact this
  | succ fuel ih =>
    intro listed A W G hl hcnt hclosed hlow s
    by_cases hall : ∀ k, k < r.q → listed.getD k false = true
    · have hE : ∀ k, k < r.all.length → listed.getD k false = decide (k < r.q) := by
        intro k hk
        by_cases hkq : k < r.q
        · rw [hall k hkq]; simp [hkq]
        · cases hk' : listed.getD k false with
          | false => simp [hkq]
          | true => exact absurd (hlow k hk') hkq
      have hc : cnt (fun k => listed.getD k false) r.all.length = r.q := by
        rw [cnt_congr (E' := fun k => decide (k < r.q)) hE]
        have : ∀ n, r.q ≤ n → cnt (fun k => decide (k < r.q)) n = r.q := by
          intro n
          induction n with
          | zero => intro hn; simp [cnt]; omega
          | succ n ih' =>
            intro hn
            rw [cnt_succ]
            by_cases hqn : r.q ≤ n
            · rw [ih' hqn]; have : ¬ n < r.q := by omega
              simp [this]
            · have hq1 : r.q = n + 1 := by omega
              have hf : ∀ j, j ≤ r.q → cnt (fun k => decide (k < r.q)) j = j := by
                intro j
                induction j with
                | zero => intro _; simp [cnt]
                | succ j ih2 => intro hj; rw [cnt_succ, ih2 (by omega)]; have : j < r.q := by omega
                                simp [this]
              rw [hf n (by omega)]; have : n < r.q := by omega
              simp [this]; omega
        exact this _ h.le
      have := hQ A W G listed (s.congr h fun k hk => by rw [hall k hk]; simp [hk]) hl hE
      rw [show r.all.length - r.q = fuel + 1 from by omega] at this
      exact this
    · obtain ⟨k₀, hk₀, hk₀E⟩ : ∃ k, k < r.q ∧ listed.getD k false = false := by
        rcases Classical.em (∃ k, k < r.q ∧ listed.getD k false = false) with he | he
        · exact he
        · exfalso; apply hall; intro k hk
          cases hk' : listed.getD k false with
          | true => rfl
          | false => exact absurd ⟨k, hk, hk'⟩ he
      have hqle := h.le
      refine ⟨fun hempty => absurd hempty (ready_some h hops hl (i := k₀) (by omega) hk₀E), fun i hi => ?_⟩
      obtain ⟨hin, hEi, o, ho, hw⟩ := (ready_iff hops hl).1 hi
      have hclsub := cl_sub h (E := fun k => listed.getD k false) hclosed (i + 1) i o (by omega) ho hw
      have hiq : i < r.q := by
        rcases Nat.lt_or_ge i r.q with hlt | hge
        · exact hlt
        · exfalso
          have := hclsub k₀ (h.tail i k₀ hge hin (by omega))
          rw [hk₀E] at this; cases this
      obtain ⟨hrw, ⟨hlo, hguard⟩, _, _⟩ := h.step i o hiq ho
      have hview := RSt.view h s hiq hclsub
      have hsees := RSt.sees h s hiq ho hEi hw hclosed hlo
      -- what follows
      have follow : ∀ A' W' G', RSt P r c G₀ (fun k => listed.getD k false || k == i) G' A' W' → wpAny P .any ops Q fuel (listed.setIfInBounds i true) A' W' := by
        intro A' W' G' s'
        have hset : ∀ k, (listed.setIfInBounds i true).getD k false = (listed.getD k false || k == i) := fun k => getD_set (by rw [hl]; exact hin)
        refine ih _ A' W' G' (by simp [hl]) ?_ ?_ ?_ (s'.congr h fun k _ => (hset k).symm)
        · have : cnt (fun k => (listed.setIfInBounds i true).getD k false) r.all.length = cnt (fun k => listed.getD k false || k == i) r.all.length := cnt_congr fun k _ => hset k
          rw [this, cnt_or hEi hin]; omega
        · intro k ok hk hok j hj
          rw [hset] at hk ⊢
          simp only [Bool.or_eq_true, beq_iff_eq] at hk ⊢
          rcases hk with hk | hk
          · exact .inl (hclosed k ok hk hok j hj)
          · subst hk
            rw [ho] at hok
            cases hok
            exact .inl (hw j hj)
        · intro k hk
          rw [hset] at hk
          simp only [Bool.or_eq_true, beq_iff_eq] at hk
          rcases hk with hk | hk
          · exact hlow k hk
          · omega
      have hops' : ops[i]? = some o := by rw [← ho, ← hops]; simp
      have exec : Quiet P o (rhoFor (o.looksAt r.all.toArray) (r.fr i)) (memFor (r.cls.getD i []) r.m (r.sl i)) (r.d i) → o.wp P A W (wpAny P .any ops Q fuel (listed.setIfInBounds i true)) Q := by
        intro hq
        have := hq _ W A.eval s.rel.good hview hsees
        unfold Oper.wp
        generalize (execOp A.eval o).run P W = res at this ⊢
        split at this
        · obtain ⟨G', s'⟩ := RSt.next h s hiq ho hEi this hrw
          exact follow _ _ _ s'
        · obtain ⟨G', s'⟩ := RSt.next h s hiq ho hEi this hrw
          exact follow _ _ _ s'
        · simp only [Oper.upon]
          refine this.mono ?_
          rintro e W'' ⟨w, rfl, hf⟩
          obtain ⟨G', s'⟩ := RSt.next h s hiq ho hEi hf hrw
          exact follow _ _ _ s'
        · exact this.elim
      unfold wpOp
      rw [hops']
      simp only
      cases hg : o.guard with
      | none =>
        rw [hg] at hguard
        rw [if_pos (by simp [Region.wanted, hg])]
        exact .inl (exec hguard)
      | some jw =>
        obtain ⟨j, want⟩ := jw
        rw [hg] at hguard
        rcases hguard with ⟨b, hb, hyes, hno⟩ | ⟨l, hb, hd⟩
        · have hy : yielded ops A.tmps j = some b := by
            unfold yielded
            cases hoj : r.all[j]? with
            | none => rw [hoj] at hb; simp at hb
            | some oj =>
              rw [hoj] at hb
              simp only [Option.bind_some] at hb
              cases hd : oj.dst with
              | none => rw [hd] at hb; simp at hb
              | some t =>
                rw [hd] at hb
                simp only [Option.bind_some] at hb
                have ht : t ∈ o.looksAt r.all.toArray := by
                  unfold Oper.looksAt
                  rw [hg]
                  simp [hoj, hd]
                have e := RD.same_looks h (E := fun k => listed.getD k false) hiq ho hEi hw hclosed ht
                rw [← e] at hb
                obtain ⟨w, hw', hvw⟩ := s.frm.tmps.get t _ hb
                obtain rfl := SR.inv_bool hvw
                have hw2 : A.tmps[t]? = some (.bool b) := by rw [← Array.getElem?_toList]; exact hw'
                have ho' : ops[j]? = some oj := by rw [← hoj, ← hops]; simp
                rw [ho']
                simp [hd, hw2]
          by_cases hbw : b = want
          · rw [if_pos (by simp [Region.wanted, hg, hy, hbw])]
            exact .inl (exec (hyes hbw))
          · rw [if_neg (by simp [Region.wanted, hg, hy, hbw])]
            have hd := hno hbw
            obtain ⟨G', s'⟩ := RSt.next h s hiq ho hEi (w := undef) (W' := W) ⟨[], s.rel.good, by rw [hd]; simpa using hview, by rw [hd]; simpa using VR.undef _⟩ hrw
            exact follow _ _ _ s'
        · have hy : yielded ops A.tmps j = none := by
            unfold yielded
            cases hoj : r.all[j]? with
            | none => rw [hoj] at hb; simp at hb
            | some oj =>
              rw [hoj] at hb
              simp only [Option.bind_some] at hb
              cases hd : oj.dst with
              | none => rw [hd] at hb; simp at hb
              | some t =>
                rw [hd] at hb
                simp only [Option.bind_some] at hb
                have ht : t ∈ o.looksAt r.all.toArray := by
                  unfold Oper.looksAt
                  rw [hg]
                  simp [hoj, hd]
                have e := RD.same_looks h (E := fun k => listed.getD k false) hiq ho hEi hw hclosed ht
                rw [← e] at hb
                obtain ⟨w, hw', hvw⟩ := s.frm.tmps.get t _ hb
                have hw2 : A.tmps[t]? = some w := by rw [← Array.getElem?_toList]; exact hw'
                have ho' : ops[j]? = some oj := by rw [← hoj, ← hops]; simp
                rw [ho']
                cases hvw with
                | a hvw => cases hvw with
                  | s hvw => cases hvw
                | tup _ => simp [hd, hw2]
          rw [if_neg (by simp [Region.wanted, hg, hy])]
          obtain ⟨G', s'⟩ := RSt.next h s hiq ho hEi (w := undef) (W' := W) ⟨[], s.rel.good, by rw [hd]; simpa using hview, by rw [hd]; simpa using VR.undef _⟩ hrw
          exact follow _ _ _ s'
end Go.AE
end
section
namespace Go.AE
variable {P : Program}
def rd0 (ops : Array Oper) : RD := ⟨ops.toList, [], 0, [], [], fun _ => [], fun _ => [], fun _ => ⟨undef, none⟩⟩
theorem ready_at {ops : Array Oper} {listed : Array Bool} (hl : listed.size = ops.size) {i : Nat} : i ∈ Region.ready .any ops listed ↔
    i < ops.size ∧ listed.getD i false = false ∧ ∃ o, ops[i]? = some o ∧ ∀ j ∈ waits o, listed.getD j false = true := by
  have := ready_iff (r := rd0 ops) (ops := ops) rfl (listed := listed) (by simpa [rd0] using hl) (i := i)
  simpa [rd0] using this
theorem wpOp_move {ops : Array Oper} {Q : Exit → Act → World → Prop} {i d t : Nat} {o : Oper} (ho : ops[i]? = some o) (hop : o.op = .move (.tmp t)) (hd : o.dst = some d) (hg : o.guard = none) {N : Act → World → Prop} {A : Act} {W : World} :
    wpOp P ops Q i N A W ↔ N (A.put (some d) (A.eval (.tmp t))) W := by
  have he : execOp A.eval o = pure (.value (A.eval (.tmp t))) := by simp only [execOp, hop]
  unfold wpOp
  rw [ho]
  simp only [Region.wanted, hg, if_true, Oper.wp, Oper.asks, he, hd]
  constructor
  · rintro (h | ⟨⟨h, _⟩, _⟩)
    · rw [← hd]; exact h
    · have : ((pure (Next.value (A.eval (.tmp t))) : Sem Next).runT P W #[]).2 = #[] := rfl
      rw [this] at h
      simp at h
  · intro h
    exact .inl (by rw [← hd] at h; exact h)
theorem wpOp_store {ops ops' : Array Oper} {Q : Exit → Act → World → Prop} {i : Nat} {o o' : Oper} {te : TypeId} {x y : Operand} (ho : ops[i]? = some o) (ho' : ops'[i]? = some o') (hop : o.op = .store te x y) (hop' : o'.op = .store te x y) (hd : o.dst = none) (hd' : o'.dst = none)
    (hg : o.guard = none) (hg' : o'.guard = none) {N N' : Act → World → Prop} {A A' : Act} {W : World} (hx : A'.eval x = A.eval x) (hy : A'.eval y = A.eval y) (hnp : ∀ c a w, ¬ Q (.panic c) a w) (h : wpOp P ops' Q i N' A' W) (hN : ∀ W', N' A' W' → N A W') : wpOp P ops Q i N A W := by
  have he : execOp A'.eval o' = execOp A.eval o := by simp only [execOp, hop, hop', hx, hy]
  unfold wpOp at h ⊢
  rw [ho'] at h
  rw [ho]
  simp only [Region.wanted, hg, hg', if_true, Oper.wp, Oper.asks, he] at h ⊢
  refine h.imp (fun h => ?_) fun h => h
  have hs : execOp A.eval o = (do Instr.storeAt te (A.eval x) (A.eval y); pure .skip) := by simp only [execOp, hop]
  rw [hs, Sem.run_bind] at h ⊢
  cases hr : (Instr.storeAt te (A.eval x) (A.eval y)).run P W with
  | ok u w' =>
    rw [hr] at h
    simp only [Result.andThen] at h ⊢
    have h1 : N' (A'.put o'.dst undef) w' := h
    rw [hd'] at h1
    show N (A.put o.dst undef) w'
    rw [hd]
    exact hN w' h1
  | halt s w' =>
    rw [hr] at h
    simp only [Result.andThen] at h ⊢
    cases s with
    | panic v => exact absurd h (hnp _ _ _)
    | _ => exact h
theorem set_set {l : Array Bool} {i j : Nat} (h : i ≠ j) : (l.setIfInBounds i true).setIfInBounds j true = (l.setIfInBounds j true).setIfInBounds i true := by
  apply Array.ext_getElem?
  intro k
  simp only [Array.getElem?_setIfInBounds, Array.size_setIfInBounds]
  by_cases h1 : i = k <;> by_cases h2 : j = k
  · omega
  · simp [h1, h2]
  · simp [h1, h2]
  · simp [h1, h2]
theorem wpAny_late {ops ops' : Array Oper} {Q : Exit → Act → World → Prop} {p d t : Nat} {te : TypeId} {x y : Operand} {om oq oq' : Oper} (hm : ops[p]? = some om) (hq : ops[p + 1]? = some oq) (hq' : ops'[p + 1]? = some oq')
    (hsame : ∀ i, i ≠ p + 1 → ops'[i]? = ops[i]?) (hsz : ops'.size = ops.size) (mop : om.op = .move (.tmp t)) (md : om.dst = some d) (mg : om.guard = none)
    (qop : oq.op = .store te x y) (qd : oq.dst = none) (qg : oq.guard = none) (qop' : oq'.op = .store te x y) (qd' : oq'.dst = none) (qg' : oq'.guard = none) (hw : ∀ j, j ∈ waits oq' ↔ j ∈ waits oq ∨ j = p)
    (hx : x ≠ .tmp d) (hy : y ≠ .tmp d) (hpw : ∀ j ∈ waits om, j < p) (hqw : ∀ j, j < p → j ∈ waits oq) (hlate : ∀ j o, p + 1 < j → ops[j]? = some o → p ∈ waits o) (hnp : ∀ c a w, ¬ Q (.panic c) a w) :
    ∀ (n fuel : Nat), fuel ≤ n → ∀ (listed : Array Bool) (A : Act) (W : World), listed.size = ops.size → wpAny P .any ops' Q fuel listed A W → wpAny P .any ops Q fuel listed A W := by
  have hm' : ops'[p]? = some om := by rw [hsame p (by omega), hm]
  have hplt : p < ops.size := by
    rcases Nat.lt_or_ge p ops.size with h | h
    · exact h
    · rw [Array.getElem?_eq_none h] at hm; cases hm
  have hqlt : p + 1 < ops.size := by
    rcases Nat.lt_or_ge (p + 1) ops.size with h | h
    · exact h
    · rw [Array.getElem?_eq_none h] at hq; cases hq
  have evk : ∀ (A : Act) (v : Value) (z : Operand), z ≠ .tmp d → (A.put (some d) v).eval z = A.eval z := by
    intro A v z hz
    cases z with
    | tmp k =>
      have : d ≠ k := fun e => hz (by rw [e])
      simp only [Act.eval, Act.put, Array.getD_eq_getD_getElem?, Array.getElem?_setIfInBounds, if_neg this]
    | const v => rfl
    | global _ => rfl
    | func _ => rfl
  have yl : ∀ tmps j, yielded ops' tmps j = yielded ops tmps j := by
    intro tmps j
    unfold yielded
    by_cases hj : j = p + 1
    · subst hj; rw [hq, hq']; simp [qd, qd']
    · rw [hsame j hj]
  -- what is ready
  have back : ∀ (listed : Array Bool), listed.size = ops.size → ∀ i, i ∈ Region.ready .any ops' listed → i ∈ Region.ready .any ops listed := by
    intro listed hl i hi
    obtain ⟨h1, h2, o, ho, hwt⟩ := (ready_at (by rw [hsz]; exact hl)).1 hi
    rw [hsz] at h1
    refine (ready_at hl).2 ⟨h1, h2, ?_⟩
    by_cases hip : i = p + 1
    · subst hip
      rw [hq'] at ho; cases ho
      exact ⟨oq, hq, fun j hj => hwt j ((hw j).2 (.inl hj))⟩
    · rw [hsame i hip] at ho
      exact ⟨o, ho, hwt⟩
  have fwd : ∀ (listed : Array Bool), listed.size = ops.size → ∀ i, i ∈ Region.ready .any ops listed → i ∈ Region.ready .any ops' listed ∨ (i = p + 1 ∧ listed.getD p false = false ∧ p ∈ Region.ready .any ops' listed ∧ ∀ j ∈ waits oq, listed.getD j false = true) := by
    intro listed hl i hi
    obtain ⟨h1, h2, o, ho, hwt⟩ := (ready_at hl).1 hi
    by_cases hip : i = p + 1
    · subst hip
      rw [hq] at ho; cases ho
      cases hpl : listed.getD p false with
      | true =>
        refine .inl ((ready_at (by rw [hsz]; exact hl)).2 ⟨by rw [hsz]; exact h1, h2, oq', hq', fun j hj => ?_⟩)
        rcases (hw j).1 hj with h | h
        · exact hwt j h
        · rw [h]; exact hpl
      | false =>
        refine .inr ⟨rfl, rfl, (ready_at (by rw [hsz]; exact hl)).2 ⟨by rw [hsz]; exact hplt, hpl, om, hm', fun j hj => hwt j (hqw j (hpw j hj))⟩, hwt⟩
    · exact .inl ((ready_at (by rw [hsz]; exact hl)).2 ⟨by rw [hsz]; exact h1, h2, o, by rw [hsame i hip]; exact ho, hwt⟩)
  intro n
  induction n with
  | zero =>
    intro fuel hf listed A W hl h
    obtain rfl : fuel = 0 := by omega
    refine ⟨?_, h.2⟩
    cases hre : Region.ready .any ops listed with
    | nil => rfl
    | cons i rest =>
      exfalso
      rcases fwd listed hl i (by rw [hre]; exact List.mem_cons_self) with h' | ⟨_, _, h', _⟩ <;> (rw [h.1] at h'; cases h')
  | succ n ih =>
    intro fuel hf listed A W hl h
    cases fuel with
    | zero => exact ih 0 (by omega) listed A W hl h
    | succ f =>
      refine ⟨fun hempty => h.1 ?_, fun i hi => ?_⟩
      · cases hre : Region.ready .any ops' listed with
        | nil => rfl
        | cons i rest =>
          have := back listed hl i (by rw [hre]; exact List.mem_cons_self)
          rw [hempty] at this; cases this
      rcases fwd listed hl i hi with hi' | ⟨rfl, hpl, hp', hwt⟩
      · have hN : ∀ a w, wpAny P .any ops' Q f (listed.setIfInBounds i true) a w → wpAny P .any ops Q f (listed.setIfInBounds i true) a w := fun a w => ih f (by omega) _ a w (by simpa using hl)
        have := wpOp_mono hN (h.2 i hi')
        by_cases hip : i = p + 1
        · subst hip
          exact wpOp_store hq hq' qop qop' qd qd' qg qg' rfl rfl hnp this fun _ h => h
        · unfold wpOp at this ⊢
          rw [hsame i hip] at this
          have hy : yielded ops' A.tmps = yielded ops A.tmps := funext (yl A.tmps)
          rw [hy] at this
          exact this
      · have h1 := (wpOp_move hm' mop md mg).1 (h.2 p hp')
        have hl1 : (listed.setIfInBounds p true).size = ops.size := by simpa using hl
        have hq1 : p + 1 ∈ Region.ready .any ops' (listed.setIfInBounds p true) := by
          obtain ⟨_, h2, _⟩ := (ready_at hl).1 hi
          refine (ready_at (by rw [hsz]; exact hl1)).2 ⟨by rw [hsz]; exact hqlt, ?_, oq', hq', fun j hj => ?_⟩
          · rw [getD_set (by omega), h2]; simp
          · rw [getD_set (by omega)]
            rcases (hw j).1 hj with h | h
            · rw [hwt j h]; rfl
            · rw [h]; simp
        cases f with
        | zero => rw [h1.1] at hq1; cases hq1
        | succ f' =>
          have h2 := h1.2 (p + 1) hq1
          refine wpOp_store hq hq' qop qop' qd qd' qg qg' (evk A _ x hx) (evk A _ y hy) hnp h2 fun W' h3 => ?_
          have hl2 : (listed.setIfInBounds (p + 1) true).size = ops.size := by simpa using hl
          have hpr : p ∈ Region.ready .any ops (listed.setIfInBounds (p + 1) true) := by
            refine (ready_at hl2).2 ⟨hplt, ?_, om, hm, fun j hj => ?_⟩
            · rw [getD_set (by omega), hpl]; simp
            · rw [getD_set (by omega), hwt j (hqw j (hpw j hj))]; rfl
          refine ⟨fun hempty => (by rw [hempty] at hpr; cases hpr), fun i' hi2 => ?_⟩
          obtain ⟨g1, g2, o2, ho2, hw2⟩ := (ready_at hl2).1 hi2
          have hip : i' = p := by
            rcases Nat.lt_trichotomy i' p with hlt | he | hgt
            · rw [getD_set (by omega), hwt i' (hqw i' hlt)] at g2; simp at g2
            · exact he
            · exfalso
              by_cases e : i' = p + 1
              · subst e; rw [getD_set (by omega)] at g2; simp at g2
              · have := hw2 p (hlate i' o2 (by omega) ho2)
                rw [getD_set (by omega), hpl] at this
                simp at this
          subst hip
          refine (wpOp_move hm mop md mg).2 ?_
          refine ih f' (by omega) _ _ W' (by simpa using hl) ?_
          rw [set_set (by omega)]
          exact h3
def lateAt (all : List Oper) (p : Nat) : Bool := match all[p]?, all[p + 1]? with
  | some om, some oq => match om.op, om.dst, om.guard, oq.op, oq.dst, oq.guard with
    | .move (.tmp _), some d, none, .store _ x y, none, none =>
      (match x with | .tmp k => !Nat.beq k d | _ => true) && (match y with | .tmp k => !Nat.beq k d | _ => true) &&
      !(waits oq).contains p && (waits om).all (fun j => Nat.blt j p) && (List.range p).all (fun j => (waits oq).contains j) &&
      (List.range all.length).all (fun j => Nat.ble j (p + 1) || match all[j]? with | some o => (waits o).contains p | none => true)
    | _, _, _, _, _, _ => false
  | _, _ => false
def addEdge (p : Nat) (o : Oper) : Oper := { o with after := o.after.push ⟨p, .data⟩ }
def lateFix (all : List Oper) : Nat → List Oper
  | 0 => all
  | p + 1 => bif lateAt all p then all.modify (p + 1) (addEdge p) else all
theorem waits_addEdge (p : Nat) (o : Oper) (j : Nat) : j ∈ waits (addEdge p o) ↔ j ∈ waits o ∨ j = p := by
  simp only [waits, addEdge, Array.toList_push, List.filter_append, List.map_append, List.mem_append]
  have : ([({ on := p, ground := .data } : Edge)].filter (Region.binds .any)).map (·.on) = [p] := rfl
  rw [this]; simp
theorem wpAny_fix {ops : Array Oper} {Q : Exit → Act → World → Prop} (hnp : ∀ c a w, ¬ Q (.panic c) a w) (q : Nat) {fuel : Nat} {listed : Array Bool} {A : Act} {W : World} (hl : listed.size = ops.size)
    (h : wpAny P .any (lateFix ops.toList q).toArray Q fuel listed A W) : wpAny P .any ops Q fuel listed A W := by
  cases q with
  | zero => simpa [lateFix] using h
  | succ p =>
    cases hla : lateAt ops.toList p with
    | false =>
      simp only [lateFix, hla, cond_false] at h
      simpa using h
    | true =>
      simp only [lateFix, hla, cond_true] at h
      unfold lateAt at hla
      split at hla
      · rename_i om oq hm hq
        split at hla
        · rename_i t d te x y mop md mg qop qd qg
          simp only [Bool.and_eq_true] at hla
          obtain ⟨⟨⟨⟨⟨h1, h2⟩, _⟩, h4⟩, h5⟩, h6⟩ := hla
          have hm' : ops[p]? = some om := by rw [← hm]; simp
          have hq' : ops[p + 1]? = some oq := by rw [← hq]; simp
          refine wpAny_late (oq' := addEdge p oq) hm' hq' ?_ ?_ (by simp) mop md mg qop qd qg qop qd qg (waits_addEdge p oq) ?_ ?_ ?_ ?_ ?_ hnp fuel fuel (Nat.le_refl _) listed A W hl h
          · simp [hq']
          · intro i hi
            simp only [List.getElem?_toArray, List.getElem?_modify]
            have : ¬ p + 1 = i := fun e => hi e.symm
            simp [this]
          · rintro rfl
            simp only [Bool.not_eq_true'] at h1
            rw [Nat.beq_refl] at h1; cases h1
          · rintro rfl
            simp only [Bool.not_eq_true'] at h2
            rw [Nat.beq_refl] at h2; cases h2
          · intro j hj
            exact Nat.le_of_ble_eq_true (List.all_eq_true.1 h4 j hj)
          · intro j hj
            exact contains_iff.1 (List.all_eq_true.1 h5 j (List.mem_range.2 hj))
          · intro j o hj ho
            have hjl : j < ops.size := by
              rcases Nat.lt_or_ge j ops.size with h | h
              · exact h
              · rw [Array.getElem?_eq_none h] at ho; cases ho
            have := List.all_eq_true.1 h6 j (List.mem_range.2 (by simpa using hjl))
            simp only [Bool.or_eq_true] at this
            rcases this with h | h
            · have := Nat.le_of_ble_eq_true h; omega
            · have ho' : ops.toList[j]? = some o := by rw [← ho]; simp
              rw [ho'] at h
              exact contains_iff.1 h
        · cases hla
      · cases hla
end Go.AE
end
section
namespace Go.AE
variable {P : Program}
def drawOk (all : List Oper) (cls : List (List Nat)) (q : Nat) : Bool :=
  decide (q ≤ all.length) &&
  ((List.range all.length).all fun i => match all[i]? with
    | some o => ((waits o).all fun j => decide (j < i)) && ((cls.getD i []).all fun x => (waits o).contains x || (waits o).any fun j => (cls.getD j []).contains x) && (decide (i < q) || (List.range i).all fun j => (cls.getD i []).contains j)
    | none => true) &&
  ((List.range q).all fun i => (List.range q).all fun k => i == k ||
    match all[i]?, all[k]? with
    | some oi, some ok =>
      match ok.dst with
      | some t => oi.dst != some t && (!(oi.looksAt all.toArray).contains t || (decide (k < i) && (waits oi).contains k) || (decide (i < k) && (waits ok).contains i))
      | none => true
    | _, _ => true)
theorem Qts.data {all : List Oper} {cls : List (List Nat)} {m : Mem} : ∀ {i : Nat} {l : List Oper} {a a' : List Value} {sl sl' : Slots} {ds : List QD}, Qts P all cls m i l a sl ds a' sl' →
    ∃ (fr : Nat → List Value) (sls : Nat → Slots) (d : Nat → QD), fr i = a ∧ sls i = sl ∧ fr (i + l.length) = a' ∧ sls (i + l.length) = sl' ∧
      ∀ k o, l[k]? = some o → (∀ b, (d (i + k)).nb = some b → b.rw = true) ∧ QtOK P all (cls.getD (i + k) []) m o (fr (i + k)) (sls (i + k)) (d (i + k)) ∧ fr (i + k + 1) = putA (fr (i + k)) o.dst (d (i + k)).v ∧
        sls (i + k + 1) = sls (i + k) ++ (d (i + k)).nb.toList.map fun b => (i + k, b) := by
  intro i l a a' sl sl' ds h
  induction h with
  | nil i a sl => exact ⟨fun _ => a, fun _ => sl, fun _ => ⟨undef, none⟩, rfl, rfl, rfl, rfl, fun k o h => by simp at h⟩
  | @cons i o rest a a' sl sl' d ds hrw hq _ ih =>
    obtain ⟨fr, sls, dd, h1, h2, h3, h4, h5⟩ := ih
    refine ⟨fun k => if k = i then a else fr k, fun k => if k = i then sl else sls k, fun k => if k = i then d else dd k, by simp, by simp, ?_, ?_, ?_⟩
    · have : i + (o :: rest).length ≠ i := by simp
      show (if i + (o :: rest).length = i then a else fr (i + (o :: rest).length)) = a'
      rw [if_neg this, ← h3]; simp [Nat.add_assoc, Nat.add_comm 1]
    · have : i + (o :: rest).length ≠ i := by simp
      show (if i + (o :: rest).length = i then sl else sls (i + (o :: rest).length)) = sl'
      rw [if_neg this, ← h4]; simp [Nat.add_assoc, Nat.add_comm 1]
    · intro k o' hk
      cases k with
      | zero =>
        simp only [List.getElem?_cons_zero, Option.some.injEq] at hk
        subst hk
        simp only [Nat.add_zero, if_true]
        refine ⟨hrw, hq, ?_, ?_⟩
        · rw [if_neg (by omega), h1]
        · rw [if_neg (by omega), h2]
      | succ k =>
        simp only [List.getElem?_cons_succ] at hk
        have := h5 k o' hk
        rw [show i + (k + 1) = i + 1 + k from by omega]
        have n1 : i + 1 + k ≠ i := by omega
        have n2 : i + 1 + k + 1 ≠ i := by omega
        simp only [if_neg n1, if_neg n2]
        exact this
theorem all_range {n : Nat} {p : Nat → Bool} (h : (List.range n).all p = true) {i : Nat} (hi : i < n) : p i = true := List.all_eq_true.1 h i (List.mem_range.2 hi)
theorem rdok_of {all : List Oper} {cls : List (List Nat)} {q : Nat} {m : Mem} {a a' : List Value} {sl' : Slots} {ds : List QD} (hd : drawOk all cls q = true) (hq : Qts P all cls m 0 (all.take q) a [] ds a' sl') :
    ∃ r : RD, RDOK P r ∧ r.all = all ∧ r.cls = cls ∧ r.q = q ∧ r.m = m ∧ r.a = a ∧ r.fr q = a' ∧ r.sl q = sl' := by
  obtain ⟨fr, sls, d, h1, h2, h3, h4, h5⟩ := hq.data
  simp only [drawOk, Bool.and_eq_true, decide_eq_true_eq] at hd
  obtain ⟨⟨hle, hord⟩, hsl⟩ := hd
  have htl : (all.take q).length = q := by simp [hle]
  rw [htl, Nat.zero_add] at h3 h4
  refine ⟨⟨all, cls, q, m, a, fr, sls, d⟩, ⟨hle, h1, h2, ?_, ?_, ?_, ?_, ?_, ?_⟩, rfl, rfl, rfl, rfl, rfl, h3, h4⟩
  · intro i o hi ho
    have := h5 i o (by rw [List.getElem?_take, if_pos hi]; exact ho)
    simpa using this
  · intro i o ho j hj
    have := all_range hord (lt_of_getElem? ho)
    simp only at ho
    rw [ho] at this
    simp only [Bool.and_eq_true] at this
    simpa using List.all_eq_true.1 this.1.1 j hj
  · intro i o ho x hx
    have := all_range hord (lt_of_getElem? ho)
    simp only at ho hx
    rw [ho] at this
    simp only [Bool.and_eq_true] at this
    have := List.all_eq_true.1 this.1.2 x hx
    simp only [Bool.or_eq_true, List.any_eq_true] at this
    rcases this with h | ⟨j, hj, h⟩
    · exact .inl (contains_iff.1 h)
    · exact .inr ⟨j, hj, contains_iff.1 h⟩
  · intro i j hqi hi hji
    have := all_range hord hi
    simp only at hi hqi
    rw [List.getElem?_eq_getElem hi] at this
    simp only [Bool.and_eq_true, Bool.or_eq_true, decide_eq_true_eq] at this
    rcases this.2 with h | h
    · omega
    · exact contains_iff.1 (all_range h hji)
  · intro i k t hi hk hik hdk
    have := all_range (all_range hsl hi) hk
    simp only at hi hk
    have hil : i < all.length := by omega
    have hkl : k < all.length := by omega
    simp only [RD.dst, List.getElem?_eq_getElem hil, List.getElem?_eq_getElem hkl, Option.bind_some] at hdk ⊢
    rw [List.getElem?_eq_getElem hil, List.getElem?_eq_getElem hkl] at this
    simp only [hdk, Bool.or_eq_true, beq_iff_eq, Bool.and_eq_true, bne_iff_ne] at this
    rcases this with h | h
    · exact absurd h hik
    · exact h.1
  · intro i k oi ok t hi hk hik hoi hok hdk ht
    have := all_range (all_range hsl hi) hk
    simp only at hoi hok ht
    rw [hoi, hok] at this
    simp only [hdk, Bool.or_eq_true, beq_iff_eq, Bool.and_eq_true, bne_iff_ne, Bool.not_eq_true', decide_eq_true_eq] at this
    rcases this with h | ⟨_, h⟩
    · exact absurd h hik
    · rcases h with (h | ⟨h, h'⟩) | ⟨h, h'⟩
      · have := contains_iff.2 ht
        rw [h] at this; cases this
      · exact .inl ⟨h, contains_iff.1 h'⟩
      · exact .inr ⟨h, contains_iff.1 h'⟩
variable {r : RD} {G₀ : List (Option GB)}
theorem tail_ok {n₀ : Nat} {R : Type} {X : Ans P n₀ R} {T : Tab P} (h : RDOK P r) {c : Ctx} {g₀ : List (Option GB)} {K : Exit → List Value → Mem → Prop} {ops : Array Oper} (hops : ops.toList = r.all) {k : List Value → Mem → R} (hk : ∀ a m, X.holds (k a m) → K .normal a m) :
    ∀ (l : List Oper) (t : Nat) (listed : Array Bool) (A : Act) (W : World) (a : List Value) (m : Mem) (g : List (Option GB)), r.q ≤ t → l = r.all.drop t → t + l.length = r.all.length → listed.size = r.all.length → (∀ j, j < r.all.length → listed.getD j false = decide (j < t)) →
      X.holds (evOps X T r.all l a m k) → Rel P c (g₀ ++ g) m W → ARel (g₀ ++ g) a A → wpAny P .any ops (Post P c g₀ K) l.length listed A W
  | [], t, listed, A, W, a, m, g, ht, hl, htl, hsz, hE, hh, hr, ha => by
    simp only [evOps, forceL_eq, forceM_eq] at hh
    refine ⟨?_, a, m, g, hk _ _ hh, hr, ha⟩
    cases hre : Region.ready .any ops listed with
    | nil => rfl
    | cons i rest =>
      exfalso
      obtain ⟨h1, h2, _⟩ := (ready_iff hops hsz).1 (by rw [hre]; exact List.mem_cons_self)
      rw [hE i h1] at h2
      simp at htl h2; omega
  | o :: rest, t, listed, A, W, a, m, g, ht, hl, htl, hsz, hE, hh, hr, ha => by
    simp only [List.length_cons] at htl
    have htlt : t < r.all.length := by omega
    have ho : r.all[t]? = some o := by
      have := congrArg (fun l => l[0]?) hl
      simp at this
      exact this.symm
    have hEt : listed.getD t false = false := by rw [hE t htlt]; simp
    refine ⟨fun hempty => absurd hempty (ready_some h hops hsz htlt hEt), fun i hi => ?_⟩
    obtain ⟨hin, hEi, oi, hoi, hw⟩ := (ready_iff hops hsz).1 hi
    have hit : i = t := by
      rw [hE i hin] at hEi
      have hge : t ≤ i := by simpa using hEi
      rcases Nat.lt_or_ge t i with hlt | hle
      · exfalso
        have hclosed : ∀ k ok, listed.getD k false = true → r.all[k]? = some ok → ∀ j ∈ waits ok, listed.getD j false = true := by
          intro k ok hk' hok j hj
          have hkl := lt_of_getElem? hok
          have := h.early k ok hok j hj
          rw [hE k hkl] at hk'
          rw [hE j (by omega)]
          simp at hk' ⊢; omega
        have := cl_sub h (E := fun k => listed.getD k false) hclosed (i + 1) i oi (by omega) hoi hw t (h.tail i t (by omega) hin hlt)
        rw [hEt] at this; cases this
      · omega
    subst hit
    have hops' : ops[i]? = some o := by rw [← ho, ← hops]; simp
    have hset : ∀ k, (listed.setIfInBounds i true).getD k false = (listed.getD k false || k == i) := fun k => getD_set (by rw [hsz]; exact hin)
    have hall : ops = r.all.toArray := by rw [← hops]
    have := evOps_head (c := c) (g₀ := g₀) (Q := Post P c g₀ K) hh hr ha (K := wpAny P .any ops (Post P c g₀ K) rest.length (listed.setIfInBounds i true)) fun a' m' g' A' W' hN hr' ha' =>
      tail_ok h hops hk rest (i + 1) (listed.setIfInBounds i true) A' W' a' m' g' (by omega) (by
        have := congrArg List.tail hl
        simp only [List.tail_cons, List.tail_drop] at this
        exact this) (by omega) (by simp [hsz]) (fun j hj => by
          rw [hset, hE j hj]
          by_cases e : j = i
          · subst e; simp
          · have : (j == i) = false := by simpa using e
            rw [this, Bool.or_false]
            by_cases h1 : j < i
            · simp [h1]; omega
            · have : ¬ j < i + 1 := by omega
              simp [h1, this]) hN hr' ha'
    unfold wpOp
    rw [hops']
    simp only
    rw [← hall] at this
    split
    · rename_i hwn; rw [if_pos hwn] at this; exact .inl this
    · rename_i hwn; rw [if_neg hwn] at this; exact this
def evDraw1 {R : Type} (X : Ops R) (T : Tab P) (all : List Oper) (q : Nat) (a : List Value) (m : Mem) (k : List Value → Mem → R) : R :=
  X.nd (drawOk all (closures all) q) (evQ X T all (closures all) m 0 (all.take q) a [] fun a' sl' => forceM (m ++ sl'.map fun p => some p.2) fun m' => evOps X T all (all.drop q) a' m' k)
theorem draw_any {n₀ : Nat} {R : Type} {X : Ans P n₀ R} {T : Tab P} {K : Exit → List Value → Mem → Prop} {a : List Value} {m : Mem} {ops : Array Oper} {q : Nat} {k : List Value → Mem → R} (h : X.holds (evDraw1 X T ops.toList q a m k))
    (hk : ∀ a m, X.holds (k a m) → K .normal a m) {c : Ctx} {g₀ g : List (Option GB)} {A : Act} {W : World} (hr : Rel P c (g₀ ++ g) m W) (ha : ARel (g₀ ++ g) a A) :
    wpAny P .any ops (Post P c g₀ K) ops.size (Array.replicate ops.size false) A { W with drawn := W.drawn + 1 } := by
  obtain ⟨hd, h⟩ := X.nd_ok _ _ h
  obtain ⟨ds, a', sl', hq, h⟩ := evQ_ok _ _ _ _ _ h
  rw [forceM_eq] at h
  obtain ⟨r, hrd, e1, e2, e3, e4, e5, e6, e7⟩ := rdok_of hd hq
  have hops : ops.toList = r.all := e1.symm
  have hsz : ops.size = r.all.length := by rw [← hops]; simp
  have hrep : ∀ j, (Array.replicate ops.size false).getD j false = false := by
    intro j
    simp only [Array.getD_eq_getD_getElem?, Array.getElem?_replicate]
    split <;> rfl
  have hfr0 : r.frE (fun _ => false) = a := by
    have := RD.fr_lex hrd 0 (by omega)
    rw [hrd.fr0, e5] at this
    rw [this]
    exact r.frE_congr fun k _ => by simp
  have hslots : ∀ i b, i < r.q → (r.d i).nb = some b → r.m.length ≤ r.id i ∧ r.id i < r.m.length + (r.sl r.q).length := by
    intro i b hi hb
    have := (RD.mE_some hrd (E := fun _ => false) hi rfl hb).1
    rw [r.mE_length] at this
    exact ⟨by simp [RD.id], this⟩
  have hm0 : r.mE (fun _ => false) = m ++ (r.sl r.q).map fun _ => none := by
    unfold RD.mE
    rw [e4]; simp
  -- the numbers of the new blocks stand for nothing yet
  have hrel : Rel P c (g₀ ++ g ++ List.replicate (r.sl r.q).length none) (r.mE (fun _ => false)) { W with drawn := W.drawn + 1 } := by
    rw [hm0]
    have hr' : Rel P c (g₀ ++ g) m { W with drawn := W.drawn + 1 } := hr.drew
    have look : ∀ (j : Nat) (b : ABlk) (gb : GB), (m ++ (r.sl r.q).map fun _ => (none : Option ABlk))[j]? = some (some b) → (g₀ ++ g ++ List.replicate (r.sl r.q).length none)[j]? = some (some gb) → m[j]? = some (some b) ∧ (g₀ ++ g)[j]? = some (some gb) := by
      intro j b gb hj hgj
      rcases Nat.lt_or_ge j m.length with hl | hl
      · rw [List.getElem?_append_left hl] at hj
        rw [List.getElem?_append_left (by rw [hr.len]; exact hl)] at hgj
        exact ⟨hj, hgj⟩
      · exfalso
        rw [List.getElem?_append_right hl, List.getElem?_map] at hj
        cases hx : (r.sl r.q)[j - m.length]? <;> rw [hx] at hj <;> simp at hj
    refine ⟨by rw [List.length_append, hr.len]; simp, ?_, ?_, hr'.frame, hr'.size, hr'.os, hr'.tape, hr'.output, hr'.objs.keep hr'.size (Nat.le_refl _) (fun j b gb hj hgj => .inl ⟨b, (look j b gb hj hgj).1, rfl, rfl, (look j b gb hj hgj).2⟩) fun _ _ => .inl rfl, fun j b gb hj hgj => hr'.ro j b gb (look j b gb hj hgj).1 (look j b gb hj hgj).2⟩
    · intro j b gb hj hgj
      obtain ⟨hj, hgj⟩ := look j b gb hj hgj
      obtain ⟨cs, fr, hh, hf, rest⟩ := hr'.blk j b gb hj hgj
      exact ⟨cs, fr, hh, hf.imp fun _ _ h => h.app, rest⟩
    · intro p q' bp bq gp gq hne hp hq' hrw hgp hgq
      obtain ⟨hp, hgp⟩ := look p bp gp hp hgp
      obtain ⟨hq', hgq⟩ := look q' bq gq hq' hgq
      exact hr'.inj p q' bp bq gp gq hne hp hq' hrw hgp hgq
  have s0 : RSt P r c (g₀ ++ g ++ List.replicate (r.sl r.q).length none) (fun k => (Array.replicate ops.size false).getD k false) (g₀ ++ g ++ List.replicate (r.sl r.q).length none) A { W with drawn := W.drawn + 1 } := by
    have he : (fun k => (Array.replicate ops.size false).getD k false) = fun _ => false := funext hrep
    rw [he]
    refine ⟨hrel, by rw [hfr0]; exact ha.app, fun _ _ => rfl, ?_, ?_⟩
    · intro i b hi _ hb
      obtain ⟨h1, h2⟩ := hslots i b hi hb
      rw [List.getElem?_append_right (by rw [hr.len, ← e4]; exact h1), List.getElem?_replicate, if_pos (by rw [hr.len, ← e4]; omega)]
    · intro j b gb hj hgj
      rw [hm0] at hj
      rcases Nat.lt_or_ge j m.length with hl | hl
      · rw [List.getElem?_append_left hl] at hj
        rw [List.getElem?_append_left (by rw [hr.len]; exact hl)] at hgj
        obtain ⟨cs, fr, hh, hf, _⟩ := hr.blk j b gb hj hgj
        have := hf.lowS
        rw [hr.len, ← e4] at this
        exact all_lowS_le (by omega) this
      · exfalso
        rw [List.getElem?_append_right hl, List.getElem?_map] at hj
        cases hx : (r.sl r.q)[j - m.length]? <;> rw [hx] at hj <;> simp at hj
  rw [hsz]
  refine any_ok hrd hops (Q := Post P c g₀ K) ?_ r.all.length (Array.replicate r.all.length false) A _ _ (by simp) ?_ ?_ ?_ (by rw [← hsz]; exact s0)
  · intro A' W' G listed s hls hlE
    have hfull : r.frE (fun k => decide (k < r.q)) = a' := by rw [← RD.fr_lex hrd r.q (Nat.le_refl _), e3, e6]
    have hmfull : r.mE (fun k => decide (k < r.q)) = m ++ sl'.map fun p => some p.2 := by
      unfold RD.mE
      rw [e4]
      congr 1
      rw [e3, e7]
      apply List.map_congr_left
      intro p hp
      have := RD.sl_low hrd (Nat.le_refl r.q) p (by rw [e3, e7]; exact hp)
      rw [e3] at this
      simp [this]
    have hgm : g₀.length + g.length = r.m.length := by rw [← List.length_append, hr.len, e4]
    have hGl : G.length = r.m.length + (r.sl r.q).length := by rw [s.rel.len, r.mE_length]
    -- the caller's numbers stand for what they stood for
    have hG : G = g₀ ++ G.drop g₀.length := by
      apply List.ext_getElem?
      intro j
      rcases Nat.lt_or_ge j g₀.length with hl | hl
      · rw [List.getElem?_append_left hl, s.base j (by omega), List.append_assoc, List.getElem?_append_left hl]
      · rw [List.getElem?_append_right hl, List.getElem?_drop, show g₀.length + (j - g₀.length) = j from by omega]
    have hrel' := s.rel
    have hfrm' := s.frm
    rw [hfull] at hfrm'
    rw [hmfull] at hrel'
    rw [hG] at hrel' hfrm'
    have hdl : (r.all.drop r.q).length = r.all.length - r.q := by simp
    have := tail_ok (T := T) hrd (c := c) (g₀ := g₀) (K := K) hops hk (r.all.drop r.q) r.q listed A' W' a' (m ++ sl'.map fun p => some p.2) (G.drop g₀.length) (Nat.le_refl _) rfl (by rw [hdl]; have := hrd.le; omega) hls hlE
      (by rw [e1, e3]; exact h) hrel' hfrm'
    rw [hdl] at this
    exact this
  · have : cnt (fun k => (Array.replicate r.all.length false).getD k false) r.all.length = 0 := by
      rw [cnt_congr (E' := fun _ => false) fun k _ => by rw [← hsz]; exact hrep k]
      simp [cnt]
    omega
  · intro k ok hk'
    rw [← hsz, hrep] at hk'; cases hk'
  · intro k hk'
    rw [← hsz, hrep] at hk'; cases hk'
def evDraw {R : Type} (X : Ops R) (T : Tab P) (all : List Oper) (q : Nat) (a : List Value) (m : Mem) (k : List Value → Mem → R) : R := evDraw1 X T (lateFix all q) q a m k
theorem lateFix_length (all : List Oper) (q : Nat) : (lateFix all q).length = all.length := by
  cases q with
  | zero => rfl
  | succ p =>
    simp only [lateFix]
    cases lateAt all p <;> simp
theorem AWp.draw {n₀ : Nat} {R : Type} {X : Ans P n₀ R} {T : Tab P} {K : Exit → List Value → Mem → Prop} {a : List Value} {m : Mem} {id : Nat} {ops : Array Oper} {q : Nat} {k : List Value → Mem → R} (h : X.holds (evDraw X T ops.toList q a m k))
    (hk : ∀ a m, X.holds (k a m) → K .normal a m) : AWp P n₀ (.region id ops true) K a m := by
  refine AWp.mono (K := fun e a m => e = .normal ∧ K e a m) ?_ fun _ _ _ h => h.2
  refine AWp.of_any T.mixed (fun _ _ ⟨e, _⟩ => by cases e) ?_
  intro c g₀ g A W hn hr ha
  have hsz : (lateFix ops.toList q).toArray.size = ops.size := by simp [lateFix_length]
  refine wpAny_fix (fun c' a' w' ⟨_, _, _, ⟨e, _⟩, _⟩ => by cases e) q (by simp) ?_
  have := draw_any (K := fun e a m => e = .normal ∧ K e a m) (ops := (lateFix ops.toList q).toArray) (q := q) (k := k) (X := X) (T := T) (a := a) (m := m) h (fun a m h => ⟨rfl, hk a m h⟩) hr ha
  rw [hsz] at this
  exact this
end Go.AE
end
section
namespace Go.AE
variable {P : Program}
def quietLen : List Oper → Nat
  | [] => 0
  | o :: l => if (match o.op with
    | .call ⟨.value _, _, _⟩ => true
    | op => quietOp op) then quietLen l + 1 else 0
def evC {R : Type} (X : Ops R) (T : Tab P) : Nat → Code → List Value → Mem → (Exit → List Value → Mem → R) → R
  | 0, _, _, _, _ => X.fl
  | n + 1, x, a, m, k =>
    match x with
    | .skip => k .normal a m
    | .ret => k .ret a m
    | .exit id => k (.exit id) a m
    | .label _ => k .normal a m
    | .goto l => k (.goto l) a m
    | .seq x y => evC X T n x a m fun e a m =>
        match e with
        | .normal => evC X T n y a m k
        | e => k e a m
    | .block id x => evC X T n x a m fun e a m =>
        match e with
        | .exit id' => if id' = id then k .normal a m else k (.exit id') a m
        | e => k e a m
    | .cond c x y =>
      match aeval a c with
      | .bool b => X.br b (evC X T n x a m k) (evC X T n y a m k)
      | _ => X.fl
    | .region _ ops false => evOps X T ops.toList ops.toList a m (k .normal)
    | .region _ ops true => evDraw X T ops.toList (quietLen ops.toList) a m (k .normal)
    | x => X.code x a m k
theorem AWp.cond {n₀ : Nat} {K : Exit → List Value → Mem → Prop} {a : List Value} {m : Mem} {c : Operand} {x y : Code} {b : Bool} (hc : aeval a c = .bool b) (h1 : b = true → AWp P n₀ x K a m) (h2 : b = false → AWp P n₀ y K a m) : AWp P n₀ (.cond c x y) K a m := by
  intro cx g₀ g A W hn hr ha ds ro rm hcalm
  have hc1 : Calm ro x := hcalm.imp id fun h => by simp only [calmC, Bool.and_eq_true] at h; exact h.1
  have hc2 : Calm ro y := hcalm.imp id fun h => by simp only [calmC, Bool.and_eq_true] at h; exact h.2
  have := ha.eval c
  rw [hc] at this
  have := SR.inv_bool this
  refine wpIn_cond (by rw [addD_eval]; exact this) ?_
  cases b with
  | true => exact h1 rfl cx g₀ g A W hn hr ha ds ro rm hc1
  | false => exact h2 rfl cx g₀ g A W hn hr ha ds ro rm hc2
theorem AWp.region {n₀ : Nat} {R : Type} {X : Ans P n₀ R} {T : Tab P} {K : Exit → List Value → Mem → Prop} {a : List Value} {m : Mem} {id : Nat} {ops : Array Oper} {k : List Value → Mem → R} (h : X.holds (evOps X T ops.toList ops.toList a m k))
    (hk : ∀ a m, X.holds (k a m) → K .normal a m) : AWp P n₀ (.region id ops false) K a m := by
  refine AWp.mono (K := fun e a m => e = .normal ∧ K e a m) ?_ fun _ _ _ h => h.2
  refine AWp.of_list (fun _ _ ⟨e, _⟩ => by cases e) ?_
  intro c g₀ g A W _ hr ha
  have := evOps_ok (c := c) (g₀ := g₀) (K := fun e a m => e = .normal ∧ K e a m) ops.toList a m k h (fun a m h => ⟨rfl, hk a m h⟩) g A W hr ha
  simpa using this
theorem evC_ok {n₀ : Nat} {R : Type} {X : Ans P n₀ R} {T : Tab P} : ∀ (n : Nat) (x : Code) (a : List Value) (m : Mem) (k : Exit → List Value → Mem → R), X.holds (evC X T n x a m k) → AWp P n₀ x (fun e a m => X.holds (k e a m)) a m
  | 0, _, _, _, _, h => absurd h X.fl_ok
  | n + 1, x, a, m, k, h => by
    unfold evC at h
    split at h
    · exact .skip h
    · exact .ret h
    · exact .exit h
    · exact .label h
    · exact .goto h
    · refine .seq ((evC_ok n _ a m _ h).mono ?_)
      intro e a m h
      cases e with
      | normal => exact evC_ok n _ a m k h
      | exit id => exact h
      | goto l => exact h
      | ret => exact h
      | panic ch => exact h
      | outgrown => exact h
    · rename_i id y
      refine .block ((evC_ok n _ a m _ h).mono ?_)
      intro e a m h
      cases e with
      | exit id' =>
        simp only [inBlk]
        by_cases hid : id' = id
        · simp only [if_pos hid] at h ⊢; exact h
        · simp only [if_neg hid] at h ⊢; exact h
      | normal => exact h
      | goto l => exact h
      | ret => exact h
      | panic ch => exact h
      | outgrown => exact h
    · split at h
      case h_2 => exact absurd h X.fl_ok
      rename_i b hb
      obtain ⟨h1, h2⟩ := X.br_ok _ _ _ h
      exact .cond hb (fun e => evC_ok n _ a m k (h1 e)) (fun e => evC_ok n _ a m k (h2 e))
    · exact AWp.region h fun a m h => h
    · exact AWp.draw h fun a m h => h
    · exact X.code_ok _ _ _ _ h
def evJumps {R : Type} (X : Ops R) (T : Tab P) (fuel : Nat) (c : Code) : Nat → Code → List Value → Mem → (Exit → List Value → Mem → R) → R
  | 0, _, _, _, _ => X.fl
  | n + 1, x, a, m, k => evC X T fuel x a m fun e a m =>
      match e with
      | .goto l => match findLabel c l with
        | some rest => evJumps X T fuel c n rest a m k
        | none => k (.goto l) a m
      | e => k e a m
theorem evJumps_ok {n₀ : Nat} {R : Type} {X : Ans P n₀ R} {T : Tab P} {fuel : Nat} {c : Code} {k : Exit → List Value → Mem → R} : ∀ (n : Nat) (x : Code) (a : List Value) (m : Mem), X.holds (evJumps X T fuel c n x a m k) → Jumps P n₀ c (fun e a m => X.holds (k e a m)) n x a m
  | 0, _, _, _, h => absurd h X.fl_ok
  | n + 1, x, a, m, h => by
    refine (evC_ok fuel x a m _ h).mono ?_
    intro e a' m' h
    cases e with
    | goto l =>
      simp only at h ⊢
      cases hf : findLabel c l with
      | none => simp only [hf] at h ⊢; exact h
      | some rest => simp only [hf] at h ⊢; exact evJumps_ok n rest a' m' h
    | normal => exact h
    | exit id => exact h
    | ret => exact h
    | panic ch => exact h
    | outgrown => exact h
def loadA (T : Tab P) (t : TypeId) (addr : Value) (m : Mem) : Option Value :=
  match T.und t, T.inf t, addr with
  | some d, some ti, .pointer (some ⟨j, off, none⟩) =>
    match m[j]? with
    | some (some b) => if isAggD d then (if off + ti.size ≤ b.cells.length then some (.agg ⟨(b.cells.drop off).take ti.size⟩) else none) else b.cells[off]?
    | _ => none
  | _, _, _ => none
theorem loadA_ok {T : Tab P} {t : TypeId} {addr addr' v : Value} {m : Mem} (h : loadA T t addr m = some v) {c : Ctx} {g : List (Option GB)} {W : World} (hr : Rel P c g m W) (ha : VR g addr addr') :
    ∃ w a, addr' = .pointer (some a) ∧ (loadVar t a).run P W = .ok w W ∧ VR g v w := by
  unfold loadA at h
  split at h
  case h_2 => cases h
  rename_i d ti j off hd hti
  split at h
  case h_2 => cases h
  rename_i b hj
  cases ha with
  | a ha => cases ha with
    | s ha => cases ha with
      | ptr _ _ gb hg =>
        split at h
        · rename_i hagg
          split at h
          case isFalse => cases h
          rename_i hc
          simp only [Option.some.injEq] at h
          subst h
          obtain ⟨ys, hys, hf⟩ := hr.loadCells hj hg hc
          refine ⟨.agg ⟨ys⟩, _, rfl, ?_, .agg hf⟩
          simp [loadVar, T.run_isAgg hd, hagg, T.run_size hti, hys]
        · rename_i hagg
          obtain ⟨w, hw, hs⟩ := hr.cell hj hg h
          exact ⟨w, _, rfl, by simp [loadVar, T.run_isAgg hd, hagg, hw], .s hs⟩
def resOf (T : Tab P) (a : List Value) (m : Mem) : ResultVar → Option Value
  | .tmp t => some ((a[t]?).getD undef)
  | .cell t ty => loadA T ty ((a[t]?).getD undef) m
def tupOk : Value → Bool
  | .tuple _ => false
  | .map (some 0) => false
  | _ => true
theorem VR.tupOk {g : List (Option GB)} {v w : Value} (h : VR g v w) (hc : tupOk v = true) : AR g v w := by
  cases h with
  | a h => exact h
  | tup _ => cases hc
  | top _ => cases hc
def resA (T : Tab P) (rs : List ResultVar) (a : List Value) (m : Mem) : Option Value :=
  match rs.mapM (resOf T a m) with
  | some [v] => some v
  | some vs => if vs.all tupOk then some (.tuple ⟨vs⟩) else none
  | none => none
def resM (tmps : Array Value) : ResultVar → Sem Value
  | .tmp t => pure (tmps.getD t undef)
  | .cell a t => do loadVar t (← asAddr (tmps.getD a undef))
theorem resOf_ok {T : Tab P} {a : List Value} {m : Mem} {A : Act} {c : Ctx} {g : List (Option GB)} {W : World} (hr : Rel P c g m W) (ha : ARel g a A) {r : ResultVar} {v : Value} (h : resOf T a m r = some v) :
    ∃ w, (resM A.tmps r).run P W = .ok w W ∧ VR g v w := by
  cases r with
  | tmp t =>
    simp only [resOf, Option.some.injEq] at h
    subst h
    exact ⟨_, rfl, ha.eval (.tmp t)⟩
  | cell t ty =>
    obtain ⟨w, ad, he, hw, hv⟩ := loadA_ok h hr (ha.eval (.tmp t))
    refine ⟨w, ?_, hv⟩
    have he' : A.tmps.getD t undef = .pointer (some ad) := he
    simp only [resM, he', asAddr, pure_bind]
    exact hw
theorem resM_ok {T : Tab P} {a : List Value} {m : Mem} {A : Act} {c : Ctx} {g : List (Option GB)} {W : World} (hr : Rel P c g m W) (ha : ARel g a A) : ∀ (rs : List ResultVar) (vs : List Value), rs.mapM (resOf T a m) = some vs →
    ∃ ws, (rs.mapM (resM A.tmps)).run P W = .ok ws W ∧ F2 (VR g) vs ws
  | [], vs, h => by simp at h; subst h; exact ⟨[], rfl, .nil⟩
  | r :: rs, vs, h => by
    rw [List.mapM_cons] at h
    cases hx : resOf T a m r with
    | none => rw [hx] at h; simp at h
    | some v =>
      cases hy : rs.mapM (resOf T a m) with
      | none => rw [hx, hy] at h; simp at h
      | some us =>
        rw [hx, hy] at h
        simp at h
        subst h
        obtain ⟨w, hw, hv⟩ := resOf_ok hr ha hx
        obtain ⟨ws, hws, hf⟩ := resM_ok hr ha rs us hy
        refine ⟨w :: ws, ?_, .cons hv hf⟩
        rw [List.mapM_cons]
        simp only [Sem.run_bind, hw, Result.andThen_ok, hws, Sem.run_pure]
theorem resA_ok {T : Tab P} {a : List Value} {m : Mem} {A : Act} {c : Ctx} {g : List (Option GB)} {W : World} (hr : Rel P c g m W) (ha : ARel g a A) {fn : Func} {v : Value} (h : resA T fn.results.toList a m = some v) :
    ∃ w, (results fn A.tmps).run P W = .ok w W ∧ VR g v w := by
  unfold resA at h
  have run : ∀ ws, (fn.results.toList.mapM (resM A.tmps)).run P W = .ok ws W → (results fn A.tmps).run P W = .ok (if h : ws.toArray.size = 1 then ws.toArray[0] else .tuple ws.toArray) W := by
    intro ws hw
    have e : results fn A.tmps = (do let vs ← fn.results.mapM (resM A.tmps); pure (if h : vs.size = 1 then vs[0] else .tuple vs) : Sem Value) := rfl
    rw [e, Array.mapM_eq_mapM_toList]
    simp only [Sem.run_bind, Sem.run_map, hw, Result.andThen_ok, Sem.run_pure]
  split at h
  · rename_i u hm
    simp only [Option.some.injEq] at h
    subst h
    obtain ⟨ws, hws, hf⟩ := resM_ok hr ha _ _ hm
    cases hf with
    | cons hv hf => cases hf; exact ⟨_, by rw [run _ hws]; rfl, hv⟩
  · rename_i vs hne hm
    split at h
    case isFalse => cases h
    rename_i hall
    simp only [Option.some.injEq] at h
    subst h
    obtain ⟨ws, hws, hf⟩ := resM_ok hr ha _ _ hm
    have hl := hf.length
    have h1 : ¬ ws.toArray.size = 1 := by
      intro h1
      have : vs.length = 1 := by simpa [hl] using h1
      match vs, this with
      | [v], _ => exact hne v rfl
    refine ⟨_, run _ hws, ?_⟩
    rw [dif_neg h1]
    refine .tup ?_
    clear hws hm h1 hne hl
    induction hf with
    | nil => exact .nil
    | cons hv _ ih =>
      simp only [List.all_cons, Bool.and_eq_true] at hall
      exact .cons (hv.tupOk hall.1) (ih hall.2)
  · cases h
def evF {R : Type} (X : Ops R) (T : Tab P) (n : Nat) (code : Code) (ntmps : Nat) (rs : List ResultVar) (args : List Value) (m : Mem) (k : Value → Mem → R) : R :=
  evC X T n code (args ++ List.replicate (ntmps - args.length) undef) m fun e a' m' =>
    match e with
    | .normal => X.ld (resA T rs a' m') fun v => k v m'
    | .ret => X.ld (resA T rs a' m') fun v => k v m'
    | _ => X.fl
theorem leaves_marks {fn : Func} {tmps : Array Value} {R : Ending → World → Prop} : ∀ (ds : List Deferred) (n0 : Nat) (W : World), (∀ d ∈ ds, ∃ D, d = mark D ∧ n0 ≤ D ∧ W.heap[D]? = some (.deferred (some []))) → (ds.Pairwise fun d e => d ≠ e) →
    (∀ W', (∀ Q : World → Prop, Q W → (∀ W1 D o o', Q W1 → n0 ≤ D → W1.heap[D]? = some o → mine o = false → Q (W1.putObj D o')) → Q W') → ∃ v, (results fn tmps).run P W' = .ok v W' ∧ R (.returned v) W') → LeavesInM Fence.wide 0 P fn tmps R ds .returning W
  | [], n0, W, _, _, h => h W fun Q h _ => h
  | d :: ds, n0, W, hm, hp, h => by
    obtain ⟨D, rfl, hD, hW⟩ := hm d List.mem_cons_self
    obtain ⟨hp1, hp2⟩ := List.pairwise_cons.1 hp
    refine ⟨by simp, .inl ⟨D, _, rfl, run_takeDeferred hW, leaves_marks ds n0 _ (fun d' hd' => ?_) hp2 fun W' hW' => h W' fun Q h0 hs => hW' Q (hs W D _ _ h0 hD hW rfl) hs⟩⟩
    obtain ⟨D', rfl, hD', hW'⟩ := hm d' (List.mem_cons_of_mem _ hd')
    refine ⟨D', rfl, hD', ?_⟩
    rw [World.putObj_heap_other (fun e => hp1 _ hd' (by rw [e]))]
    exact hW'
theorem ACall.of_code {f : FuncId} {fn : Func} {code : Code} {args : List Value} {m : Mem} {K : Value → Mem → Prop} {T : Tab P} (hf : P.funcs[f]? = some fn) (hb : fn.body = some code)
    (h : AWp P m.length code (fun e a' m' => (e = .normal ∨ e = .ret) ∧ ∃ v, resA T fn.results.toList a' m' = some v ∧ K v m') (args ++ List.replicate (fn.ntmps - args.length) undef) m) : ACall P f args m K := by
  intro c g W args' hr hargs
  refine (callsIn_wide (n := 0)).1 (callsIn_of_wp_marks hf hb trivial ?_ rfl)
  have ha : ARel g (args ++ List.replicate (fn.ntmps - args.length) undef) { tmps := (⟨args'⟩ : Array Value) ++ Array.replicate (fn.ntmps - (⟨args'⟩ : Array Value).size) undef, defers := [] } := by
    refine ⟨?_, rfl⟩
    have hl := hargs.length
    rw [Array.toList_append, Array.toList_replicate]
    simp only [List.size_toArray]
    rw [← hl]
    exact hargs.append (F2.replicate _ (.undef g))
  have hw := h c g [] { tmps := (⟨args'⟩ : Array Value) ++ Array.replicate (fn.ntmps - (⟨args'⟩ : Array Value).size) undef, defers := [] } W hr.len (by simpa using hr) (by simpa using ha) [] none 0 (.inl rfl)
  refine wpIn_mono (show Code.wpIn Fence.wide 0 P code _ { tmps := (⟨args'⟩ : Array Value) ++ Array.replicate (fn.ntmps - (⟨args'⟩ : Array Value).size) undef, defers := [] } W from hw) ?_
  intro e A' W' hp
  obtain ⟨a', m', g', c', ds', A0, ⟨he, v, hv, hK⟩, hx, hr', ha', rfl⟩ := hp.next
  have key : LeavesInM Fence.wide 0 P fn A0.tmps (fun e W' => ∃ v v' m' g', e = .returned v' ∧ K v m' ∧ Rel P c (g ++ g') m' W' ∧ VR (g ++ g') v v') (ds' ++ []) .returning W' := by
    rw [List.append_nil]
    refine leaves_marks ds' c.W.heap.size W' (fun d hd => ?_) hx.nd fun W2 hW2 => ?_
    · obtain ⟨D, rfl, q1, q2, q3, q4⟩ := hx.marks d hd
      exact ⟨D, rfl, q1, (hr'.frame D q2 q3).trans q4⟩
    · have hr2 : Rel P c (g ++ g') m' W2 := hW2 (Rel P c (g ++ g') m') (hx.back _ _ _ hr') fun W1 D o o' h1 h2 h3 h4 =>
        h1.grow (grownBy_putObj' W1 D o') fun k hk => by cases hk; exact ⟨h2, o, h3, h4⟩
      obtain ⟨w, hw, hvw⟩ := resA_ok hr2 ha' hv
      exact ⟨w, hw, v, w, m', g', rfl, hK, hr2, hvw⟩
  rcases he with rfl | rfl
  · show LeavesInM Fence.wide 0 P fn A0.tmps _ (A0.defers ++ (ds' ++ [])) .returning W'
    rw [ha'.defers]; exact key
  · show LeavesInM Fence.wide 0 P fn A0.tmps _ (A0.defers ++ (ds' ++ [])) .returning W'
    rw [ha'.defers]; exact key
theorem ACall.of_ev {f : FuncId} {fn : Func} {code : Code} {args : List Value} {m : Mem} {R : Type} (X : Ans P m.length R) (T : Tab P) (n : Nat) {k : Value → Mem → R} (hf : P.funcs[f]? = some fn) (hb : fn.body = some code)
    (h : X.holds (evF X T n code fn.ntmps fn.results.toList args m k)) : ACall P f args m fun v m' => X.holds (k v m') := by
  refine .of_code (T := T) hf hb ((evC_ok n code _ m _ h).mono ?_)
  intro e a' m' h
  cases e with
  | normal => exact ⟨.inl rfl, X.ld_ok _ _ h⟩
  | ret => exact ⟨.inr rfl, X.ld_ok _ _ h⟩
  | exit id => exact absurd h X.fl_ok
  | goto l => exact absurd h X.fl_ok
  | panic ch => exact absurd h X.fl_ok
  | outgrown => exact absurd h X.fl_ok
end Go.AE
namespace Go.AE
def tabOf (P : Program) (h : P.funcs.toList.all (fun d => !(d.name == "runtime.NumGoroutine")) = true) (hm : P.follows .mixedOrders = true) : Tab P where
  mixed := hm
  plainEq t := !(P.eqGuardType P.depth t) && !(P.stoodInHeld t)
  plainEq_ok t h := by simpa using h
  und t := P.underlying t
  inf t := (P.info? t).map fun i => ⟨i.size, i.bytes, i.zero⟩
  fn f := ((P.funcs[f]?).bind (·.body)).isSome
  und_ok _ _ h := h
  inf_ok t x h := by
    cases hi : P.info? t with
    | none => rw [hi] at h; cases h
    | some i =>
      rw [hi] at h
      simp only [Option.map_some, Option.some.injEq] at h
      subst h
      exact ⟨i, rfl, rfl, rfl, rfl⟩
  fn_ok f hf := by
    cases hd : P.funcs[f]? with
    | none => rw [hd] at hf; cases hf
    | some d =>
      rw [hd] at hf
      simp only [Option.bind_some] at hf
      cases hb : d.body with
      | none => rw [hb] at hf; cases hf
      | some c =>
        refine ⟨d, c, rfl, ?_, hb⟩
        have hm : d ∈ P.funcs.toList := by
          have := Array.getElem?_eq_some_iff.1 hd
          obtain ⟨hlt, rfl⟩ := this
          simp
        have := List.all_eq_true.1 h d hm
        simpa using this
end Go.AE
end
section
namespace Go.AE
variable {P : Program}
structure Orc (P : Program) where
  f : FuncId → Option (List Value → Mem → Option (Value × Mem))
  ok : ∀ n s, f n = some s → ∀ as m v m', s as m = some (v, m') → ACall P n as m fun v' m'' => v' = v ∧ m'' = m'
def lowM (n : Nat) (m : Mem) : Bool := m.all fun b => match b with
  | some b => b.cells.all (lowS n)
  | none => true
def gcR (n : Nat) (v : Value) (m : Mem) : Value × Mem :=
  if !lowM n (m.take n) then (v, m) else
  if low n v then (v, m.take n) else
  match v with
  | .slice (some ⟨j, o, s⟩) l c =>
    match m[j]? with
    | some (some b) => if n ≤ j && b.cells.all (lowS n) then (.slice (some ⟨n, o, s⟩) l c, m.take n ++ [some b]) else (v, m)
    | _ => (v, m)
  | _ => (v, m)
theorem Rel.trunc {c : Ctx} {g g' : List (Option GB)} {m : Mem} {W : World} (hr : Rel P c (g ++ g') m W) (hl : lowM g.length (m.take g.length) = true) (hm : g.length ≤ m.length) : Rel P c g (m.take g.length) W := by
  have look : ∀ (j : Nat) (b : ABlk), (m.take g.length)[j]? = some (some b) → j < g.length ∧ m[j]? = some (some b) ∧ b.cells.all (lowS g.length) = true := by
    intro j b hj
    have hb := List.all_eq_true.1 hl (some b) (List.mem_of_getElem? hj)
    rw [List.getElem?_take] at hj
    split at hj
    · rename_i h; exact ⟨h, hj, hb⟩
    · cases hj
  have up : ∀ (j : Nat) (gb : GB), g[j]? = some (some gb) → (g ++ g')[j]? = some (some gb) := fun j gb h => getElem?_app h
  have htake : (g ++ g').take g.length = g := by simp
  refine ⟨by simp [hm], ?_, ?_, hr.frame, hr.size, hr.os, hr.tape, hr.output, hr.objs.keep hr.size (Nat.le_refl _) (fun j b gb hj hg => .inl ⟨b, (look j b hj).2.1, rfl, rfl, up j gb hg⟩) fun _ _ => .inl rfl, fun j b gb hj hg => hr.ro j b gb (look j b hj).2.1 (up j gb hg)⟩
  · intro j b gb hj hg
    obtain ⟨_, hj', hb⟩ := look j b hj
    obtain ⟨cs, fr, hh, hf, rest⟩ := hr.blk j b gb hj' (up j gb hg)
    refine ⟨cs, fr, hh, ?_, rest⟩
    have := F2.low (p := lowS g.length) (S := SR g) (fun v w h hp => by have := SR.low h hp; rwa [htake] at this) hf hb
    exact this
  · intro p q bp bq gp gq hne hp hq hrw hgp hgq
    exact hr.inj p q bp bq gp gq hne (look p bp hp).2.1 (look q bq hq).2.1 hrw (up p gp hgp) (up q gq hgq)
theorem gcR_ok {c : Ctx} {g g' : List (Option GB)} {m : Mem} {W : World} {v w v2 : Value} {m2 : Mem} (he : gcR g.length v m = (v2, m2)) (hr : Rel P c (g ++ g') m W) (hv : VR (g ++ g') v w) : ∃ g2, Rel P c (g ++ g2) m2 W ∧ VR (g ++ g2) v2 w := by
  have same : (v, m) = (v2, m2) → ∃ g2, Rel P c (g ++ g2) m2 W ∧ VR (g ++ g2) v2 w := by
    intro h
    simp only [Prod.mk.injEq] at h
    obtain ⟨rfl, rfl⟩ := h
    exact ⟨g', hr, hv⟩
  have hm : g.length ≤ m.length := by rw [← hr.len]; simp
  have htake : (g ++ g').take g.length = g := by simp
  unfold gcR at he
  split at he
  · exact same he
  · rename_i hl
    replace hl : lowM g.length (m.take g.length) = true := by simpa using hl
    have ht := hr.trunc hl hm
    split at he
    · rename_i hlv
      simp only [Prod.mk.injEq] at he
      obtain ⟨rfl, rfl⟩ := he
      have := hv.low hlv
      rw [htake] at this
      exact ⟨[], by simpa using ht, by simpa using this⟩
    · split at he
      · rename_i j o s l cc he
        split at he
        · rename_i b hj
          split at he
          · rename_i hc
            simp only [Bool.and_eq_true, decide_eq_true_eq] at hc
            simp only [Prod.mk.injEq] at he
            obtain ⟨rfl, rfl⟩ := he
            cases hv with
            | a hv => cases hv with
              | s hv => cases hv with
                | nilS => exact ⟨[none], ht.ghost (some b), .s (.nilS _ _ _ (by simp))⟩
                | slice _ _ _ _ gb hg =>
                  obtain ⟨cs, fr, hh, hf, hsz, hown, hex⟩ := hr.blk j b gb hj hg
                  have hcells : F2 (SR g) b.cells ((cs.toList.drop gb.base).take b.cells.length) := F2.low (p := lowS g.length) (S := SR g) (fun v w h hp => by have := SR.low h hp; rwa [htake] at this) hf hc.2
                  have hml : (m.take g.length).length = g.length := by simp [hm]
                  have split : ∀ (k : Nat) (bk : ABlk) (gk : GB), (m.take g.length ++ [some b])[k]? = some (some bk) → (g ++ [some gb])[k]? = some (some gk) →
                      (k < g.length ∧ (m.take g.length)[k]? = some (some bk) ∧ g[k]? = some (some gk)) ∨ (k = g.length ∧ bk = b ∧ gk = gb) := by
                    intro k bk gk hk hgk
                    rcases Nat.lt_trichotomy k g.length with h | h | h
                    · rw [List.getElem?_append_left (by rw [hml]; exact h)] at hk
                      rw [List.getElem?_append_left h] at hgk
                      exact .inl ⟨h, hk, hgk⟩
                    · subst h
                      rw [List.getElem?_append_right (by rw [hml]; exact Nat.le_refl _), hml] at hk
                      rw [List.getElem?_append_right (Nat.le_refl _)] at hgk
                      simp at hk hgk
                      exact .inr ⟨rfl, hk.symm, hgk.symm⟩
                    · rw [List.getElem?_eq_none (by simp; omega)] at hk; cases hk
                  have old : ∀ (k : Nat) (bk : ABlk) (gk : GB), (m.take g.length)[k]? = some (some bk) → g[k]? = some (some gk) → m[k]? = some (some bk) ∧ (g ++ g')[k]? = some (some gk) := by
                    intro k bk gk hk hgk
                    rw [List.getElem?_take] at hk
                    split at hk
                    · exact ⟨hk, getElem?_app hgk⟩
                    · cases hk
                  refine ⟨[some gb], ⟨by simp [hm], ?_, ?_, hr.frame, hr.size, hr.os, hr.tape, hr.output, ?_, ?_⟩, .s (.slice _ _ _ _ gb (by rw [List.getElem?_append_right (Nat.le_refl _)]; simp))⟩
                  · intro k bk gk hk hgk
                    rcases split k bk gk hk hgk with ⟨_, hk, hgk⟩ | ⟨rfl, rfl, rfl⟩
                    · obtain ⟨cs, fr, hh, hf, rest⟩ := ht.blk k bk gk hk hgk
                      exact ⟨cs, fr, hh, hf.imp fun _ _ h => h.app, rest⟩
                    · exact ⟨cs, fr, hh, hcells.imp fun _ _ h => h.app, hsz, hown, hex⟩
                  · intro p q bp bq gp gq hne hp hq hrw hgp hgq
                    rcases split p bp gp hp hgp with ⟨lp, hp2, hgp2⟩ | ⟨rfl, rfl, rfl⟩ <;> rcases split q bq gq hq hgq with ⟨lq, hq2, hgq2⟩ | ⟨eq1, eq2, eq3⟩
                    · exact ht.inj p q bp bq gp gq hne hp2 hq2 hrw hgp2 hgq2
                    · subst eq2; subst eq3
                      obtain ⟨a1, a2⟩ := old p bp gp hp2 hgp2
                      exact hr.inj p j bp bq gp gq (by omega) a1 hj hrw a2 hg
                    · obtain ⟨a1, a2⟩ := old q bq gq hq2 hgq2
                      exact hr.inj j q bp bq gp gq (by omega) hj a1 hrw hg a2
                    · exact absurd eq1.symm hne
                  rotate_right
                  · intro k bk gk hk hgk h1 h2
                    rcases split k bk gk hk hgk with ⟨_, hk2, hgk2⟩ | ⟨_, rfl, rfl⟩
                    · exact hr.ro k bk gk (old k bk gk hk2 hgk2).1 (old k bk gk hk2 hgk2).2 h1 h2
                    · exact hr.ro j bk gk hj hg h1 h2
                  · refine hr.objs.move hr.size (Nat.le_refl _) (fun k => if k = g.length then j else k) ?_ ?_ (fun _ _ => .inl rfl) ?_
                    · intro k bk gk o hk hgk ho
                      have hrw0 : bk.rw = false := by
                        obtain ⟨fp, rp, hA⟩ := hr.objs
                        rcases split k bk gk hk hgk with ⟨_, hk2, hgk2⟩ | ⟨_, rfl, rfl⟩
                        · exact (hA.rep k bk gk o (old k bk gk hk2 hgk2).1 (old k bk gk hk2 hgk2).2 ho).2
                        · exact (hA.rep j bk gk o hj hg ho).2
                      refine ⟨hrw0, bk, ?_⟩
                      rcases split k bk gk hk hgk with ⟨lk, hk2, hgk2⟩ | ⟨rfl, rfl, rfl⟩
                      · simp only [if_neg (show ¬ k = g.length by omega)]
                        exact ⟨(old k bk gk hk2 hgk2).1, ho, (old k bk gk hk2 hgk2).2⟩
                      · simp only [if_true]
                        exact ⟨hj, ho, hg⟩
                    · intro i k hi hk hik
                      simp only [List.length_append, List.length_cons, List.length_nil, hml] at hi hk
                      show (if i = g.length then j else i) ≠ (if k = g.length then j else k)
                      split <;> split <;> omega
                    · intro k bk gk hk hgk ho
                      rcases split k bk gk hk hgk with ⟨lk, hk2, hgk2⟩ | ⟨rfl, rfl, rfl⟩
                      · exact .inl ⟨k, bk, gk, (old k bk gk hk2 hgk2).1, ho, (old k bk gk hk2 hgk2).2, rfl⟩
                      · exact .inl ⟨j, bk, gk, hj, ho, hg, rfl⟩
          · exact same he
        · exact same he
      · exact same he
theorem ACall.gc {f : FuncId} {as : List Value} {m : Mem} {K : Value → Mem → Prop} (h : ACall P f as m fun v m' => K (gcR m.length v m').1 (gcR m.length v m').2) : ACall P f as m K := by
  intro c g W args' hr ha
  refine (h c g W args' hr ha).mono ?_
  rintro e W' ⟨v, v', m', g', he, hK, hr', hv⟩
  rw [← hr.len] at hK
  obtain ⟨g2, hr2, hv2⟩ := gcR_ok (he := rfl) hr' hv
  exact ⟨_, v', _, g2, he, hK, hr2, hv2⟩
end Go.AE
namespace Go.AE
variable {P : Program}
def evLoop {R : Type} (X : Ops R) (T : Tab P) (fuel : Nat) (body : Code) : Nat → List Value → Mem → (Exit → List Value → Mem → R) → R
  | 0, _, _, _ => X.fl
  | n + 1, a, m, k => evC X T fuel body a m fun e a' m' =>
      match e with
      | .normal => evLoop X T fuel body n a' m' k
      | e => k e a' m'
def Rounds (P : Program) (n₀ : Nat) (body : Code) (K : Exit → List Value → Mem → Prop) : Nat → List Value → Mem → Prop
  | 0, _, _ => False
  | n + 1, a, m => AWp P n₀ body (andThen (Rounds P n₀ body K n) K) a m
theorem AWp.of_rounds {n₀ : Nat} {body : Code} {K : Exit → List Value → Mem → Prop} {n : Nat} {a : List Value} {m : Mem} (h : Rounds P n₀ body K n a m) : AWp P n₀ (.loop body) K a m := by
  refine AWp.loop_rounds n (fun k a m => Rounds P n₀ body K k a m) h ?_
  intro k a m hI
  cases k with
  | zero => exact hI.elim
  | succ k =>
    refine AWp.mono hI ?_
    intro e a' m' h
    cases e with
    | normal => exact ⟨k, by omega, h⟩
    | exit id => exact h
    | goto l => exact h
    | ret => exact h
    | panic ch => exact h
    | outgrown => exact h
theorem evLoop_ok {n₀ : Nat} {R : Type} {X : Ans P n₀ R} {T : Tab P} {fuel : Nat} {body : Code} {k : Exit → List Value → Mem → R} : ∀ (n : Nat) (a : List Value) (m : Mem), X.holds (evLoop X T fuel body n a m k) → Rounds P n₀ body (fun e a m => X.holds (k e a m)) n a m
  | 0, _, _, h => absurd h X.fl_ok
  | n + 1, a, m, h => by
    refine (evC_ok fuel body a m _ h).mono ?_
    intro e a' m' h
    cases e with
    | normal => exact evLoop_ok n a' m' h
    | exit id => exact h
    | goto l => exact h
    | ret => exact h
    | panic ch => exact h
    | outgrown => exact h
abbrev RV := Option (Value × Mem)
def runO (T : Tab P) (O : Orc P) (lf cf : Nat) : Nat → Ops RV
  | 0 => { br _ _ _ := none, nd _ _ := none, fl := none, ld _ _ := none, call _ _ _ _ := none, code _ _ _ _ := none, pcall _ _ _ _ := none }
  | n + 1 =>
    { br c t e := bif c then t else e
      nd c r := bif c then r else none
      fl := none
      ld o k := match o with
        | some v => k v
        | none => none
      call f as m k := match O.f f with
        | some s => match s as m with
          | some (v, m') => forceV v fun v => forceM m' fun m' => k v m'
          | none => none
        | none => match P.funcs[f]? with
          | some fn => match fn.body with
            | some c => evF (runO T O lf cf n) T cf c fn.ntmps fn.results.toList as m fun v m' =>
                match gcR m.length v m' with
                | (v, m') => forceV v fun v => forceM m' fun m' => k v m'
            | none => none
          | none => none
      code x a m k := match x with
        | .loop b => evLoop (runO T O lf cf n) T cf b lf a m k
        | .scope c => evJumps (runO T O lf cf n) T cf c lf c a m k
        | _ => none
      pcall f as m k := match (match O.f f with
        | some s => s as m
        | none => match P.funcs[f]? with
          | some fn => match fn.body with
            | some c => evF (runO T O lf cf n) T cf c fn.ntmps fn.results.toList as m fun v m' => some (gcR m.length v m')
            | none => none
          | none => none) with
        | some (v, m') => bif Nat.ble m.length m'.length then match m'.drop m.length with
          | [] => k v none
          | [some b] => k v (some b)
          | _ => none else none
        | none => none }
theorem runA (T : Tab P) (O : Orc P) (lf cf : Nat) : ∀ (n : Nat) (tgt : Value × Mem) (n₀ : Nat), ∃ X : Ans P n₀ RV, X.toOps = runO T O lf cf n ∧ ∀ r, X.holds r ↔ r = some tgt
  | 0, tgt, n₀ => ⟨{ toOps := runO T O lf cf 0, holds := fun r => r = some tgt, br_ok := fun _ _ _ h => (by cases h), nd_ok := fun _ _ h => (by cases h), fl_ok := fun h => (by cases h), ld_ok := fun _ _ h => (by cases h), call_ok := fun _ _ _ _ h => (by cases h), code_ok := fun _ _ _ _ h => (by cases h), pcall_ok := fun _ _ _ _ h => (by cases h) }, rfl, fun _ => Iff.rfl⟩
  | n + 1, tgt, n₀ => by
    have ih := runA T O lf cf n
    have run : ∀ (f : FuncId) (as : List Value) (m : Mem) (fn : Func) (c : Code) (k : Value → Mem → RV) (tgt : Value × Mem), P.funcs[f]? = some fn → fn.body = some c → evF (runO T O lf cf n) T cf c fn.ntmps fn.results.toList as m k = some tgt →
        ACall P f as m fun v m' => k v m' = some tgt := by
      intro f as m fn c k tgt hf hb h
      obtain ⟨X, hX, hh⟩ := ih tgt m.length
      have := ACall.of_ev X T cf (k := k) hf hb (by rw [hX, hh]; exact h)
      exact this.mono fun v m' h => (hh _).1 h
    refine ⟨{ toOps := runO T O lf cf (n + 1), holds := fun r => r = some tgt, br_ok := ?_, nd_ok := ?_, fl_ok := fun h => (by cases h), ld_ok := ?_, call_ok := ?_, code_ok := ?_, pcall_ok := ?_ }, rfl, fun _ => Iff.rfl⟩
    · intro c t e h
      cases c with
      | true => exact ⟨fun _ => h, fun h => (by cases h)⟩
      | false => exact ⟨fun h => (by cases h), fun _ => h⟩
    · intro c r h
      cases c with
      | true => exact ⟨rfl, h⟩
      | false => cases h
    · intro o k h
      cases o with
      | none => cases h
      | some v => exact ⟨v, rfl, h⟩
    · intro f as m k h
      simp only [runO] at h
      split at h
      · rename_i s hs
        split at h
        · rename_i v m' hsv
          simp only [forceV_eq, forceM_eq] at h
          exact (O.ok f s hs as m v m' hsv).mono fun v' m'' ⟨h1, h2⟩ => by rw [h1, h2]; exact h
        · cases h
      · split at h
        · rename_i fn hf
          split at h
          · rename_i c hb
            have := run f as m fn c _ tgt hf hb h
            refine ACall.gc (this.mono fun v m' h => ?_)
            simp only [forceV_eq, forceM_eq] at h
            exact h
          · cases h
        · cases h
    · intro x a m k h
      simp only [runO] at h
      split at h
      · rename_i b
        obtain ⟨X, hX, hh⟩ := ih tgt n₀
        rw [← hX] at h
        have := evLoop_ok (X := X) (T := T) (k := k) lf a m ((hh _).2 h)
        refine (AWp.of_rounds this).mono fun e a m h => (hh _).1 h
      · rename_i c
        obtain ⟨X, hX, hh⟩ := ih tgt n₀
        rw [← hX] at h
        have := evJumps_ok (X := X) (T := T) (k := k) lf c a m ((hh _).2 h)
        refine (AWp.scope this).mono fun e a m h => (hh _).1 h
      · cases h
    · intro f as m k h
      simp only [runO] at h
      split at h
      · rename_i v m' hev
        have hc : ACall P f as m fun v' m'' => v' = v ∧ m'' = m' := by
          split at hev
          · rename_i s hs
            exact O.ok f s hs as m v m' hev
          · split at hev
            · rename_i fn hf
              split at hev
              · rename_i c hb
                have := run f as m fn c _ (v, m') hf hb hev
                refine ACall.gc (this.mono fun v1 m1 h => ?_)
                simp only [Option.some.injEq] at h
                rw [h]; exact ⟨rfl, rfl⟩
              · cases hev
            · cases hev
        cases hle : Nat.ble m.length m'.length with
        | false => rw [hle] at h; cases h
        | true =>
          have hle' := Nat.le_of_ble_eq_true hle
          rw [hle] at h
          simp only [cond_true] at h
          split at h
          · rename_i hd
            exact ⟨v, none, hc.mono fun v' m'' ⟨h1, h2⟩ => ⟨h1, by rw [h2]; exact hle', by rw [h2, hd]; rfl⟩, h⟩
          · rename_i b hd
            exact ⟨v, some b, hc.mono fun v' m'' ⟨h1, h2⟩ => ⟨h1, by rw [h2]; exact hle', by rw [h2, hd]; rfl⟩, h⟩
          · cases h
      · cases h
theorem ACall.of_run {T : Tab P} {O : Orc P} {lf cf n : Nat} {f : FuncId} {fn : Func} {code : Code} {args : List Value} {m : Mem} {v : Value} {m' : Mem} (hf : P.funcs[f]? = some fn) (hb : fn.body = some code)
    (h : evF (runO T O lf cf n) T cf code fn.ntmps fn.results.toList args m (fun v m' => some (gcR m.length v m')) = some (v, m')) : ACall P f args m fun v' m'' => v' = v ∧ m'' = m' := by
  obtain ⟨X, hX, hh⟩ := runA T O lf cf n (v, m') m.length
  have := ACall.of_ev X T cf (k := fun v m' => some (gcR m.length v m')) hf hb (by rw [hX, hh]; exact h)
  refine ACall.gc (this.mono fun v1 m1 h => ?_)
  have h := (hh _).1 h
  simp only [Option.some.injEq] at h
  rw [h]; exact ⟨rfl, rfl⟩
end Go.AE
end
section
namespace Go.AE
variable {P : Program}
def okR (ρ : Nat → Option Nat) : Value → Bool
  | .pointer (some ⟨j, _, _⟩) => (ρ j).isSome
  | .slice (some ⟨j, _, _⟩) _ _ => (ρ j).isSome
  | .agg ⟨l⟩ => l.all fun v => match v with
    | .pointer (some ⟨j, _, _⟩) => (ρ j).isSome
    | .slice (some ⟨j, _, _⟩) _ _ => (ρ j).isSome
    | _ => true
  | _ => true
def reS (ρ : Nat → Option Nat) : Value → Value
  | .func fn ⟨f⟩ ⟨c⟩ => if (f.all (okR ρ) && c.all (okR ρ)) = true then .func fn ⟨f.map (ren01 fun j => (ρ j).getD 0)⟩ ⟨c.map (ren01 fun j => (ρ j).getD 0)⟩ else topV
  | .pointer (some ⟨j, o, s⟩) => match ρ j with
    | some i => .pointer (some ⟨i, o, s⟩)
    | none => topV
  | .slice (some ⟨j, o, s⟩) n c => match ρ j with
    | some i => .slice (some ⟨i, o, s⟩) n c
    | none => topV
  | v => v
def re1 (ρ : Nat → Option Nat) : Value → Value
  | .agg ⟨l⟩ => .agg ⟨l.map (reS ρ)⟩
  | v => reS ρ v
def re (ρ : Nat → Option Nat) : Value → Value
  | .tuple ⟨l⟩ => .tuple ⟨l.map (re1 ρ)⟩
  | v => re1 ρ v
def Moves (ρ : Nat → Option Nat) (g g' : List (Option GB)) : Prop := (∀ (j i : Nat) (gb : GB), ρ j = some i → g[j]? = some (some gb) → g'[i]? = some (some gb)) ∧ ∀ (j i : Nat), ρ j = some i → j < g.length → i < g'.length
theorem SR0.mv {g g' : List (Option GB)} {ρ : Nat → Option Nat} (h : Moves ρ g g') {v w : Value} (hv : SR0 g v w) (ho : okR ρ v = true) : SR0 g' (ren00 (fun j => (ρ j).getD 0) v) w := by
  cases hv with
  | ptr j off gb hg =>
    obtain ⟨i, hi⟩ := Option.isSome_iff_exists.1 (show (ρ j).isSome = true from ho)
    simp only [ren00, hi, Option.getD_some]
    exact .ptr i off gb (h.1 j i gb hi hg)
  | slice j off len cap gb hg =>
    obtain ⟨i, hi⟩ := Option.isSome_iff_exists.1 (show (ρ j).isSome = true from ho)
    simp only [ren00, hi, Option.getD_some]
    exact .slice i off len cap gb (h.1 j i gb hi hg)
  | bool => exact .bool _
  | int => exact .int _ _
  | str => exact .str _
  | ptr0 => exact .ptr0
  | slice0 => exact .slice0
  | func => exact .func _
  | nilS j off _ hj =>
    obtain ⟨i, hi⟩ := Option.isSome_iff_exists.1 (show (ρ j).isSome = true from ho)
    simp only [ren00, hi, Option.getD_some]
    exact .nilS i off _ (h.2 j i hi hj)
theorem F2.mv00 {g g' : List (Option GB)} {ρ : Nat → Option Nat} (h : Moves ρ g g') {l l' : List Value} (hf : F2 (SR0 g) l l') (ho : okR ρ (.agg ⟨l⟩) = true) : F2 (SR0 g') (l.map (ren00 fun j => (ρ j).getD 0)) l' := by
  induction hf with
  | nil => exact .nil
  | @cons v w l l' hr hf ih =>
    simp only [okR, List.all_cons, Bool.and_eq_true] at ho ih
    refine .cons (hr.mv h ?_) (ih ho.2)
    cases hr <;> first | rfl | exact ho.1
theorem AR0.mv {g g' : List (Option GB)} {ρ : Nat → Option Nat} (h : Moves ρ g g') {v w : Value} (hv : AR0 g v w) (ho : okR ρ v = true) : AR0 g' (ren01 (fun j => (ρ j).getD 0) v) w := by
  cases hv with
  | s hs => rw [ren01_scalar hs.scalarL]; exact .s (hs.mv h ho)
  | agg hf => exact .agg (hf.mv00 h ho)
theorem F2.mv01 {g g' : List (Option GB)} {ρ : Nat → Option Nat} (h : Moves ρ g g') {l l' : List Value} (hf : F2 (AR0 g) l l') (ho : l.all (okR ρ) = true) : F2 (AR0 g') (l.map (ren01 fun j => (ρ j).getD 0)) l' := by
  induction hf with
  | nil => exact .nil
  | cons hr hf ih =>
    simp only [List.all_cons, Bool.and_eq_true] at ho
    exact .cons (hr.mv h ho.1) (ih ho.2)
theorem SR.mv {g g' : List (Option GB)} {ρ : Nat → Option Nat} (h : Moves ρ g g') {v w : Value} (hv : SR g v w) : SR g' (reS ρ v) w := by
  cases hv with
  | top _ h => exact .top _ h
  | ptr j off gb hg =>
    simp only [reS]
    cases hρ : ρ j with
    | none => exact .top _ rfl
    | some i => exact .ptr i off gb (h.1 j i gb hρ hg)
  | slice j off len cap gb hg =>
    simp only [reS]
    cases hρ : ρ j with
    | none => exact .top _ rfl
    | some i => exact .slice i off len cap gb (h.1 j i gb hρ hg)
  | bool => exact .bool _
  | int => exact .int _ _
  | str => exact .str _
  | ptr0 => exact .ptr0
  | slice0 => exact .slice0
  | nilFunc => exact .nilFunc
  | nilIface => exact .nilIface
  | func => exact .func _
  | nilS j off _ hj =>
    simp only [reS]
    cases hρ : ρ j with
    | none => exact .top _ rfl
    | some i => exact .nilS i off _ (h.2 j i hρ hj)
  | clo fn hf hc =>
    simp only [reS]
    split
    · rename_i ho
      rw [Bool.and_eq_true] at ho
      exact .clo fn (hf.mv01 h ho.1) (hc.mv01 h ho.2)
    · exact .top _ rfl
theorem re1_scalar {ρ : Nat → Option Nat} {v : Value} (h : scalarV v = true) : re1 ρ v = reS ρ v := by
  cases v <;> first | rfl | cases h
theorem SR.scalarL {g : List (Option GB)} {v w : Value} (h : SR g v w) : scalarV v = true := by
  cases h <;> rfl
theorem AR.mv {g g' : List (Option GB)} {ρ : Nat → Option Nat} (h : Moves ρ g g') {v w : Value} (hv : AR g v w) : AR g' (re1 ρ v) w := by
  cases hv with
  | s hs => rw [re1_scalar hs.scalarL]; exact .s (hs.mv h)
  | agg hf => exact .agg (by simpa using hf.map (f' := id) (S := SR g') fun _ _ h' => h'.mv h)
theorem AR.notTup {g : List (Option GB)} {v w : Value} (h : AR g v w) {ρ : Nat → Option Nat} : re ρ v = re1 ρ v := by
  cases h with
  | s hs => cases hs <;> rfl
  | agg _ => rfl
theorem VR.mv {g g' : List (Option GB)} {ρ : Nat → Option Nat} (h : Moves ρ g g') {v w : Value} (hv : VR g v w) : VR g' (re ρ v) w := by
  cases hv with
  | a ha => rw [ha.notTup]; exact .a (ha.mv h)
  | tup hf => exact .tup (by simpa using hf.map (f' := id) (S := AR g') fun _ _ h' => h'.mv h)
  | top => exact .top _
def packN (n₀ : Nat) (js : List Nat) (j : Nat) : Option Nat := if j < n₀ then some j else (js.idxOf? j).map (n₀ + ·)
def packB (ρ : Nat → Option Nat) (b : ABlk) : ABlk := { b with cells := b.cells.map (reS ρ) }
def packM (n₀ : Nat) (js : List Nat) (m : Mem) : Mem := ((m.take n₀) ++ js.map fun j => m.getD j none).map fun b => b.map (packB (packN n₀ js))
theorem Sees.pack {n₀ : Nat} {a : List Value} {m : Mem} (js : List Nat) (hn : n₀ ≤ m.length) (hjs : ∀ j ∈ js, n₀ ≤ j ∧ j < m.length) (hd : js.Nodup) : Sees n₀ a m (a.map (re (packN n₀ js))) (packM n₀ js m) := by
  intro P c g₀ g A W hg₀ hr ha
  have hGl : (g₀ ++ g).length = m.length := hr.len
  -- where the new blocks come from
  have src : ∀ i : Nat, i < n₀ + js.length → ∃ j, j < m.length ∧ packN n₀ js j = some i ∧ (((m.take n₀) ++ js.map fun j => m.getD j none)[i]? = m[j]?) ∧ ((g₀ ++ js.map fun j => (g₀ ++ g).getD j none)[i]? = (g₀ ++ g)[j]?) := by
    intro i hi
    rcases Nat.lt_or_ge i n₀ with hl | hl
    · refine ⟨i, by omega, by simp [packN, hl], ?_, ?_⟩
      · rw [List.getElem?_append_left (by simp; omega), List.getElem?_take, if_pos hl]
      · rw [List.getElem?_append_left (by omega), List.getElem?_append_left (by omega)]
    · have hk : i - n₀ < js.length := by omega
      have hjm := hjs _ (List.getElem_mem hk)
      refine ⟨js[i - n₀], hjm.2, ?_, ?_, ?_⟩
      · have : js.idxOf? js[i - n₀] = some (i - n₀) := by
          rw [List.idxOf?_eq_some_iff]
          exact ⟨hk, rfl, fun j hj h => List.pairwise_iff_getElem.1 hd j (i - n₀) (by omega) hk hj h⟩
        simp only [packN, if_neg (by omega : ¬ js[i - n₀] < n₀), this, Option.map_some]
        congr 1; omega
      · rw [List.getElem?_append_right (by simp; omega), List.getElem?_map]
        have e : (List.take n₀ m).length = n₀ := by simp [hn]
        rw [e, List.getElem?_eq_getElem hk, Option.map_some, List.getD_eq_getElem?_getD, List.getElem?_eq_getElem hjm.2]
        rfl
      · rw [List.getElem?_append_right (by omega), List.getElem?_map, hg₀, List.getElem?_eq_getElem hk, Option.map_some, List.getD_eq_getElem?_getD, List.getElem?_eq_getElem (by omega)]
        rfl
  have mv : Moves (packN n₀ js) (g₀ ++ g) (g₀ ++ js.map fun j => (g₀ ++ g).getD j none) := by
    refine ⟨?_, ?_⟩
    case refine_2 =>
      intro j i hρ hj
      unfold packN at hρ
      split at hρ
      · cases hρ; simp; omega
      · cases hx : js.idxOf? j with
        | none => rw [hx] at hρ; cases hρ
        | some k =>
          rw [hx] at hρ
          simp only [Option.map_some, Option.some.injEq] at hρ
          subst hρ
          obtain ⟨hk, hjk, _⟩ := List.idxOf?_eq_some_iff.1 hx
          simp; omega
    intro j i gb hρ hj
    unfold packN at hρ
    split at hρ
    · rename_i hlt
      cases hρ
      rw [List.getElem?_append_left (by omega)] at hj ⊢
      exact hj
    · cases hx : js.idxOf? j with
      | none => rw [hx] at hρ; cases hρ
      | some k =>
        rw [hx] at hρ
        simp only [Option.map_some, Option.some.injEq] at hρ
        subst hρ
        obtain ⟨hk, hjk, _⟩ := List.idxOf?_eq_some_iff.1 hx
        rw [List.getElem?_append_right (by omega), List.getElem?_map, hg₀, show n₀ + k - n₀ = k from by omega, List.getElem?_eq_getElem hk, hjk, Option.map_some, List.getD_eq_getElem?_getD, hj]
        rfl
  have pull : ∀ (i : Nat) (b : ABlk) (gb : GB), (packM n₀ js m)[i]? = some (some b) → (g₀ ++ js.map fun j => (g₀ ++ g).getD j none)[i]? = some (some gb) → ∃ j b0, packN n₀ js j = some i ∧ m[j]? = some (some b0) ∧ b = packB (packN n₀ js) b0 ∧ (g₀ ++ g)[j]? = some (some gb) := by
    intro i b gb hi hgi
    have hil : i < n₀ + js.length := by
      have := lt_of_getElem? hgi
      simp at this; omega
    obtain ⟨j, hj, hρ, h1, h2⟩ := src i hil
    unfold packM at hi
    rw [List.getElem?_map, h1] at hi
    rw [h2] at hgi
    cases hmj : m[j]? with
    | none => rw [hmj] at hi; cases hi
    | some x =>
      rw [hmj] at hi
      cases x with
      | none => simp at hi
      | some b0 =>
        simp only [Option.map_some, Option.some.injEq] at hi
        exact ⟨j, b0, hρ, hmj, hi.symm, hgi⟩
  have hobjs : Objs c.W.heap.size c.F c.R (g₀ ++ js.map fun j => (g₀ ++ g).getD j none) (packM n₀ js m) W := by
    have hlm : (packM n₀ js m).length = n₀ + js.length := by simp [packM, hn]
    have pick : ∀ i, ∃ j, i < n₀ + js.length → packN n₀ js j = some i ∧ (∀ (b : ABlk) (gb : GB), (packM n₀ js m)[i]? = some (some b) → (g₀ ++ js.map fun j => (g₀ ++ g).getD j none)[i]? = some (some gb) → ∃ b0, m[j]? = some (some b0) ∧ b = packB (packN n₀ js) b0 ∧ (g₀ ++ g)[j]? = some (some gb)) := by
      intro i
      by_cases hil : i < n₀ + js.length
      · obtain ⟨j, hj, hρ, h1, h2⟩ := src i hil
        refine ⟨j, fun _ => ⟨hρ, ?_⟩⟩
        intro b gb hi hgi
        unfold packM at hi
        rw [List.getElem?_map, h1] at hi
        rw [h2] at hgi
        cases hmj : m[j]? with
        | none => rw [hmj] at hi; cases hi
        | some x =>
          rw [hmj] at hi
          cases x with
          | none => simp at hi
          | some b0 =>
            simp only [Option.map_some, Option.some.injEq] at hi
            exact ⟨b0, rfl, hi.symm, hgi⟩
      · exact ⟨0, fun h => (hil h).elim⟩
    refine hr.objs.move hr.size (Nat.le_refl _) (fun i => Classical.choose (pick i)) ?_ ?_ (fun _ _ => .inl rfl) ?_
    · intro i b gb o hi hgi ho
      have hil := lt_of_getElem? hi
      rw [hlm] at hil
      obtain ⟨b0, h1, rfl, h2⟩ := (Classical.choose_spec (pick i) hil).2 b gb hi hgi
      obtain ⟨fp, rp, hA⟩ := hr.objs
      exact ⟨(hA.rep _ b0 gb o h1 h2 ho).2, b0, h1, ho, h2⟩
    · intro i k hi hk hik e
      rw [hlm] at hi hk
      have e1 := (Classical.choose_spec (pick i) hi).1
      have e2 := (Classical.choose_spec (pick k) hk).1
      have e : Classical.choose (pick i) = Classical.choose (pick k) := e
      rw [e, e2] at e1
      exact hik (Option.some.inj e1).symm
    · intro i b gb hi hgi ho
      have hil := lt_of_getElem? hi
      rw [hlm] at hil
      obtain ⟨b0, h1, rfl, h2⟩ := (Classical.choose_spec (pick i) hil).2 b gb hi hgi
      exact .inl ⟨_, b0, gb, h1, ho, h2, rfl⟩
  refine ⟨js.map fun j => (g₀ ++ g).getD j none, ⟨?_, ?_, ?_, hr.frame, hr.size, hr.os, hr.tape, hr.output, hobjs, fun i b gb hi hgi h1 h2 => by
    obtain ⟨j, b0, _, hj, rfl, hgj⟩ := pull i b gb hi hgi
    exact hr.ro j b0 gb hj hgj h1 h2⟩, ⟨?_, ha.defers⟩⟩
  · simp [packM, hn, hg₀]
  · intro i b gb hi hgi
    obtain ⟨j, b0, _, hj, rfl, hgj⟩ := pull i b gb hi hgi
    obtain ⟨cs, fr, hh, hf, hsz, rest⟩ := hr.blk j b0 gb hj hgj
    refine ⟨cs, fr, hh, ?_, by simpa [packB] using hsz, by simpa [packB] using rest⟩
    simp only [packB, List.length_map]
    have := hf.map (S := SR (g₀ ++ js.map fun j => (g₀ ++ g).getD j none)) (f := reS (packN n₀ js)) (f' := id) fun _ _ h' => h'.mv mv
    simpa using this
  · intro p q bp bq gp gq hne hp hq hrw hgp hgq
    obtain ⟨jp, b0, e1, h1, rfl, h2⟩ := pull p bp gp hp hgp
    obtain ⟨jq, b1, e2, h3, rfl, h4⟩ := pull q bq gq hq hgq
    exact hr.inj jp jq b0 b1 gp gq (fun e => hne (by rw [e, e2] at e1; exact (Option.some.inj e1).symm)) h1 h3 hrw h2 h4
  · have := ha.tmps.map (S := VR (g₀ ++ js.map fun j => (g₀ ++ g).getD j none)) (f := re (packN n₀ js)) (f' := id) fun _ _ h' => h'.mv mv
    simpa using this
end Go.AE
end
section
namespace Go.AE
variable {P : Program}
def Less (v u : Value) : Prop := u = topV ∨ u = v
theorem F2.less {g : List (Option GB)} {a a' : List Value} (h : F2 Less a a') : ∀ {t : List Value}, F2 (VR g) a t → F2 (VR g) a' t := by
  induction h with
  | nil => intro t ht; cases ht; exact .nil
  | cons hr _ ih =>
    intro t ht
    cases ht with
    | cons hv hf =>
      refine .cons ?_ (ih hf)
      rcases hr with rfl | rfl
      · exact .top _
      · exact hv
theorem Sees.to {n₀ : Nat} {a a'' : List Value} {m : Mem} (ha : F2 Less a a'') : Sees n₀ a m a'' m :=
  fun _ _ _ g _ _ _ hr har => ⟨g, hr, ⟨F2.less ha har.tmps, har.defers⟩⟩
abbrev Byt (x : UInt8) : Value := .int .u8 (x.toNat : Nat)
end Go.AE
namespace Go.AE
variable {P : Program}
theorem ACall.args {f : FuncId} {aa aa' : List Value} {m : Mem} {K : Value → Mem → Prop} (h : ACall P f aa m K) (hw : ∀ (g : List (Option GB)) (ws : List Value), F2 (VR g) aa' ws → F2 (VR g) aa ws) : ACall P f aa' m K :=
  fun c g W args' hr ha => h c g W args' hr (hw g args' ha)
end Go.AE
namespace Go.AE
variable {P : Program}
end Go.AE
end
section
namespace Go.AE
variable {P : Program}
def laidF {R : Type} (a : List Value) (dst : Option Tmp) (v : Value) (k : List Value → R) : R := forceV v fun v => forceL (putA a dst v) k
theorem laidF_eq {R : Type} (a : List Value) (dst : Option Tmp) (v : Value) (k : List Value → R) : laidF a dst v k = k (putA a dst v) := by
  unfold laidF
  rw [forceV_eq, forceL_eq]
def evOpsF {R : Type} (X : Ops R) (T : Tab P) (all : List Oper) : List Oper → List Value → Mem → (List Value → Mem → R) → R
  | [], a, m, k => k a m
  | o :: rest, a, m, k =>
    match o.guard with
    | none => evOp X T o.op (aeval a) m fun v m' => laidF a o.dst v fun a => evOpsF X T all rest a m' k
    | some (j, want) =>
      match ((all[j]?).bind (·.dst)).bind (a[·]?) with
      | some (.bool b) => X.br (b == want) (evOp X T o.op (aeval a) m fun v m' => laidF a o.dst v fun a => evOpsF X T all rest a m' k) (laidF a o.dst undef fun a => evOpsF X T all rest a m k)
      | some (.tuple _) => laidF a o.dst undef fun a => evOpsF X T all rest a m k
      | _ => X.fl
theorem evOpsF_eq {R : Type} (X : Ops R) (T : Tab P) (all : List Oper) : ∀ (l : List Oper) (a : List Value) (m : Mem) (k : List Value → Mem → R), evOps X T all l a m k = evOpsF X T all l a m k
  | [], a, m, k => by simp only [evOps, evOpsF, forceL_eq, forceM_eq]
  | o :: rest, a, m, k => by
    have ih := evOpsF_eq X T all rest
    unfold evOps evOpsF
    simp only [laid_eq, laidF_eq, ih]
    rfl
def lateOk (all : List Oper) : Nat → Bool
  | 0 => true
  | p + 1 => !(lateAt all p)
theorem lateOk_eq {all : List Oper} {q : Nat} (h : lateOk all q = true) : lateFix all q = all := by
  cases q with
  | zero => rfl
  | succ p =>
    simp only [lateOk] at h
    simp only [lateFix]
    cases hl : lateAt all p with
    | false => rfl
    | true => rw [hl] at h; cases h
end Go.AE
end
section
namespace Go.AE
variable {P : Program}
def dedup : List Nat → List Nat
  | [] => []
  | x :: l => let r := dedup l
    bif r.any (Nat.beq x) then r else x :: r
def closD (all : List Oper) : List (List Nat) := all.foldl (fun acc o => acc ++ [dedup ((waits o).flatMap fun j => j :: acc.getD j [])]) []
end Go.AE
end
section
namespace Go.AE
variable {P : Program}
theorem draw_anyQ {cls : List (List Nat)} {n₀ : Nat} {T : Tab P} {K : Exit → List Value → Mem → Prop} {a a' : List Value} {m : Mem} {sl' : Slots} {ds : List QD} {ops : Array Oper} {q : Nat} {k : List Value → Mem → Prop} (hd : drawOk ops.toList cls q = true)
    (hq : Qts P ops.toList cls m 0 (ops.toList.take q) a [] ds a' sl') (h : (propA P n₀).holds (evOps (propA P n₀).toOps T ops.toList (ops.toList.drop q) a' (m ++ sl'.map fun p => some p.2) k))
    (hk : ∀ a m, (propA P n₀).holds (k a m) → K .normal a m) {c : Ctx} {g₀ g : List (Option GB)} {A : Act} {W : World} (hr : Rel P c (g₀ ++ g) m W) (ha : ARel (g₀ ++ g) a A) :
    wpAny P .any ops (Post P c g₀ K) ops.size (Array.replicate ops.size false) A { W with drawn := W.drawn + 1 } := by
  obtain ⟨r, hrd, e1, e2, e3, e4, e5, e6, e7⟩ := rdok_of hd hq
  have hops : ops.toList = r.all := e1.symm
  have hsz : ops.size = r.all.length := by rw [← hops]; simp
  have hrep : ∀ j, (Array.replicate ops.size false).getD j false = false := by
    intro j
    simp only [Array.getD_eq_getD_getElem?, Array.getElem?_replicate]
    split <;> rfl
  have hfr0 : r.frE (fun _ => false) = a := by
    have := RD.fr_lex hrd 0 (by omega)
    rw [hrd.fr0, e5] at this
    rw [this]
    exact r.frE_congr fun k _ => by simp
  have hslots : ∀ i b, i < r.q → (r.d i).nb = some b → r.m.length ≤ r.id i ∧ r.id i < r.m.length + (r.sl r.q).length := by
    intro i b hi hb
    have := (RD.mE_some hrd (E := fun _ => false) hi rfl hb).1
    rw [r.mE_length] at this
    exact ⟨by simp [RD.id], this⟩
  have hm0 : r.mE (fun _ => false) = m ++ (r.sl r.q).map fun _ => none := by
    unfold RD.mE
    rw [e4]; simp
  -- the numbers of the new blocks stand for nothing yet
  have hrel : Rel P c (g₀ ++ g ++ List.replicate (r.sl r.q).length none) (r.mE (fun _ => false)) { W with drawn := W.drawn + 1 } := by
    rw [hm0]
    have hr' : Rel P c (g₀ ++ g) m { W with drawn := W.drawn + 1 } := hr.drew
    have look : ∀ (j : Nat) (b : ABlk) (gb : GB), (m ++ (r.sl r.q).map fun _ => (none : Option ABlk))[j]? = some (some b) → (g₀ ++ g ++ List.replicate (r.sl r.q).length none)[j]? = some (some gb) → m[j]? = some (some b) ∧ (g₀ ++ g)[j]? = some (some gb) := by
      intro j b gb hj hgj
      rcases Nat.lt_or_ge j m.length with hl | hl
      · rw [List.getElem?_append_left hl] at hj
        rw [List.getElem?_append_left (by rw [hr.len]; exact hl)] at hgj
        exact ⟨hj, hgj⟩
      · exfalso
        rw [List.getElem?_append_right hl, List.getElem?_map] at hj
        cases hx : (r.sl r.q)[j - m.length]? <;> rw [hx] at hj <;> simp at hj
    refine ⟨by rw [List.length_append, hr.len]; simp, ?_, ?_, hr'.frame, hr'.size, hr'.os, hr'.tape, hr'.output, hr'.objs.keep hr'.size (Nat.le_refl _) (fun j b gb hj hgj => .inl ⟨b, (look j b gb hj hgj).1, rfl, rfl, (look j b gb hj hgj).2⟩) fun _ _ => .inl rfl, fun j b gb hj hgj => hr'.ro j b gb (look j b gb hj hgj).1 (look j b gb hj hgj).2⟩
    · intro j b gb hj hgj
      obtain ⟨hj, hgj⟩ := look j b gb hj hgj
      obtain ⟨cs, fr, hh, hf, rest⟩ := hr'.blk j b gb hj hgj
      exact ⟨cs, fr, hh, hf.imp fun _ _ h => h.app, rest⟩
    · intro p q' bp bq gp gq hne hp hq' hrw hgp hgq
      obtain ⟨hp, hgp⟩ := look p bp gp hp hgp
      obtain ⟨hq', hgq⟩ := look q' bq gq hq' hgq
      exact hr'.inj p q' bp bq gp gq hne hp hq' hrw hgp hgq
  have s0 : RSt P r c (g₀ ++ g ++ List.replicate (r.sl r.q).length none) (fun k => (Array.replicate ops.size false).getD k false) (g₀ ++ g ++ List.replicate (r.sl r.q).length none) A { W with drawn := W.drawn + 1 } := by
    have he : (fun k => (Array.replicate ops.size false).getD k false) = fun _ => false := funext hrep
    rw [he]
    refine ⟨hrel, by rw [hfr0]; exact ha.app, fun _ _ => rfl, ?_, ?_⟩
    · intro i b hi _ hb
      obtain ⟨h1, h2⟩ := hslots i b hi hb
      rw [List.getElem?_append_right (by rw [hr.len, ← e4]; exact h1), List.getElem?_replicate, if_pos (by rw [hr.len, ← e4]; omega)]
    · intro j b gb hj hgj
      rw [hm0] at hj
      rcases Nat.lt_or_ge j m.length with hl | hl
      · rw [List.getElem?_append_left hl] at hj
        rw [List.getElem?_append_left (by rw [hr.len]; exact hl)] at hgj
        obtain ⟨cs, fr, hh, hf, _⟩ := hr.blk j b gb hj hgj
        have := hf.lowS
        rw [hr.len, ← e4] at this
        exact all_lowS_le (by omega) this
      · exfalso
        rw [List.getElem?_append_right hl, List.getElem?_map] at hj
        cases hx : (r.sl r.q)[j - m.length]? <;> rw [hx] at hj <;> simp at hj
  rw [hsz]
  refine any_ok hrd hops (Q := Post P c g₀ K) ?_ r.all.length (Array.replicate r.all.length false) A _ _ (by simp) ?_ ?_ ?_ (by rw [← hsz]; exact s0)
  · intro A' W' G listed s hls hlE
    have hfull : r.frE (fun k => decide (k < r.q)) = a' := by rw [← RD.fr_lex hrd r.q (Nat.le_refl _), e3, e6]
    have hmfull : r.mE (fun k => decide (k < r.q)) = m ++ sl'.map fun p => some p.2 := by
      unfold RD.mE
      rw [e4]
      congr 1
      rw [e3, e7]
      apply List.map_congr_left
      intro p hp
      have := RD.sl_low hrd (Nat.le_refl r.q) p (by rw [e3, e7]; exact hp)
      rw [e3] at this
      simp [this]
    have hgm : g₀.length + g.length = r.m.length := by rw [← List.length_append, hr.len, e4]
    have hGl : G.length = r.m.length + (r.sl r.q).length := by rw [s.rel.len, r.mE_length]
    -- the caller's numbers stand for what they stood for
    have hG : G = g₀ ++ G.drop g₀.length := by
      apply List.ext_getElem?
      intro j
      rcases Nat.lt_or_ge j g₀.length with hl | hl
      · rw [List.getElem?_append_left hl, s.base j (by omega), List.append_assoc, List.getElem?_append_left hl]
      · rw [List.getElem?_append_right hl, List.getElem?_drop, show g₀.length + (j - g₀.length) = j from by omega]
    have hrel' := s.rel
    have hfrm' := s.frm
    rw [hfull] at hfrm'
    rw [hmfull] at hrel'
    rw [hG] at hrel' hfrm'
    have hdl : (r.all.drop r.q).length = r.all.length - r.q := by simp
    have := tail_ok (T := T) hrd (c := c) (g₀ := g₀) (K := K) hops hk (r.all.drop r.q) r.q listed A' W' a' (m ++ sl'.map fun p => some p.2) (G.drop g₀.length) (Nat.le_refl _) rfl (by rw [hdl]; have := hrd.le; omega) hls hlE
      (by rw [e1, e3]; exact h) hrel' hfrm'
    rw [hdl] at this
    exact this
  · have : cnt (fun k => (Array.replicate r.all.length false).getD k false) r.all.length = 0 := by
      rw [cnt_congr (E' := fun _ => false) fun k _ => by rw [← hsz]; exact hrep k]
      simp [cnt]
    omega
  · intro k ok hk'
    rw [← hsz, hrep] at hk'; cases hk'
  · intro k hk'
    rw [← hsz, hrep] at hk'; cases hk'
theorem AWp.drawQ {n₀ : Nat} {T : Tab P} {a a' : List Value} {m : Mem} {sl' : Slots} {ds : List QD} {id : Nat} {ops : Array Oper} {q : Nat} {K : Exit → List Value → Mem → Prop} (hc : (lateOk ops.toList q && drawOk ops.toList (closD ops.toList) q) = true)
    (hq : Qts P ops.toList (closD ops.toList) m 0 (ops.toList.take q) a [] ds a' sl') (h : evOpsF (propA P n₀).toOps T ops.toList (ops.toList.drop q) a' (m ++ sl'.map fun p => some p.2) (K .normal)) : AWp P n₀ (.region id ops true) K a m := by
  rw [Bool.and_eq_true] at hc
  refine AWp.mono (K := fun e a m => e = .normal ∧ K e a m) ?_ fun _ _ _ h => h.2
  refine AWp.of_any T.mixed (fun _ _ ⟨e, _⟩ => by cases e) ?_
  intro c g₀ g A W hn hr ha
  have hlate := lateOk_eq hc.1
  refine wpAny_fix (fun c' a' w' ⟨_, _, _, ⟨e, _⟩, _⟩ => by cases e) q (by simp) ?_
  rw [hlate]
  rw [← evOpsF_eq] at h
  have := draw_anyQ (K := fun e a m => e = .normal ∧ K e a m) (ops := ops) (q := q) (k := K .normal) (T := T) (cls := closD ops.toList) hc.2 hq h (fun a m h => ⟨rfl, h⟩) hr ha
  simpa using this
end Go.AE
namespace Go.AE
variable {P : Program}
inductive BLess : Option ABlk → Option ABlk → Prop
  | none (b : Option ABlk) : BLess b none
  | some {x y : ABlk} : x.elem = y.elem → x.rw = y.rw → (y.ex = true → x.ex = true) → F2 Less x.cells y.cells → x.ob = y.ob → BLess (some x) (some y)
theorem F2.lessS {g : List (Option GB)} {a a' : List Value} (h : F2 Less a a') : ∀ {t : List Value}, F2 (SR g) a t → F2 (SR g) a' t := by
  induction h with
  | nil => intro t ht; cases ht; exact .nil
  | cons hr _ ih =>
    intro t ht
    cases ht with
    | cons hv hf =>
      refine .cons ?_ (ih hf)
      rcases hr with rfl | rfl
      · exact .top _ hv.scalar.2
      · exact hv
theorem Rel.weak {c : Ctx} {g : List (Option GB)} {m m' : Mem} {W : World} (hr : Rel P c g m W) (h : F2 BLess m m') : Rel P c g m' W := by
  have hb : ∀ (j : Nat) (y : ABlk), m'[j]? = some (some y) → ∃ x, m[j]? = some (some x) ∧ x.elem = y.elem ∧ x.rw = y.rw ∧ (y.ex = true → x.ex = true) ∧ F2 Less x.cells y.cells ∧ x.ob = y.ob := by
    intro j y hy
    have hj : j < m.length := by rw [h.length]; exact lt_of_getElem? hy
    obtain ⟨z, hz, hbl⟩ := h.get j m[j] (List.getElem?_eq_getElem hj)
    rw [hy] at hz
    cases hz
    generalize hx : m[j] = x at hbl
    cases hbl with
    | some h1 h2 h3 h4 h5 => exact ⟨_, by rw [List.getElem?_eq_getElem hj, hx], h1, h2, h3, h4, h5⟩
  refine ⟨by rw [hr.len, h.length], ?_, ?_, hr.frame, hr.size, hr.os, hr.tape, hr.output, ?_, ?_⟩
  rotate_right
  · intro j y gb hj hg e1 e2
    obtain ⟨x, hx, h1, h2, h3, h4, h5⟩ := hb j y hj
    exact hr.ro j x gb hx hg (h2.trans e1) (h5.trans e2)
  rotate_right
  · obtain ⟨fp, rp, hA⟩ := hr.objs
    refine ⟨fp, rp, ?_, hA.own, hA.ro, hA.dis, ?_, hA.rr, hA.cel⟩
    · intro j y gb o hj hg ho
      obtain ⟨x, hx, h1, h2, h3, h4, h5⟩ := hb j y hj
      have := hA.rep j x gb o hx hg (h5.trans ho)
      exact ⟨this.1, h2 ▸ this.2⟩
    · intro i y gb j hi hg ho
      obtain ⟨x, hx, h1, h2, h3, h4, h5⟩ := hb i y hi
      exact hA.oth i x gb j hx hg (h5.trans ho)
  · intro j y gb hj hg
    obtain ⟨x, hx, h1, h2, h3, h4, _⟩ := hb j y hj
    obtain ⟨cs, fr, hh, hf, hsz, hrw, hex⟩ := hr.blk j x gb hx hg
    have hl := h4.length
    refine ⟨cs, fr, hh, ?_, ?_, fun h => (by rw [← hl, ← h1]; exact hrw (h2.trans h)), fun h => hex (h3 h)⟩
    · rw [← hl]; exact h4.lessS hf
    · rw [← hl]; exact hsz
  · intro i j bi bj gi gj hne hi hj hrw hgi hgj
    obtain ⟨x, hx, _, h2, _⟩ := hb i bi hi
    obtain ⟨y, hy, _⟩ := hb j bj hj
    exact hr.inj i j x y gi gj hne hx hy (h2.trans hrw) hgi hgj
theorem Sees.weak {n₀ : Nat} {a a' : List Value} {m m' : Mem} (ha : F2 Less a a') (h : F2 BLess m m') : Sees n₀ a m a' m' :=
  fun P c g₀ g A W _ hr har => ⟨g, Rel.weak hr h, ⟨F2.less ha har.tmps, har.defers⟩⟩
theorem ACall.sees {f : FuncId} {as : List Value} {m : Mem} {K K' : Value → Mem → Prop} (h : ACall P f as m K') (hs : ∀ v m', K' v m' → ∃ v2 m2, Sees m.length [v] m' [v2] m2 ∧ K v2 m2) : ACall P f as m K := by
  intro c g W args' hr ha
  refine (h c g W args' hr ha).mono ?_
  rintro e W' ⟨v, v', m', g', rfl, hK, hr', hv⟩
  obtain ⟨v2, m2, hsee, hK2⟩ := hs v m' hK
  obtain ⟨g2, hr2, ha2⟩ := hsee P c g g' { tmps := #[v'], defers := [] } W' hr.len hr' ⟨.cons hv .nil, rfl⟩
  refine ⟨v2, v', m2, g2, rfl, hK2, hr2, ?_⟩
  cases ha2.tmps with
  | cons h _ => exact h
end Go.AE
end
section
namespace Go.AE
set_option linter.unusedSimpArgs false
set_option linter.unusedVariables false
variable {P : Program} {ops : Array Oper} {Q : Exit → Act → World → Prop}
def wpAnyJ (P : Program) (ops : Array Oper) (Q : Exit → Act → World → Prop) (S : Nat → World → World → Prop) : Nat → Array Bool → Act → World → Prop
  | 0, listed, a, w => Region.ready .any ops listed = [] ∧ Q .normal a w
  | fuel + 1, listed, a, w =>
    (Region.ready .any ops listed = [] → Q .normal a w) ∧
    ∀ i ∈ Region.ready .any ops listed, wpOp P ops Q i (fun a' w' => S i w w' ∧ wpAnyJ P ops Q S fuel (listed.setIfInBounds i true) a' w') a w
theorem wpAny_of_J {S : Nat → World → World → Prop} : ∀ (fuel : Nat) (listed : Array Bool) (a : Act) (w : World), wpAnyJ P ops Q S fuel listed a w → wpAny P .any ops Q fuel listed a w
  | 0, _, _, _, h => h
  | fuel + 1, _, _, _, h => ⟨h.1, fun i hi => wpOp_mono (fun a' w' h' => wpAny_of_J fuel _ a' w' h'.2) (h.2 i hi)⟩
def Closed (ops : Array Oper) (listed : Array Bool) : Prop := ∀ (k : Nat) (o : Oper), listed.getD k false = true → ops[k]? = some o → ∀ j ∈ waits o, listed.getD j false = true
theorem ready_any {ops : Array Oper} {listed : Array Bool} {i : Nat} (h : i ∈ Region.ready .any ops listed) : listed.getD i true = false ∧ ∃ o, ops[i]? = some o ∧ ∀ j ∈ waits o, listed.getD j false = true := by
  obtain ⟨h0, o, ho, hw⟩ := mem_ready.1 h
  refine ⟨h0, o, ho, fun j hj => ?_⟩
  obtain ⟨e, he, rfl⟩ := List.mem_map.1 hj
  obtain ⟨he1, he2⟩ := List.mem_filter.1 he
  exact hw e (Array.mem_toList_iff.1 he1) he2
theorem ready_of {ops : Array Oper} {listed : Array Bool} {i : Nat} {o : Oper} (h0 : listed.getD i true = false) (ho : ops[i]? = some o) (hw : ∀ j ∈ waits o, listed.getD j false = true) : i ∈ Region.ready .any ops listed :=
  mem_ready.2 ⟨h0, o, ho, fun e he hb => hw e.on (List.mem_map.2 ⟨e, List.mem_filter.2 ⟨Array.mem_toList_iff.2 he, hb⟩, rfl⟩)⟩
theorem getD_false {listed : Array Bool} {i : Nat} (h : listed.getD i true = false) : i < listed.size ∧ listed.getD i false = false := by
  rcases Nat.lt_or_ge i listed.size with h' | h'
  · refine ⟨h', ?_⟩
    simp [h'] at h ⊢; exact h
  · simp [Array.getElem?_eq_none h'] at h
theorem Closed.set {listed : Array Bool} (hc : Closed ops listed) {i : Nat} (hi : i ∈ Region.ready .any ops listed) : Closed ops (listed.setIfInBounds i true) := by
  obtain ⟨h0, o, ho, hw⟩ := ready_any hi
  have hsz := (getD_false h0).1
  intro k ok hk hok j hj
  rw [getD_set hsz] at hk ⊢
  simp only [Bool.or_eq_true, beq_iff_eq] at hk ⊢
  rcases hk with hk | rfl
  · exact .inl (hc k ok hk hok j hj)
  · rw [ho] at hok
    cases hok
    exact .inl (hw j hj)
theorem wpAnyJ_first {S : Nat → World → World → Prop} {Si : World → Prop} {i : Nat} {oi : Oper} {v : Value} (hi : ops[i]? = some oi) (hsel : ∀ (j : Nat) (o : Oper) cs b, ops[j]? = some o → o.op ≠ .select cs b)
    (hQ : ∀ c a w, ¬ Q (.panic c) a w) (hSi : ∀ w, S i w w) (D : Nat → Prop) (L0 : List Nat) (hD : ∀ listed, Closed ops listed → (∀ k ∈ L0, listed.getD k false = true) → listed.getD i true = false → ∀ j ∈ Region.ready .any ops listed, j ≠ i → D j)
    (hap : ∀ j oj, ops[j]? = some oj → D j → oi.apart ops oj = true) (hS : ∀ j, D j → ∀ w w', Si w → S j w w' → Si w') :
    ∀ (fuel : Nat) (listed : Array Bool) (a : Act) (w : World), Closed ops listed → (∀ k ∈ L0, listed.getD k false = true) → i ∈ Region.ready .any ops listed → YieldsIf P ops Si oi v a → Si w →
      wpAnyJ P ops Q S fuel (listed.setIfInBounds i true) (a.put oi.dst v) w → wpAnyJ P ops Q S (fuel + 1) listed a w := by
  intro fuel
  induction fuel with
  | zero =>
    intro listed a w _ _ hr hy hw H
    refine ⟨fun h => (by rw [h] at hr; cases hr), fun j hj => ?_⟩
    by_cases hji : j = i
    · subst hji; exact hy.wpOp hi hw ⟨hSi w, H⟩
    · have := ready_mono hj hji
      rw [H.1] at this
      cases this
  | succ fuel ih =>
    intro listed a w hc hl0 hr hy hw H
    refine ⟨fun h => (by rw [h] at hr; cases hr), fun j hj => ?_⟩
    by_cases hji : j = i
    · subst hji; exact hy.wpOp hi hw ⟨hSi w, H⟩
    · have h1 := H.2 j (ready_mono hj hji)
      obtain ⟨hjun, oj, hoj, hall⟩ := ready_any hj
      have hDj := hD listed hc hl0 (ready_any hr).1 j hj hji
      have h2 := wpOp_putIf hoj (hap j oj hoj hDj) (fun cs b => hsel i oi cs b hi) (fun cs b => hsel j oj cs b hoj) (fun c a w h => absurd h (hQ c _ w)) hy h1
      refine wpOp_mono (fun a' w' h3 => ⟨h3.2.1, ih (listed.setIfInBounds j true) a' w' (hc.set hj) (fun k hk => getD_set_true (hl0 k hk)) (ready_mono hr (Ne.symm hji)) h3.1 (hS j hDj w w' hw h3.2.1) ?_⟩) h2
      rw [Array.setIfInBounds_comm _ _ hji]
      exact h3.2.2
theorem wpAnyJ_one {S : Nat → World → World → Prop} {i : Nat} {fuel : Nat} {listed : Array Bool} {a : Act} {w : World} (hi : i ∈ Region.ready .any ops listed) (ho : ∀ j ∈ Region.ready .any ops listed, j = i)
    (h : wpOp P ops Q i (fun a' w' => S i w w' ∧ wpAnyJ P ops Q S fuel (listed.setIfInBounds i true) a' w') a w) : wpAnyJ P ops Q S (fuel + 1) listed a w :=
  ⟨fun h0 => absurd hi (by rw [h0]; simp), fun j hj => by rw [ho j hj]; exact h⟩
def lightOp : Op → Bool
  | .move _ | .assign _ | .pick _ _ _ | .build _ _ | .load _ _ | .nilCheck _ | .binOp _ _ _ _ _ | .unOp _ _ _ | .convert _ _ _ | .slice _ _ _ _ none | .fieldAddr _ _ _ | .field _ _ _ | .indexAddr _ _ _ | .index _ _ _ | .extract _ _ | .makeFunc _ _ _ => true
  | .call ⟨.builtin .len, _, _⟩ | .call ⟨.builtin .min, _, _⟩ | .call ⟨.builtin .max, _, _⟩ => true
  | _ => false
theorem lightDone {g : List (Option GB)} {N : Value → Prop} {W : World} {r : Result Next} {v w : Value} (e : r = .ok (.value w) W) (hv : VR g v w) (hn : N v) : ∃ v w, r = .ok (.value w) W ∧ VR g v w ∧ N v := ⟨v, w, e, hv, hn⟩
theorem evOp_still {n₀ : Nat} {R : Type} {X : Ans P n₀ R} {T : Tab P} {o : Oper} (hlt : lightOp o.op = true) {ρ ρ' : Operand → Value} {m : Mem} {k : Value → Mem → R} (h : X.holds (evOp X T o.op ρ m k)) {c : Ctx} {g : List (Option GB)} {W : World} (hr : Rel P c g m W)
    (hv : ∀ x, VR g (ρ x) (ρ' x)) : ∃ v w, (execOp ρ' o).run P W = .ok (.value w) W ∧ VR g v w ∧ X.holds (k v m) := by
  obtain ⟨dst, op, type, pos, after, guard⟩ := o
  cases op with
  | move x => exact lightDone rfl (hv x) h
  | assign x => exact lightDone rfl (hv x) h
  | pick cd a b =>
    simp only [evOp, evPick, evAlloc, evOpt, evCond, evBuildSlice, evNil, evExtract, evBuiltin, evCall] at h
    split at h
    case h_2 => exact absurd h X.fl_ok
    rename_i t ht
    have hc := hv cd
    rw [ht] at hc
    have hc := SR.inv_bool hc
    have e : (execOp ρ' ⟨dst, .pick cd a b, type, pos, after, guard⟩).run P W = .ok (.value (if t then ρ' a else ρ' b)) W := by
      simp only [execOp, hc, asBool]
      cases t <;> rfl
    have ha := hv a
    have hb := hv b
    split at h
    · rename_i p q hp hq
      rw [hp] at ha; rw [hq] at hb
      exact lightDone (by rw [e, SR.inv_bool ha, SR.inv_bool hb]) (v := .bool (cond t p q)) (by cases t <;> exact .s (.bool _)) h
    · rename_i ka p kb q hp hq
      rw [hp] at ha; rw [hq] at hb
      split at h
      case isFalse => exact absurd h X.fl_ok
      rename_i hk; subst hk
      exact lightDone (by rw [e, SR.inv_int ha, SR.inv_int hb]) (v := .int ka (cond t p q)) (by cases t <;> exact .s (.int _ _)) h
    · rename_i p q hp hq
      rw [hp] at ha; rw [hq] at hb
      exact lightDone (by rw [e, SR.inv_str ha, SR.inv_str hb]) (v := .string (cond t p q)) (by cases t <;> exact .s (.str _)) h
    · obtain ⟨h1, h2⟩ := X.br_ok _ _ _ h
      cases t with
      | true => exact lightDone (by rw [e]; rfl) ha (h1 rfl)
      | false => exact lightDone (by rw [e]; rfl) hb (h2 rfl)
  | build t parts =>
    simp only [evOp, evPick, evAlloc, evOpt, evCond, evBuildSlice, evNil, evExtract, evBuiltin, evCall] at h
    split at h
    case h_2 => exact absurd h X.fl_ok
    rename_i v hb
    obtain ⟨w, hw, hvw⟩ := buildA_ok hb (F2_pairs hv _) W
    exact lightDone (execOp_val rfl (by rw [arr_pairs]; exact hw)) hvw h
  | load t a =>
    simp only [evOp, evPick, evAlloc, evOpt, evCond, evBuildSlice, evNil, evExtract, evBuiltin, evCall] at h
    obtain ⟨v, w, hw, hvw, hk⟩ := evLoad_ok h hr (hv a)
    exact lightDone (execOp_val rfl hw) hvw hk
  | nilCheck x =>
    simp only [evOp, evPick, evAlloc, evOpt, evCond, evBuildSlice, evNil, evExtract, evBuiltin, evCall] at h
    split at h
    case h_2 => exact absurd h X.fl_ok
    rename_i a ha
    have hx := hv x
    rw [ha] at hx
    have hx' := hx
    generalize hw : ρ' x = w at hx hx'
    cases hx with
    | a hx => cases hx with
      | s hx => cases hx with
        | ptr j off gb hg =>
          refine lightDone ?_ hx' h
          simp only [execOp, hw]; rfl
  | binOp op t x y ty =>
    simp only [evOp, evPick, evAlloc, evOpt, evCond, evBuildSlice, evNil, evExtract, evBuiltin, evCall] at h
    split at h
    case h_2 => exact absurd h X.fl_ok
    rename_i cs v hb
    obtain ⟨hc, hk⟩ := foldr_nd _ _ h
    have := aBinT_ok hb hc (hv x) (hv y) x y W
    exact lightDone (execOp_val rfl this.1) this.2 hk
  | unOp op t x =>
    simp only [evOp, evPick, evAlloc, evOpt, evCond, evBuildSlice, evNil, evExtract, evBuiltin, evCall] at h
    split at h
    case h_2 => exact absurd h X.fl_ok
    rename_i v hb
    have := aUn_ok (P := P) hb (hv x) W
    exact lightDone (execOp_val rfl this.1) this.2 h
  | convert s d x =>
    simp only [evOp] at h
    obtain ⟨v, w, hw, hvw, hk⟩ := evConv_ok h hr (hv x)
    exact lightDone (execOp_val rfl hw) hvw hk
  | slice t x lo hi mx =>
    cases mx with
    | some _ => exact absurd h X.fl_ok
    | none =>
      simp only [evOp, evPick, evAlloc, evOpt, evCond, evBuildSlice, evNil, evExtract, evBuiltin, evCall] at h
      obtain ⟨v, w, hw, hvw, hk⟩ := evSlice_ok (lo' := lo.map ρ') (hi' := hi.map ρ') h hr (hv x) (fun v e => by cases lo <;> simp at e ⊢; subst e; exact hv _) (fun e => by cases lo <;> simp at e ⊢) (fun v e => by cases hi <;> simp at e ⊢; subst e; exact hv _)
        (fun e => by cases hi <;> simp at e ⊢)
      exact lightDone (execOp_val rfl hw) hvw hk
  | fieldAddr t x f =>
    simp only [evOp, evPick, evAlloc, evOpt, evCond, evBuildSlice, evNil, evExtract, evBuiltin, evCall] at h
    split at h
    case h_2 => exact absurd h X.fl_ok
    rename_i v hb
    obtain ⟨w, hw, hvw⟩ := fieldAddrA_ok hb (hv x) W
    exact lightDone (execOp_val rfl hw) hvw h
  | field t x f =>
    simp only [evOp, evPick, evAlloc, evOpt, evCond, evBuildSlice, evNil, evExtract, evBuiltin, evCall] at h
    split at h
    case h_2 => exact absurd h X.fl_ok
    rename_i v hb
    obtain ⟨w, hw, hvw⟩ := fieldA_ok hb (hv x) W
    exact lightDone (execOp_val rfl hw) hvw h
  | indexAddr t x i =>
    simp only [evOp, evPick, evAlloc, evOpt, evCond, evBuildSlice, evNil, evExtract, evBuiltin, evCall] at h
    split at h
    case h_2 => exact absurd h X.fl_ok
    rename_i cs v hb
    obtain ⟨hc, hk⟩ := foldr_nd _ _ h
    obtain ⟨w, hw, hvw⟩ := indexAddrA_ok hb hc (hv x) (hv i) W
    exact lightDone (execOp_val rfl hw) hvw hk
  | index t x i =>
    simp only [evOp, evPick, evAlloc, evOpt, evCond, evBuildSlice, evNil, evExtract, evBuiltin, evCall] at h
    split at h
    case h_2 => exact absurd h X.fl_ok
    rename_i cs v hb
    obtain ⟨hc, hk⟩ := foldr_nd _ _ h
    obtain ⟨w, hw, hvw⟩ := indexA_ok hb hc (hv x) (hv i) W
    exact lightDone (execOp_val rfl hw) hvw hk
  | extract x i =>
    simp only [evOp, evPick, evAlloc, evOpt, evCond, evBuildSlice, evNil, evExtract, evBuiltin, evCall] at h
    split at h
    case h_2 => exact absurd h X.fl_ok
    rename_i vs hb
    obtain ⟨v, hvs, hk⟩ := X.ld_ok _ _ h
    have hx := hv x
    rw [hb] at hx
    generalize hw0 : ρ' x = w0 at hx
    cases hx with
    | a hx => cases hx with
      | s hx => cases hx
    | tup hx =>
      rename_i ys
      obtain ⟨w, hw, hvw⟩ := hx.get i v hvs
      refine lightDone (w := w) (execOp_val rfl ?_) (.a hvw) hk
      rw [hw0]
      have : (⟨ys⟩ : Array Value)[i]? = some w := by simpa using hw
      simp [Instr.extract, this]
  | makeFunc fn first captured =>
    simp only [evOp, evMake] at h
    split at h
    case h_2 => exact absurd h X.fl_ok
    rename_i f
    split at h
    case isFalse => exact absurd h X.fl_ok
    rename_i ho
    rw [Bool.and_eq_true] at ho
    have f0 : ∀ l : List Operand, (l.map ρ).all c0Ok = true → F2 (AR0 (g)) (l.map ρ) (l.map ρ') := by
      intro l
      induction l with
      | nil => intro _; exact .nil
      | cons x l ih =>
        intro hl
        simp only [List.map_cons, List.all_cons, Bool.and_eq_true] at hl
        exact .cons ((hv x).c0 hl.1) (ih hl.2)
    refine lightDone (w := .func (.func f) ⟨first.toList.map ρ'⟩ ⟨captured.toList.map ρ'⟩) (execOp_val rfl ?_) (.s (.clo _ (f0 _ ho.1) (f0 _ ho.2))) h
    rw [arr_args ρ' first, arr_args ρ' captured]
    rfl
  | call cl =>
    obtain ⟨callee, args, argTypes⟩ := cl
    cases callee with
    | invoke _ _ => cases hlt
    | value f => cases hlt
    | builtin b =>
      cases b with
      | len =>
        simp only [evOp, evPick, evAlloc, evOpt, evCond, evBuildSlice, evNil, evExtract, evBuiltin, evCall] at h
        split at h
        case h_2 => exact absurd h X.fl_ok
        rename_i t x ht hx
        split at h
        case h_2 => exact absurd h X.fl_ok
        rename_i v hl
        obtain rfl := arr_of_toList ht
        obtain rfl := arr_of_toList hx
        have := lenA_ok (ts := ⟨[t]⟩) (ty := type) (xs := []) (by simp) hl (hv x) W
        refine lightDone ?_ this.2 h
        simp only [execOp, resolve]
        simp [invoke, builtin, this.1]
      | min =>
        simp only [evOp, evPick, evAlloc, evOpt, evCond, evBuildSlice, evNil, evExtract, evBuiltin, evCall] at h
        split at h
        case h_2 => exact absurd h X.fl_ok
        rename_i x y hx
        split at h
        case h_2 => exact absurd h X.fl_ok
        rename_i ka p kb q hp hq
        obtain rfl := arr_of_toList hx
        have h1 := hv x; rw [hp] at h1; have h1 := SR.inv_int h1
        have h2 := hv y; rw [hq] at h2; have h2 := SR.inv_int h2
        refine lightDone (w := .int ka (if q < p then q else p)) ?_ (.s (.int _ _)) h
        simp only [execOp, resolve]
        simp [invoke, builtin, Builtin.min_, Builtin.min2, h1, h2]
      | max =>
        simp only [evOp, evPick, evAlloc, evOpt, evCond, evBuildSlice, evNil, evExtract, evBuiltin, evCall] at h
        split at h
        case h_2 => exact absurd h X.fl_ok
        rename_i x y hx
        split at h
        case h_2 => exact absurd h X.fl_ok
        rename_i ka p kb q hp hq
        obtain rfl := arr_of_toList hx
        have h1 := hv x; rw [hp] at h1; have h1 := SR.inv_int h1
        have h2 := hv y; rw [hq] at h2; have h2 := SR.inv_int h2
        refine lightDone (w := .int ka (if q > p then q else p)) ?_ (.s (.int _ _)) h
        simp only [execOp, resolve]
        simp [invoke, builtin, Builtin.max_, Builtin.max2, h1, h2]
      | _ => cases hlt
  | _ => cases hlt
def det0 : Value → Bool
  | .slice (some _) n c => !(Nat.beq n 0 && Nat.beq c 0)
  | _ => true
def det1 : Value → Bool
  | .agg ⟨l⟩ => l.all det0
  | v => det0 v
def detS : Value → Bool
  | .map (some 0) => false
  | .func _ ⟨f⟩ ⟨c⟩ => f.all det1 && c.all det1
  | v => det0 v
def detA : Value → Bool
  | .agg ⟨l⟩ => l.all detS
  | v => detS v
def detV : Value → Bool
  | .tuple ⟨l⟩ => l.all detA
  | v => detA v
theorem F2.det {R : Value → Value → Prop} {p : Value → Bool} (h : ∀ v w w', p v = true → R v w → R v w' → w = w') : ∀ {l m m' : List Value}, l.all p = true → F2 R l m → F2 R l m' → m = m'
  | [], [], [], _, _, _ => rfl
  | v :: l, w :: m, w' :: m', hl, .cons h1 h2, .cons h3 h4 => by
    simp only [List.all_cons, Bool.and_eq_true] at hl
    rw [h v w w' hl.1 h1 h3, F2.det h hl.2 h2 h4]
theorem SR0.det {g : List (Option GB)} {v w w' : Value} (hd : det0 v = true) (h : SR0 g v w) (h' : SR0 g v w') : w = w' := by
  cases h with
  | bool | int | str | ptr0 | slice0 | func => cases h'; rfl
  | ptr j off gb hg => cases h' with | ptr _ _ gb' hg' => rw [hg] at hg'; cases hg'; rfl
  | slice j off len cap gb hg =>
    cases h' with
    | slice _ _ _ _ gb' hg' => rw [hg] at hg'; cases hg'; rfl
    | nilS => simp [det0] at hd
  | nilS => simp [det0] at hd
theorem AR0.det {g : List (Option GB)} {v w w' : Value} (hd : det1 v = true) (h : AR0 g v w) (h' : AR0 g v w') : w = w' := by
  cases h with
  | s h =>
    have hs := h.scalarL
    cases h' with
    | s h' => exact SR0.det (by cases v <;> first | exact hd | cases hs) h h'
    | agg _ => cases hs
  | agg h => cases h' with
    | s h' => have := h'.scalarL; cases this
    | agg h' => rw [F2.det (fun v w w' hp a b => SR0.det hp a b) hd h h']
theorem SR.det {g : List (Option GB)} {v w w' : Value} (hd : detS v = true) (h : SR g v w) (h' : SR g v w') : w = w' := by
  cases h with
  | top => simp [detS] at hd
  | bool | int | str | ptr0 | slice0 | nilFunc | nilIface => cases h'; rfl
  | ptr j off gb hg => cases h' with | ptr _ _ gb' hg' => rw [hg] at hg'; cases hg'; rfl
  | slice j off len cap gb hg =>
    cases h' with
    | slice _ _ _ _ gb' hg' => rw [hg] at hg'; cases hg'; rfl
    | nilS => simp [detS, det0] at hd
  | nilS => simp [detS, det0] at hd
  | func fn => cases h' with
    | func => rfl
    | clo _ h1 h2 => cases h1; cases h2; rfl
  | clo fn h1 h2 =>
    simp only [detS, Bool.and_eq_true] at hd
    cases h' with
    | func => cases h1; cases h2; rfl
    | clo _ h3 h4 => rw [F2.det (fun v w w' hp a b => AR0.det hp a b) hd.1 h1 h3, F2.det (fun v w w' hp a b => AR0.det hp a b) hd.2 h2 h4]
theorem AR.det {g : List (Option GB)} {v w w' : Value} (hd : detA v = true) (h : AR g v w) (h' : AR g v w') : w = w' := by
  cases h with
  | s h =>
    have hs := h.scalar.1
    cases h' with
    | s h' => exact SR.det (by cases v <;> first | exact hd | cases hs) h h'
    | agg _ => cases hs
  | agg h => cases h' with
    | s h' => have := h'.scalar.1; cases this
    | agg h' => rw [F2.det (fun v w w' hp a b => SR.det hp a b) hd h h']
theorem VR.det {g : List (Option GB)} {v w w' : Value} (hd : detV v = true) (h : VR g v w) (h' : VR g v w') : w = w' := by
  cases h with
  | a h =>
    have hnt : ∀ l, v ≠ .tuple l := by
      intro l e; subst e
      cases h with
      | s h => have := h.scalar.1; cases this
    cases h' with
    | a h' => exact AR.det (by cases v <;> first | exact hd | exact (hnt _ rfl).elim) h h'
    | tup => exact (hnt _ rfl).elim
    | top => simp [detV, detA, detS, topV] at hd
  | tup h => cases h' with
    | a h' => cases h' with
      | s h' => have := h'.scalar.1; cases this
    | tup h' => rw [F2.det (fun v w w' hp a b => AR.det hp a b) hd h h']
  | top => simp [detV, detA, detS, topV] at hd
end Go.AE
end
section
namespace Go.AE
variable {P : Program}
theorem OpDone.upon2 {c : Ctx} {g₀ g : List (Option GB)} {o : Oper} {a : List Value} {A : Act} {N : List Value → Mem → Prop} {next : Act → World → Prop} {Q : Exit → Act → World → Prop} {r : Result Next}
    (h : OpDone P c g₀ g (fun v m' => N (putA a o.dst v) m') r) (ha : ARel (g₀ ++ g) a A)
    (hn : ∀ a' m' x A' W', N a' m' → Rel P c (g₀ ++ (g ++ x)) m' W' → ARel (g₀ ++ (g ++ x)) a' A' → next A' W') : o.upon P A next Q r := by
  unfold OpDone at h
  have app : ∀ g', ARel (g₀ ++ (g ++ g')) a A := fun g' => by rw [← List.append_assoc]; exact ha.app
  split at h
  · obtain ⟨v, m', g', hN, hr, hv⟩ := h
    exact hn _ _ _ _ _ hN hr ((app g').putA o.dst hv)
  · obtain ⟨m', g', hN, hr⟩ := h
    exact hn _ _ _ _ _ hN hr ((app g').putA o.dst (.undef _))
  · simp only [Oper.upon]
    refine h.mono ?_
    rintro e W'' ⟨v, w, m', g', rfl, hN, hr, hv⟩
    exact hn _ _ _ _ _ hN hr ((app g').putA o.dst hv)
  · exact h.elim
theorem yields_none {g : List (Option GB)} {all : List Oper} {a : List Value} {A : Act} {j : Nat} {xs : Array Value} (ha : ARel g a A) (hb : ((all[j]?).bind (·.dst)).bind (a[·]?) = some (.tuple xs)) : yielded all.toArray A.tmps j = none := by
  unfold yielded
  cases ho : all[j]? with
  | none => rw [ho] at hb; simp at hb
  | some oj =>
    rw [ho] at hb
    simp only [Option.bind_some] at hb
    cases hd : oj.dst with
    | none => rw [hd] at hb; simp at hb
    | some d =>
      rw [hd] at hb
      simp only [Option.bind_some] at hb
      obtain ⟨w, hw, hvw⟩ := ha.tmps.get d _ hb
      have hw' : A.tmps[d]? = some w := by rw [← Array.getElem?_toList]; exact hw
      have ho' : all.toArray[j]? = some oj := by simpa using ho
      rw [ho']
      cases hvw with
      | a hvw => cases hvw with
        | s hvw => cases hvw
      | tup _ => simp [hd, hw']
theorem yields_bool {g : List (Option GB)} {all : List Oper} {a : List Value} {A : Act} {j : Nat} {b : Bool} (ha : ARel g a A) (hb : ((all[j]?).bind (·.dst)).bind (a[·]?) = some (.bool b)) : yielded all.toArray A.tmps j = some b := by
  unfold yielded
  cases ho : all[j]? with
  | none => rw [ho] at hb; simp at hb
  | some oj =>
    rw [ho] at hb
    simp only [Option.bind_some] at hb
    cases hd : oj.dst with
    | none => rw [hd] at hb; simp at hb
    | some d =>
      rw [hd] at hb
      simp only [Option.bind_some] at hb
      obtain ⟨w, hw, hvw⟩ := ha.tmps.get d _ hb
      obtain rfl := SR.inv_bool hvw
      have hw' : A.tmps[d]? = some (.bool b) := by rw [← Array.getElem?_toList]; exact hw
      have ho' : all.toArray[j]? = some oj := by simpa using ho
      rw [ho']
      simp [hd, hw']
theorem evOps_head2 {n₀ : Nat} {T : Tab P} {all : List Oper} {c : Ctx} {g₀ : List (Option GB)} {Q : Exit → Act → World → Prop} {o : Oper} {rest : List Oper} {a : List Value} {m : Mem} {k : List Value → Mem → Prop}
    (h : evOps (propA P n₀).toOps T all (o :: rest) a m k) {g : List (Option GB)} {A : Act} {W : World} (hr : Rel P c (g₀ ++ g) m W) (ha : ARel (g₀ ++ g) a A) {K : Act → World → Prop}
    (hK : ∀ a' m' x A' W', evOps (propA P n₀).toOps T all rest a' m' k → Rel P c (g₀ ++ (g ++ x)) m' W' → ARel (g₀ ++ (g ++ x)) a' A' → K A' W') :
    if Region.wanted o (yielded all.toArray A.tmps) then o.wp P A W K Q else K (A.put o.dst undef) W := by
  have main : (propA P n₀).holds (evOp (propA P n₀).toOps T o.op (aeval a) m fun v m' => laid a o.dst v m' fun a m => evOps (propA P n₀).toOps T all rest a m k) → o.wp P A W K Q := by
    intro h
    simp only [laid_eq] at h
    have := evOp_ok (o := o) h hr (fun x => ha.eval x)
    exact OpDone.upon2 (N := fun a' m' => evOps (propA P n₀).toOps T all rest a' m' k) this ha hK
  have hr0 : Rel P c (g₀ ++ (g ++ [])) m W := by rw [List.append_nil]; exact hr
  have ha0 : ∀ {a' A'}, ARel (g₀ ++ g) a' A' → ARel (g₀ ++ (g ++ [])) a' A' := fun h => by rw [List.append_nil]; exact h
  unfold evOps at h
  split at h
  · rename_i hg
    rw [if_pos (by simp [Region.wanted, hg])]
    exact main h
  · rename_i j want hg
    split at h
    case h_3 => exact absurd h (propA P n₀).fl_ok
    case h_2 =>
      rename_i xs hb
      rw [laid_eq] at h
      rw [if_neg (by simp [Region.wanted, hg, yields_none ha hb])]
      exact hK _ _ _ _ _ h hr0 (ha0 (ha.putA o.dst (.undef _)))
    rename_i b hb
    obtain ⟨h1, h2⟩ := (propA P n₀).br_ok _ _ _ h
    rw [laid_eq] at h2
    have hy := yields_bool ha hb
    by_cases hbw : b = want
    · subst hbw
      rw [if_pos (by simp [Region.wanted, hg, hy])]
      exact main (h1 (by simp))
    · rw [if_neg (by simp [Region.wanted, hg, hy, hbw])]
      exact hK _ _ _ _ _ (h2 (by simpa using hbw)) hr0 (ha0 (ha.putA o.dst (.undef _)))
def onlyB (js : List Nat) (m : Mem) : Mem := (List.range m.length).map fun j => if js.contains j then m.getD j none else none
theorem onlyB_len (js : List Nat) (m : Mem) : (onlyB js m).length = m.length := by simp [onlyB]
theorem onlyB_get {js : List Nat} {m : Mem} {j : Nat} {b : ABlk} (h : (onlyB js m)[j]? = some (some b)) : j ∈ js ∧ j < m.length ∧ m[j]? = some (some b) := by
  have hl := lt_of_getElem? h
  rw [onlyB_len] at hl
  unfold onlyB at h
  rw [List.getElem?_map, List.getElem?_range hl] at h
  simp only [Option.map_some, Option.some.injEq] at h
  split at h
  · rename_i hc
    refine ⟨by simpa using hc, hl, ?_⟩
    rw [List.getD_eq_getElem?_getD, List.getElem?_eq_getElem hl] at h
    rw [List.getElem?_eq_getElem hl]
    exact congrArg some h
  · cases h
theorem Rel.only {c : Ctx} {G x : List (Option GB)} {m m0 : Mem} {W : World} (hr : Rel P c (G ++ x) m W) (hl : G.length = m0.length) (hlow : ∀ (j : Nat) (b : ABlk) (gb : GB), m0[j]? = some (some b) → G[j]? = some (some gb) → b.cells.all (lowS G.length) = true) {js : List Nat} (h : ∀ j ∈ js, j < m0.length → m[j]? = m0[j]?) : Rel P c G (onlyB js m0) W := by
  have up : ∀ (j : Nat) (gb : GB), G[j]? = some (some gb) → (G ++ x)[j]? = some (some gb) := fun j gb h => getElem?_app h
  have look : ∀ (j : Nat) (b : ABlk), (onlyB js m0)[j]? = some (some b) → m[j]? = some (some b) ∧ m0[j]? = some (some b) := by
    intro j b hj
    obtain ⟨h1, h2, h3⟩ := onlyB_get hj
    exact ⟨(h j h1 h2).trans h3, h3⟩
  have htake : (G ++ x).take G.length = G := by simp
  refine ⟨by rw [onlyB_len, hl], ?_, ?_, hr.frame, hr.size, hr.os, hr.tape, hr.output, hr.objs.keep hr.size (Nat.le_refl _) (fun j b gb hj hg => .inl ⟨b, (look j b hj).1, rfl, rfl, up j gb hg⟩) fun _ _ => .inl rfl, fun j b gb hj hg => hr.ro j b gb (look j b hj).1 (up j gb hg)⟩
  · intro j b gb hj hg
    obtain ⟨hj', hb⟩ := look j b hj
    have hb := hlow j b gb hb hg
    obtain ⟨cs, fr, hh, hf, rest⟩ := hr.blk j b gb hj' (up j gb hg)
    refine ⟨cs, fr, hh, ?_, rest⟩
    exact F2.low (p := lowS G.length) (S := SR G) (fun v w h hp => by have := SR.low h hp; rwa [htake] at this) hf hb
  · intro p q bp bq gp gq hne hp hq hrw hgp hgq
    exact hr.inj p q bp bq gp gq hne (look p bp hp).1 (look q bq hq).1 hrw (up p gp hgp) (up q gq hgq)
theorem Rel.lows {c : Ctx} {G : List (Option GB)} {m : Mem} {W : World} (hr : Rel P c G m W) (j : Nat) (b : ABlk) (gb : GB) (hj : m[j]? = some (some b)) (hg : G[j]? = some (some gb)) : b.cells.all (lowS G.length) = true := by
  obtain ⟨cs, fr, hh, hf, rest⟩ := hr.blk j b gb hj hg
  exact hf.lowS
def FlG (P : Program) (T : Tab P) (o : Oper) (all : List Oper) (a : List Value) (mR : Mem) (v : Value) : Prop :=
  match o.guard with
  | none => evOp (propA P 0).toOps T o.op (aeval a) mR fun v' _ => v' = v
  | some (j, want) => (∃ b, ((all[j]?).bind (·.dst)).bind (a[·]?) = some (.bool b) ∧ (b = want → evOp (propA P 0).toOps T o.op (aeval a) mR fun v' _ => v' = v) ∧ (b ≠ want → v = undef)) ∨
     ∃ l, ((all[j]?).bind (·.dst)).bind (a[·]?) = some (.tuple l) ∧ v = undef
inductive Fls (P : Program) (T : Tab P) (all : List Oper) (m : Mem) : List (Nat × List Nat) → List Value → List Value → Prop
  | nil (a : List Value) : Fls P T all m [] a a
  | cons {i : Nat} {js : List Nat} {l : List (Nat × List Nat)} {o : Oper} {a a' : List Value} {v : Value} : all[i]? = some o → lightOp o.op = true → detV v = true → FlG P T o all a (onlyB js m) v → Fls P T all m l (putA a o.dst v) a' → Fls P T all m ((i, js) :: l) a a'
def KeepsB (cls : List (List Nat)) (fl : List (Nat × List Nat)) (m0 : Mem) (i : Nat) (m' : Mem) : Prop := ∀ f ∈ fl, f.1 ∉ cls.getD i [] → ∀ j ∈ f.2, j < m0.length → m'[j]? = m0[j]?
def evH (P : Program) (n₀ : Nat) (T : Tab P) (all : List Oper) (cls : List (List Nat)) (fl : List (Nat × List Nat)) (m0 : Mem) : List Nat → List Value → Mem → (List Value → Mem → Prop) → Prop
  | [], a, m, k => k a m
  | i :: rest, a, m, k => ∃ o, all[i]? = some o ∧ evOps (propA P n₀).toOps T all [o] a m fun a' m' => KeepsB cls fl m0 i m' ∧ evH P n₀ T all cls fl m0 rest a' m' k
def clsOk (all : List Oper) (cls : List (List Nat)) : Bool := (List.range all.length).all fun i => match all[i]? with
  | some o => ((waits o).all fun j => Nat.blt j i) && (cls.getD i []).all fun x => (waits o).any (Nat.beq x) || (waits o).any fun j => (cls.getD j []).any (Nat.beq x)
  | none => true
def memN (l : List Nat) (x : Nat) : Bool := l.any (Nat.beq x)
theorem memN_iff {l : List Nat} {x : Nat} : memN l x = true ↔ x ∈ l := by
  simp only [memN, List.any_eq_true]
  constructor
  · rintro ⟨y, hy, he⟩
    rw [Nat.eq_of_beq_eq_true he]; exact hy
  · intro h
    exact ⟨x, h, Nat.beq_refl x⟩
def heldF (all : List Oper) (cls : List (List Nat)) : List Nat → List Nat → Bool
  | [], _ => true
  | i :: rest, L => (match all[i]? with
    | some o => (waits o).all (memN L) && (!memN L i && (List.range all.length).all fun j => Nat.beq j i || (memN (cls.getD j []) i || (memN L j || (match all[j]? with | some oj => o.apart all.toArray oj | none => true))))
    | none => false) && heldF all cls rest (i :: L)
def heldC (all : List Oper) : List Nat → List Nat → Bool
  | [], L => (List.range all.length).all (memN L)
  | i :: rest, L => (match all[i]? with
    | some o => (waits o).all (memN L) && (!memN L i && (List.range all.length).all fun j => Nat.beq j i || (memN L j || (match all[j]? with | some oj => !((waits oj).all (memN L)) | none => true)))
    | none => false) && heldC all rest (i :: L)
def noSel (all : List Oper) : Bool := all.all fun o => match o.op with
  | .select _ _ => false
  | _ => true
def heldOk (all : List Oper) (cls : List (List Nat)) (fl ch : List Nat) : Bool := Nat.beq (fl.length + ch.length) all.length && (noSel all && (clsOk all cls && (heldF all cls fl [] && heldC all ch fl.reverse)))
def Is (ops : Array Oper) (listed : Array Bool) (L : List Nat) : Prop := listed.size = ops.size ∧ ∀ k, k < ops.size → listed.getD k false = memN L k
theorem Is.set {ops : Array Oper} {listed : Array Bool} {L : List Nat} (h : Is ops listed L) {i : Nat} (hi : i < ops.size) : Is ops (listed.setIfInBounds i true) (i :: L) := by
  refine ⟨by simp [h.1], fun k hk => ?_⟩
  rw [getD_set (by rw [h.1]; exact hi), h.2 k hk]
  show _ = (Nat.beq k i || memN L k)
  rw [Bool.or_comm]
  have e : (k == i) = Nat.beq k i := by rw [Bool.eq_iff_iff, beq_iff_eq, Nat.beq_eq]
  rw [e]
theorem Is.un {ops : Array Oper} {listed : Array Bool} {L : List Nat} (h : Is ops listed L) {i : Nat} (hi : i < ops.size) (hm : memN L i = false) : listed.getD i true = false := by
  have := h.2 i hi
  rw [hm] at this
  have hl : i < listed.size := by rw [h.1]; exact hi
  simp [hl] at this ⊢; exact this
theorem Is.of_un {ops : Array Oper} {listed : Array Bool} {L : List Nat} (h : Is ops listed L) {i : Nat} (hu : listed.getD i true = false) : i < ops.size ∧ memN L i = false := by
  obtain ⟨h1, h2⟩ := getD_false hu
  rw [h.1] at h1
  exact ⟨h1, by rw [← h.2 i h1]; exact h2⟩
theorem Is.wait {ops : Array Oper} {listed : Array Bool} {L : List Nat} (h : Is ops listed L) {j : Nat} (hj : memN L j = true) (hL : ∀ x ∈ L, x < ops.size) : listed.getD j false = true := by
  rw [h.2 j (hL j (memN_iff.1 hj))]; exact hj
theorem cls_listed {all : List Oper} {cls : List (List Nat)} (hc : clsOk all cls = true) {listed : Array Bool} (hcl : Closed all.toArray listed) : ∀ (n i : Nat) (o : Oper), i < n → all[i]? = some o → (∀ j ∈ waits o, listed.getD j false = true) → ∀ x ∈ cls.getD i [], listed.getD x false = true
  | 0, i, _, hi, _, _, _, _ => by omega
  | n + 1, i, o, hi, ho, hw, x, hx => by
    have hil := lt_of_getElem? ho
    have h0 := List.all_eq_true.1 hc i (List.mem_range.2 hil)
    rw [ho] at h0
    simp only [Bool.and_eq_true] at h0
    have h1 := List.all_eq_true.1 h0.2 x hx
    rw [Bool.or_eq_true] at h1
    rcases h1 with h1 | h1
    · exact hw x (memN_iff.1 h1)
    · rw [List.any_eq_true] at h1
      obtain ⟨j, hj, hxj⟩ := h1
      have hji : j < i := by
        have := List.all_eq_true.1 h0.1 j hj
        rw [Nat.blt_eq] at this; exact this
      have hjl : j < all.length := by omega
      have hoj : all[j]? = some all[j] := List.getElem?_eq_getElem hjl
      exact cls_listed hc hcl n j all[j] (by omega) hoj (hcl j _ (hw j hj) (by simpa using hoj)) x (memN_iff.1 hxj)
theorem AWp.held {n₀ : Nat} {T : Tab P} {K : Exit → List Value → Mem → Prop} {a a' : List Value} {m : Mem} {id : Nat} {ops : Array Oper} {cls : List (List Nat)} {fl : List (Nat × List Nat)} {ch : List Nat}
    (hok : heldOk ops.toList cls (fl.map (·.1)) ch = true) (hfl : Fls P T ops.toList m fl a a') (h : evH P n₀ T ops.toList cls fl m ch a' m (K .normal)) : AWp P n₀ (.region id ops true) K a m := by
  refine AWp.mono (K := fun e a m => e = .normal ∧ K e a m) ?_ fun _ _ _ h => h.2
  refine AWp.of_any T.mixed (fun _ _ ⟨e, _⟩ => by cases e) ?_
  intro c g₀ g A W hn hr ha
  simp only [heldOk, Bool.and_eq_true] at hok
  obtain ⟨hcnt, hsel, hcls, hF, hC⟩ := hok
  have hall : ops.toList.toArray = ops := by simp
  have hlen : ops.toList.length = ops.size := by simp
  have hget : ∀ i, ops.toList[i]? = ops[i]? := fun i => Array.getElem?_toList
  generalize hW0 : ({ W with drawn := W.drawn + 1 } : World) = W0
  have hr0 : Rel P c (g₀ ++ g) m W0 := by rw [← hW0]; exact hr.drew
  have hlG := hr0.len
  have hselQ : ∀ (j : Nat) (o : Oper) cs b, ops[j]? = some o → o.op ≠ .select cs b := by
    intro j o cs b ho e
    have := List.all_eq_true.1 hsel o (by rw [← hget] at ho; exact List.mem_of_getElem? ho)
    rw [e] at this
    cases this
  -- what each operation leaves
  let F : Nat → World → Prop := fun i w => ∀ f ∈ fl, f.1 = i → Rel P c (g₀ ++ g) (onlyB f.2 m) w
  let S : Nat → World → World → Prop := fun i w w' => (memN (fl.map (·.1)) i = true ∧ w' = w) ∨ (memN (fl.map (·.1)) i = false ∧ ∀ f ∈ fl, f.1 ∉ cls.getD i [] → Rel P c (g₀ ++ g) (onlyB f.2 m) w')
  let Q := Post P c g₀ (fun e a m => e = Exit.normal ∧ K e a m)
  have hQ : ∀ c' a w, ¬ Q (.panic c') a w := by
    rintro c' a w ⟨_, _, _, ⟨h, _⟩, _⟩
    cases h
  -- the others, one behind the other
  have chain : ∀ (ch : List Nat) (L : List Nat) (fuel : Nat) (listed : Array Bool) (A : Act) (W : World) (a : List Value) (m' : Mem) (x : List (Option GB)), (∀ y ∈ L, y < ops.size) → (∀ y ∈ fl, memN L y.1 = true) → L.length + ch.length ≤ fuel + L.length → heldC ops.toList ch L = true → Is ops listed L → evH P n₀ T ops.toList cls fl m ch a m' (K .normal) →
      Rel P c (g₀ ++ (g ++ x)) m' W → ARel (g₀ ++ (g ++ x)) a A → wpAnyJ P ops Q S fuel listed A W := by
    intro ch
    induction ch with
    | nil =>
      intro L fuel listed A W a m' x hL hfL hfu hC his hev hr ha
      have hre : Region.ready .any ops listed = [] := by
        cases hre : Region.ready .any ops listed with
        | nil => rfl
        | cons i rest =>
          exfalso
          obtain ⟨h0, _⟩ := ready_any (show i ∈ Region.ready .any ops listed by rw [hre]; exact List.mem_cons_self)
          obtain ⟨h1, h2⟩ := his.of_un h0
          have := List.all_eq_true.1 hC i (List.mem_range.2 (by rw [hlen]; exact h1))
          rw [h2] at this; cases this
      have hfin : Q .normal A W := ⟨a, m', g ++ x, ⟨rfl, hev⟩, hr, ha⟩
      cases fuel with
      | zero => exact ⟨hre, hfin⟩
      | succ n => exact ⟨fun _ => hfin, by rw [hre]; simp⟩
    | cons i ch ih =>
      intro L fuel listed A W a m' x hL hfL hfu hC his hev hr ha
      simp only [heldC, Bool.and_eq_true] at hC
      obtain ⟨hi1, hC⟩ := hC
      obtain ⟨o, ho, hev⟩ := hev
      rw [ho] at hi1
      simp only [Bool.and_eq_true, Bool.not_eq_true'] at hi1
      obtain ⟨hw, hiL, hoth⟩ := hi1
      have hil : i < ops.size := by rw [← hlen]; exact lt_of_getElem? ho
      obtain ⟨n, rfl⟩ : ∃ n, fuel = n + 1 := ⟨fuel - 1, by simp at hfu; omega⟩
      have ho' : ops[i]? = some o := by rw [← hget]; exact ho
      refine wpAnyJ_one (ready_of (his.un hil hiL) ho' fun j hj => his.wait (List.all_eq_true.1 hw j hj) hL) ?_ ?_
      · intro j hj
        obtain ⟨h0, oj, hoj, hwj⟩ := ready_any hj
        obtain ⟨h1, h2⟩ := his.of_un h0
        have := List.all_eq_true.1 hoth j (List.mem_range.2 (by rw [hlen]; exact h1))
        rw [h2, hget, hoj] at this
        simp only [Bool.or_eq_true, Bool.false_or, Bool.not_eq_true'] at this
        rcases this with h | h
        · exact Nat.eq_of_beq_eq_true h
        · exfalso
          rw [← Bool.not_eq_true, List.all_eq_true] at h
          refine h fun y hy => ?_
          have := hwj y hy
          have hys : y < ops.size := by
            rcases Nat.lt_or_ge y listed.size with h' | h'
            · rw [← his.1]; exact h'
            · simp [Array.getElem?_eq_none h'] at this
          rw [← his.2 y hys]; exact this
      · unfold wpOp
        rw [ho']
        simp only
        have hnf : memN (fl.map (·.1)) i = false := by
          cases hq : memN (fl.map (·.1)) i with
          | false => rfl
          | true =>
            obtain ⟨f, hf, rfl⟩ := List.mem_map.1 (memN_iff.1 hq)
            rw [hfL f hf] at hiL; cases hiL
        have := evOps_head2 (Q := Q) hev hr ha (K := fun A' W' => S i W W' ∧ wpAnyJ P ops Q S n (listed.setIfInBounds i true) A' W') fun a2 m2 x2 A2 W2 hN hr2 ha2 => by
          simp only [evOps, forceL_eq, forceM_eq] at hN
          have hr2' : Rel P c (g₀ ++ (g ++ (x ++ x2))) m2 W2 := by rw [← List.append_assoc g]; exact hr2
          refine ⟨.inr ⟨hnf, fun f hf hnc => ?_⟩, ?_⟩
          · have hr3 : Rel P c ((g₀ ++ g) ++ (x ++ x2)) m2 W2 := by rw [List.append_assoc]; exact hr2'
            exact hr3.only hlG hr0.lows fun j hj hjl => hN.1 f hf hnc j hj hjl
          · exact ih (i :: L) n _ A2 W2 a2 m2 (x ++ x2) (fun y hy => by rcases List.mem_cons.1 hy with rfl | hy; exact hil; exact hL y hy) (fun y hy => by show (Nat.beq y.1 i || memN L y.1) = true; rw [hfL y hy, Bool.or_true]) (by simp at hfu ⊢; omega) hC (his.set hil) hN.2 hr2' (by rw [← List.append_assoc g]; exact ha2)
        rw [hall] at this
        split
        · rename_i hwn; rw [if_pos hwn] at this; exact .inl this
        · rename_i hwn; rw [if_neg hwn] at this; exact this
  -- the light ones
  have light : ∀ (fl' : List (Nat × List Nat)) (L : List Nat) (fuel : Nat) (listed : Array Bool) (A : Act) (a : List Value), (∀ f ∈ fl', f ∈ fl) → (∀ y ∈ L, y < ops.size) → (∀ y ∈ fl, memN L y.1 = true ∨ y ∈ fl') → fl'.length + ch.length ≤ fuel → heldF ops.toList cls (fl'.map (·.1)) L = true →
      heldC ops.toList ch ((fl'.map (·.1)).reverse ++ L) = true → Is ops listed L → Closed ops listed → Fls P T ops.toList m fl' a a' → ARel (g₀ ++ g) a A → wpAnyJ P ops Q S fuel listed A W0 := by
    intro fl'
    induction fl' with
    | nil =>
      intro L fuel listed A a hsub hL hfL hfu _ hC his hcl hfls ha
      cases hfls
      exact chain ch L fuel listed A W0 a' m [] hL (fun y hy => (hfL y hy).resolve_right (by simp)) (by simp at hfu; omega) (by simpa using hC) his h (by rw [List.append_nil]; exact hr0) (by rw [List.append_nil]; exact ha)
    | cons f fl' ih =>
      intro L fuel listed A a hsub hL hfL hfu hF hC his hcl hfls ha
      obtain ⟨i, js⟩ := f
      cases hfls with
      | cons ho hlt hdet hg hfls =>
        rename_i o v
        simp only [List.map_cons, heldF, Bool.and_eq_true] at hF
        obtain ⟨hi1, hF⟩ := hF
        rw [ho] at hi1
        simp only [Bool.and_eq_true, Bool.not_eq_true'] at hi1
        obtain ⟨hw, hiL, hoth⟩ := hi1
        have hil : i < ops.size := by rw [← hlen]; exact lt_of_getElem? ho
        have ho' : ops[i]? = some o := by rw [← hget]; exact ho
        obtain ⟨n, rfl⟩ : ∃ n, fuel = n + 1 := ⟨fuel - 1, by simp at hfu; omega⟩
        have hready : i ∈ Region.ready .any ops listed := ready_of (his.un hil hiL) ho' fun j hj => his.wait (List.all_eq_true.1 hw j hj) hL
        have hSi0 : Rel P c (g₀ ++ g) (onlyB js m) W0 := (show Rel P c ((g₀ ++ g) ++ []) m W0 by rw [List.append_nil]; exact hr0).only hlG hr0.lows fun _ _ _ => rfl
        -- the value
        have hval : ∃ wv, YieldsIf P ops (fun w => Rel P c (g₀ ++ g) (onlyB js m) w) o wv A ∧ VR (g₀ ++ g) v wv := by
          have run : evOp (propA P 0).toOps T o.op (aeval a) (onlyB js m) (fun v' _ => v' = v) → ∃ wv, (∀ w, Rel P c (g₀ ++ g) (onlyB js m) w → (execOp A.eval o).run P w = .ok (.value wv) w) ∧ VR (g₀ ++ g) v wv := by
            intro hev
            have one : ∀ w, Rel P c (g₀ ++ g) (onlyB js m) w → ∃ wv, (execOp A.eval o).run P w = .ok (.value wv) w ∧ VR (g₀ ++ g) v wv := by
              intro w hw
              obtain ⟨v', wv, h1, h2, h3⟩ := evOp_still (X := propA P 0) (T := T) (ρ := aeval a) (m := onlyB js m) (k := fun v' _ => v' = v) hlt hev hw (fun x => ha.eval x)
              exact ⟨wv, h1, (show v' = v from h3) ▸ h2⟩
            obtain ⟨wv, _, h2⟩ := one W0 hSi0
            refine ⟨wv, fun w hw => ?_, h2⟩
            obtain ⟨wv', h1', h2'⟩ := one w hw
            rw [VR.det hdet h2 h2']; exact h1'
          unfold FlG at hg
          cases hgu : o.guard with
          | none =>
            rw [hgu] at hg
            obtain ⟨wv, h1, h2⟩ := run hg
            exact ⟨wv, .inl ⟨by simp [Region.wanted, hgu], h1⟩, h2⟩
          | some jw =>
            obtain ⟨j, want⟩ := jw
            rw [hgu] at hg
            rcases hg with ⟨b, hb, hyes, hno⟩ | ⟨l, hb, hd⟩
            · have hy := yields_bool ha hb
              rw [hall] at hy
              by_cases hbw : b = want
              · obtain ⟨wv, h1, h2⟩ := run (hyes hbw)
                exact ⟨wv, .inl ⟨by simp [Region.wanted, hgu, hy, hbw], h1⟩, h2⟩
              · exact ⟨undef, .inr ⟨by simp [Region.wanted, hgu, hy, hbw], rfl⟩, by rw [hno hbw]; exact VR.undef _⟩
            · have hy := yields_none ha hb
              rw [hall] at hy
              exact ⟨undef, .inr ⟨by simp [Region.wanted, hgu, hy], rfl⟩, by rw [hd]; exact VR.undef _⟩
        obtain ⟨wv, hy, hvr⟩ := hval
        have hif : memN (fl.map (·.1)) i = true := memN_iff.2 (List.mem_map.2 ⟨(i, js), hsub _ List.mem_cons_self, rfl⟩)
        refine wpAnyJ_first (Si := fun w => Rel P c (g₀ ++ g) (onlyB js m) w) ho' hselQ hQ (fun w => .inl ⟨hif, rfl⟩) (fun j => j ≠ i ∧ i ∉ cls.getD j [] ∧ memN L j = false) L ?_ ?_ ?_ n listed A W0 hcl (fun k hk => his.wait (memN_iff.2 hk) hL) hready hy hSi0 ?_
        · intro listed' hcl' hl0 hun j hj hji
          refine ⟨hji, fun hin => ?_, ?_⟩
          rotate_left
          · cases hq : memN L j with
            | false => rfl
            | true =>
              have h1 := hl0 j (memN_iff.1 hq)
              have h2 := (getD_false (ready_any hj).1).2
              rw [h1] at h2; cases h2
          obtain ⟨h0, oj, hoj, hwj⟩ := ready_any hj
          have := cls_listed hcls (listed := listed') (by rw [hall]; exact hcl') (j + 1) j oj (by omega) (by rw [hget]; exact hoj) hwj i hin
          have h2 := (getD_false hun).2
          rw [this] at h2; cases h2
        · rintro j oj hoj ⟨hji, hnc, hnl⟩
          have hjl : j < ops.size := (Array.getElem?_eq_some_iff.1 hoj).1
          have := List.all_eq_true.1 hoth j (List.mem_range.2 (by rw [hlen]; exact hjl))
          rw [hget, hoj, hall, hnl, Bool.false_or] at this
          simp only [Bool.or_eq_true] at this
          rcases this with h | h | h
          · exact (hji (Nat.eq_of_beq_eq_true h)).elim
          · exact (hnc (memN_iff.1 h)).elim
          · exact h
        · rintro j ⟨hji, hnc, _⟩ w w' hw hS
          rcases hS with ⟨_, rfl⟩ | ⟨_, hS⟩
          · exact hw
          · exact hS (i, js) (hsub _ List.mem_cons_self) hnc
        · refine ih (i :: L) n _ _ _ (fun f hf => hsub f (List.mem_cons_of_mem _ hf)) (fun y hy => by rcases List.mem_cons.1 hy with rfl | hy; exact hil; exact hL y hy) (fun y hy => ?_) (by simp at hfu ⊢; omega) hF (by simpa using hC) (his.set hil) (hcl.set hready) hfls (ha.putA o.dst hvr)
          rcases hfL y hy with h | h
          · exact .inl (by show (Nat.beq y.1 i || memN L y.1) = true; rw [h, Bool.or_true])
          · rcases List.mem_cons.1 h with rfl | h
            · exact .inl (by show (Nat.beq i i || memN L i) = true; rw [Nat.beq_refl]; rfl)
            · exact .inr h
  have hcount : fl.length + ch.length ≤ ops.size := by
    have := Nat.eq_of_beq_eq_true hcnt
    rw [List.length_map, hlen] at this
    omega
  refine wpAny_of_J ops.size _ A W0 (light fl [] ops.size _ A a (fun _ h => h) (by simp) (fun y hy => .inr hy) hcount hF (by simpa using hC) ⟨by simp, fun k hk => by simp [hk, memN]⟩ ?_ hfl ha)
  intro k o hk
  rw [Array.getD_eq_getD_getElem?, Array.getElem?_replicate] at hk
  split at hk <;> cases hk
end Go.AE
end
