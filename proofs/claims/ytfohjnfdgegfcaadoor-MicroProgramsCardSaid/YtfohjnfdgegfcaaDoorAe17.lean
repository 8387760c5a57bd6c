/-
  An abstract logic for the model (part 17): how frames and memories look, evaluated by functions. Conditions: none.
-/
import Derived.Test.YtfohjnfdgegfcaaDoorAe16
namespace Go.AE
variable {P : Program} {r : RD} {G₀ : List (Option GB)}

theorem RSt.congr {c : Ctx} {E E' : Nat → Bool} {G : List (Option GB)} {A : Act} {W : World} (h : RDOK P r) (s : RSt P r c G₀ E G A W) (he : ∀ k, k < r.q → E k = E' k) : RSt P r c G₀ E' G A W := by
  have hm : r.mE E = r.mE E' := by
    unfold RD.mE
    congr 1
    apply List.map_congr_left
    intro p hp
    rw [he p.1 (RD.sl_low h (Nat.le_refl _) p hp)]
  refine ⟨hm ▸ s.rel, (r.frE_congr he) ▸ s.frm, s.base, fun i b hi hE hb => s.none_ i b hi (by rw [he i hi]; exact hE) hb, fun j b gb hj hg => s.low j b gb (by rw [hm]; exact hj) hg⟩

theorem cl_sub (h : RDOK P r) {E : Nat → Bool} (hclosed : ∀ k ok, E k = true → r.all[k]? = some ok → ∀ j ∈ waits ok, E j = true) : ∀ (n i : Nat) (o : Oper), i < n → r.all[i]? = some o → (∀ j ∈ waits o, E j = true) → ∀ x ∈ r.cls.getD i [], E x = true
  | 0, i, _, hi, _, _, _, _ => by omega
  | n + 1, i, o, hi, ho, hw, x, hx => by
    rcases h.cl i o ho x hx with hx | ⟨j, hj, hxj⟩
    · exact hw x hx
    · have hji := h.early i o ho j hj
      have hjl : j < r.all.length := Nat.lt_trans hji (lt_of_getElem? ho)
      have hoj : r.all[j]? = some r.all[j] := List.getElem?_eq_getElem hjl
      exact cl_sub h hclosed n j r.all[j] (by omega) hoj (hclosed j _ (hw j hj) hoj) x hxj

theorem ready_iff {ops : Array Oper} (hops : ops.toList = r.all) {listed : Array Bool} (hl : listed.size = r.all.length) {i : Nat} : i ∈ Region.ready .any ops listed ↔
    i < r.all.length ∧ listed.getD i false = false ∧ ∃ o, r.all[i]? = some o ∧ ∀ j ∈ waits o, listed.getD j false = true := by
  have hsz : ops.size = r.all.length := by rw [← hops]; simp
  unfold Region.ready
  rw [List.mem_filter, List.mem_range, hsz]
  constructor
  · rintro ⟨h1, h2⟩
    simp only [Bool.and_eq_true, Bool.not_eq_true'] at h2
    obtain ⟨h2, h3⟩ := h2
    have ho : ops[i]? = r.all[i]? := by rw [← hops]; simp
    have hi' : i < listed.size := by rw [hl]; exact h1
    refine ⟨h1, ?_, r.all[i], List.getElem?_eq_getElem h1, ?_⟩
    · simp only [Array.getD, hi', dif_pos] at h2 ⊢; exact h2
    · rw [ho, List.getElem?_eq_getElem h1] at h3
      simp only [Option.map_some, Option.getD_some] at h3
      intro j hj
      obtain ⟨e, he, rfl⟩ := List.mem_map.1 hj
      obtain ⟨he1, he2⟩ := List.mem_filter.1 he
      have := Array.all_eq_true'.1 h3 e (Array.mem_toList_iff.1 he1)
      rw [he2] at this
      simpa using this
  · rintro ⟨h1, h2, o, ho, hw⟩
    refine ⟨h1, ?_⟩
    have hi' : i < listed.size := by rw [hl]; exact h1
    have ho' : ops[i]? = some o := by rw [← ho, ← hops]; simp
    simp only [Bool.and_eq_true, Bool.not_eq_true', ho', Option.map_some, Option.getD_some]
    refine ⟨?_, ?_⟩
    · simp only [Array.getD, hi', dif_pos] at h2 ⊢; exact h2
    · refine Array.all_eq_true'.2 fun e he => ?_
      cases hb : Region.binds .any e with
      | false => rfl
      | true =>
        simp only [Bool.not_true, Bool.false_or]
        exact hw e.on (List.mem_map.2 ⟨e, List.mem_filter.2 ⟨Array.mem_toList_iff.2 he, hb⟩, rfl⟩)

/-- As long as one has not come up, one is ready. -/
theorem ready_some (h : RDOK P r) {ops : Array Oper} (hops : ops.toList = r.all) {listed : Array Bool} (hl : listed.size = r.all.length) {i : Nat} (hi : i < r.all.length) (hE : listed.getD i false = false) : Region.ready .any ops listed ≠ [] := by
  have : ∀ n i, i < n → i < r.all.length → listed.getD i false = false → ∃ k, k ∈ Region.ready .any ops listed := by
    intro n
    induction n with
    | zero => intro i hi; omega
    | succ n ih =>
      intro i hin hi hE
      have ho : r.all[i]? = some r.all[i] := List.getElem?_eq_getElem hi
      by_cases hw : ∀ j ∈ waits r.all[i], listed.getD j false = true
      · exact ⟨i, (ready_iff hops hl).2 ⟨hi, hE, _, ho, hw⟩⟩
      · rcases Classical.em (∃ j, j ∈ waits r.all[i] ∧ listed.getD j false = false) with ⟨j, hj, hjE⟩ | hno
        · have := h.early i _ ho j hj
          exact ih j (by omega) (by omega) hjE
        · exfalso
          apply hw
          intro j hj
          cases hjE : listed.getD j false with
          | true => rfl
          | false => exact absurd ⟨j, hj, hjE⟩ hno
  obtain ⟨k, hk⟩ := this (i + 1) i (by omega) hi hE
  intro he
  rw [he] at hk; cases hk

theorem getD_set {listed : Array Bool} {i k : Nat} (hi : i < listed.size) : (listed.setIfInBounds i true).getD k false = (listed.getD k false || k == i) := by
  simp only [Array.getD_eq_getD_getElem?, Array.getElem?_setIfInBounds]
  by_cases h : i = k
  · subst h; simp [hi]
  · have : (k == i) = false := by simpa using fun e => h e.symm
    simp [h, this]

/-- What an operation sees of the frame. -/
theorem RSt.sees {c : Ctx} {E : Nat → Bool} {G : List (Option GB)} {A : Act} {W : World} (h : RDOK P r) (s : RSt P r c G₀ E G A W) {i : Nat} {o : Oper} (hi : i < r.q) (ho : r.all[i]? = some o) (hE : E i = false)
    (hready : ∀ j ∈ waits o, E j = true) (hclosed : ∀ k ok, E k = true → r.all[k]? = some ok → ∀ j ∈ waits ok, E j = true)
    (hlow : ∀ t ∈ o.looksAt r.all.toArray, AE.low (r.m.length + (r.sl i).length) (aeval (r.fr i) (.tmp t)) = true) (x : Operand) : VR (G.take (r.id i)) (rhoFor (o.looksAt r.all.toArray) (r.fr i) x) (A.eval x) := by
  cases x with
  | tmp t =>
    simp only [rhoFor]
    split
    · rename_i hc
      have ht : t ∈ o.looksAt r.all.toArray := by simpa using hc
      have e : aeval (r.fr i) (.tmp t) = aeval (r.frE E) (.tmp t) := by
        simp only [aeval, RD.same_looks h hi ho hE hready hclosed ht]
      have hl := hlow t ht
      rw [e] at hl ⊢
      exact (s.frm.eval (.tmp t)).low hl
    · exact .top _
  | const v =>
    simp only [rhoFor, aeval, Act.eval]
    split
    · rename_i hp; exact .plain _ hp
    · exact .top _
  | global _ => exact .top _
  | func f => exact .s (.func _)

theorem any_ok (h : RDOK P r) {c : Ctx} {ops : Array Oper} (hops : ops.toList = r.all) {Q : Exit → Act → World → Prop}
    (hQ : ∀ A W G listed, RSt P r c G₀ (fun k => decide (k < r.q)) G A W → listed.size = r.all.length → (∀ k, k < r.all.length → listed.getD k false = decide (k < r.q)) → wpAny P .any ops Q (r.all.length - r.q) listed A W) :
    ∀ (fuel : Nat) (listed : Array Bool) (A : Act) (W : World) (G : List (Option GB)), listed.size = r.all.length → fuel + cnt (fun k => listed.getD k false) r.all.length = r.all.length →
      (∀ k ok, listed.getD k false = true → r.all[k]? = some ok → ∀ j ∈ waits ok, listed.getD j false = true) → (∀ k, listed.getD k false = true → k < r.q) → RSt P r c G₀ (fun k => listed.getD k false) G A W → wpAny P .any ops Q fuel listed A W := by
  intro fuel
  induction fuel with
  | zero =>
    intro listed A W G hl hcnt hclosed hlow s
    have hfull : ∀ k, k < r.all.length → listed.getD k false = true := cnt_full (by omega)
    have hqe : r.q = r.all.length := by
      rcases Nat.lt_or_ge r.q r.all.length with hlt | hge
      · have := hlow r.q (hfull r.q hlt); omega
      · have := h.le; omega
    have := hQ A W G listed (s.congr h fun k hk => by rw [hfull k (by omega)]; simp [hk]) hl (fun k hk => by rw [hfull k hk]; simp [hqe]; exact hk)
    rw [hqe, Nat.sub_self] at this
    exact this
  | succ fuel ih =>
    intro listed A W G hl hcnt hclosed hlow s
    by_cases hall : ∀ k, k < r.q → listed.getD k false = true
    · have hE : ∀ k, k < r.all.length → listed.getD k false = decide (k < r.q) := by
        intro k hk
        by_cases hkq : k < r.q
        · rw [hall k hkq]; simp [hkq]
        · cases hk' : listed.getD k false with
          | false => simp [hkq]
          | true => exact absurd (hlow k hk') hkq
      have hc : cnt (fun k => listed.getD k false) r.all.length = r.q := by
        rw [cnt_congr (E' := fun k => decide (k < r.q)) hE]
        have : ∀ n, r.q ≤ n → cnt (fun k => decide (k < r.q)) n = r.q := by
          intro n
          induction n with
          | zero => intro hn; simp [cnt]; omega
          | succ n ih' =>
            intro hn
            rw [cnt_succ]
            by_cases hqn : r.q ≤ n
            · rw [ih' hqn]; have : ¬ n < r.q := by omega
              simp [this]
            · have hq1 : r.q = n + 1 := by omega
              have hf : ∀ j, j ≤ r.q → cnt (fun k => decide (k < r.q)) j = j := by
                intro j
                induction j with
                | zero => intro _; simp [cnt]
                | succ j ih2 => intro hj; rw [cnt_succ, ih2 (by omega)]; have : j < r.q := by omega
                                simp [this]
              rw [hf n (by omega)]; have : n < r.q := by omega
              simp [this]; omega
        exact this _ h.le
      have := hQ A W G listed (s.congr h fun k hk => by rw [hall k hk]; simp [hk]) hl hE
      rw [show r.all.length - r.q = fuel + 1 from by omega] at this
      exact this
    · obtain ⟨k₀, hk₀, hk₀E⟩ : ∃ k, k < r.q ∧ listed.getD k false = false := by
        rcases Classical.em (∃ k, k < r.q ∧ listed.getD k false = false) with he | he
        · exact he
        · exfalso; apply hall; intro k hk
          cases hk' : listed.getD k false with
          | true => rfl
          | false => exact absurd ⟨k, hk, hk'⟩ he
      have hqle := h.le
      refine ⟨fun hempty => absurd hempty (ready_some h hops hl (i := k₀) (by omega) hk₀E), fun i hi => ?_⟩
      obtain ⟨hin, hEi, o, ho, hw⟩ := (ready_iff hops hl).1 hi
      have hclsub := cl_sub h (E := fun k => listed.getD k false) hclosed (i + 1) i o (by omega) ho hw
      have hiq : i < r.q := by
        rcases Nat.lt_or_ge i r.q with hlt | hge
        · exact hlt
        · exfalso
          have := hclsub k₀ (h.tail i k₀ hge hin (by omega))
          rw [hk₀E] at this; cases this
      obtain ⟨hrw, ⟨hlo, hguard⟩, _, _⟩ := h.step i o hiq ho
      have hview := RSt.view h s hiq hclsub
      have hsees := RSt.sees h s hiq ho hEi hw hclosed hlo
      -- what follows
      have follow : ∀ A' W' G', RSt P r c G₀ (fun k => listed.getD k false || k == i) G' A' W' → wpAny P .any ops Q fuel (listed.setIfInBounds i true) A' W' := by
        intro A' W' G' s'
        have hset : ∀ k, (listed.setIfInBounds i true).getD k false = (listed.getD k false || k == i) := fun k => getD_set (by rw [hl]; exact hin)
        refine ih _ A' W' G' (by simp [hl]) ?_ ?_ ?_ (s'.congr h fun k _ => (hset k).symm)
        · have : cnt (fun k => (listed.setIfInBounds i true).getD k false) r.all.length = cnt (fun k => listed.getD k false || k == i) r.all.length := cnt_congr fun k _ => hset k
          rw [this, cnt_or hEi hin]; omega
        · intro k ok hk hok j hj
          rw [hset] at hk ⊢
          simp only [Bool.or_eq_true, beq_iff_eq] at hk ⊢
          rcases hk with hk | hk
          · exact .inl (hclosed k ok hk hok j hj)
          · subst hk
            rw [ho] at hok
            cases hok
            exact .inl (hw j hj)
        · intro k hk
          rw [hset] at hk
          simp only [Bool.or_eq_true, beq_iff_eq] at hk
          rcases hk with hk | hk
          · exact hlow k hk
          · omega
      have hops' : ops[i]? = some o := by rw [← ho, ← hops]; simp
      have exec : Quiet P o (rhoFor (o.looksAt r.all.toArray) (r.fr i)) (memFor (r.cls.getD i []) r.m (r.sl i)) (r.d i) → o.wp P A W (wpAny P .any ops Q fuel (listed.setIfInBounds i true)) Q := by
        intro hq
        have := hq _ W A.eval s.rel.good hview hsees
        unfold Oper.wp
        generalize (execOp A.eval o).run P W = res at this ⊢
        split at this
        · obtain ⟨G', s'⟩ := RSt.next h s hiq ho hEi this hrw
          exact follow _ _ _ s'
        · obtain ⟨G', s'⟩ := RSt.next h s hiq ho hEi this hrw
          exact follow _ _ _ s'
        · simp only [Oper.upon]
          refine this.mono ?_
          rintro e W'' ⟨w, rfl, hf⟩
          obtain ⟨G', s'⟩ := RSt.next h s hiq ho hEi hf hrw
          exact follow _ _ _ s'
        · exact this.elim
      unfold wpOp
      rw [hops']
      simp only
      cases hg : o.guard with
      | none =>
        rw [hg] at hguard
        rw [if_pos (by simp [Region.wanted, hg])]
        exact .inl (exec hguard)
      | some jw =>
        obtain ⟨j, want⟩ := jw
        rw [hg] at hguard
        obtain ⟨b, hb, hyes, hno⟩ := hguard
        have hy : yielded ops A.tmps j = some b := by
          unfold yielded
          cases hoj : r.all[j]? with
          | none => rw [hoj] at hb; simp at hb
          | some oj =>
            rw [hoj] at hb
            simp only [Option.bind_some] at hb
            cases hd : oj.dst with
            | none => rw [hd] at hb; simp at hb
            | some t =>
              rw [hd] at hb
              simp only [Option.bind_some] at hb
              have ht : t ∈ o.looksAt r.all.toArray := by
                unfold Oper.looksAt
                rw [hg]
                simp [hoj, hd]
              have e := RD.same_looks h (E := fun k => listed.getD k false) hiq ho hEi hw hclosed ht
              rw [← e] at hb
              obtain ⟨w, hw', hvw⟩ := s.frm.tmps.get t _ hb
              obtain rfl := SR.inv_bool hvw
              have hw2 : A.tmps[t]? = some (.bool b) := by rw [← Array.getElem?_toList]; exact hw'
              have ho' : ops[j]? = some oj := by rw [← hoj, ← hops]; simp
              rw [ho']
              simp [hd, hw2]
        by_cases hbw : b = want
        · rw [if_pos (by simp [Region.wanted, hg, hy, hbw])]
          exact .inl (exec (hyes hbw))
        · rw [if_neg (by simp [Region.wanted, hg, hy, hbw])]
          have hd := hno hbw
          obtain ⟨G', s'⟩ := RSt.next h s hiq ho hEi (w := undef) (W' := W) ⟨[], s.rel.good, by rw [hd]; simpa using hview, by rw [hd]; simpa using VR.undef _⟩ hrw
          exact follow _ _ _ s'
end Go.AE
