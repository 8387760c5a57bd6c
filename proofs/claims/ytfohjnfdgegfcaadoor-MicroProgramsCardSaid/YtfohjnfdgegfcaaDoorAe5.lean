/-
  An abstract logic for the model (part 5): how frames and memories look, evaluated by functions. Conditions: none.
-/
import Derived.Test.YtfohjnfdgegfcaaDoorAe4
namespace Go.AE
variable {P : Program}

theorem size_bl (s : ByteArray) : (bl s).length = s.size := by
  show s.data.toList.length = s.data.size
  simp only [Array.length_toList]

/-- An index, or a bound. -/
def intOf? : Value → Option (IntKind × Int)
  | .int k n => some (k, n)
  | _ => none

/-- The address of an element. -/
def indexAddrA (T : Tab P) (t : TypeId) (x i : Value) : Option (List Bool × Value) :=
  match T.und t, x, i with
  | some (.array len e), .pointer (some ⟨j, off, none⟩), .int _ n =>
    match T.inf e with
    | some te => some ([decide (0 ≤ n ∧ n < len)], .pointer (some ⟨j, off + n.toNat * te.size, none⟩))
    | none => none
  | some (.slice e), .slice (some ⟨j, off, none⟩) len _, .int _ n =>
    match T.inf e with
    | some te => some ([decide (0 ≤ n ∧ n < len)], .pointer (some ⟨j, off + n.toNat * te.size, none⟩))
    | none => none
  | _, _, _ => none

theorem indexAddrA_ok {T : Tab P} {t : TypeId} {x i x' i' v : Value} {cs : List Bool} {g : List (Option GB)} (h : indexAddrA T t x i = some (cs, v)) (hc : ∀ c ∈ cs, c = true) (hx : VR g x x') (hi : VR g i i') (W : World) :
    ∃ w, (Instr.indexAt t x' i').run P W = .ok w W ∧ VR g v w := by
  unfold indexAddrA at h
  split at h
  · rename_i len e j off k n hd
    obtain rfl := SR.inv_int hi
    split at h
    case h_2 => cases h
    rename_i te hte
    simp only [Option.some.injEq, Prod.mk.injEq] at h
    obtain ⟨rfl, rfl⟩ := h
    simp only [List.mem_cons, List.not_mem_nil, or_false, forall_eq, decide_eq_true_eq] at hc
    cases hx with
    | a hx => cases hx with
      | s hx => cases hx with
        | ptr _ _ gb hg =>
          refine ⟨.pointer (some ⟨gb.b, off + n.toNat * te.size, none⟩), ?_, .s (.ptr _ _ gb hg)⟩
          simp [Instr.indexAt, asIntOf, T.run_und hd, Instr.sureAddr, hc, T.run_size hte, Addr.add_lit]
  · rename_i e j off len cap k n hd
    obtain rfl := SR.inv_int hi
    split at h
    case h_2 => cases h
    rename_i te hte
    simp only [Option.some.injEq, Prod.mk.injEq] at h
    obtain ⟨rfl, rfl⟩ := h
    simp only [List.mem_cons, List.not_mem_nil, or_false, forall_eq, decide_eq_true_eq] at hc
    cases hx with
    | a hx => cases hx with
      | s hx => cases hx with
        | slice _ _ _ _ gb hg =>
          refine ⟨.pointer (some ⟨gb.b, off + n.toNat * te.size, none⟩), ?_, .s (.ptr _ _ gb hg)⟩
          simp [Instr.indexAt, asIntOf, T.run_und hd, hc, T.run_size hte, Addr.add_lit]
  · cases h

/-- The address of a field. -/
def fieldAddrA (T : Tab P) (t : TypeId) (x : Value) (f : Nat) : Option Value :=
  match T.und t, x with
  | some (.struct fs), .pointer (some ⟨j, off, none⟩) =>
    match fs[f]? with
    | some fd =>
      match T.inf fd.type with
      | some ti => if ti.size = 0 then none else some (.pointer (some ⟨j, off + fd.offset, none⟩))
      | none => none
    | none => none
  | _, _ => none

theorem fieldAddrA_ok {T : Tab P} {t : TypeId} {x x' v : Value} {f : Nat} {g : List (Option GB)} (h : fieldAddrA T t x f = some v) (hx : VR g x x') (W : World) :
    ∃ w, (Instr.fieldAt t x' f).run P W = .ok w W ∧ VR g v w := by
  unfold fieldAddrA at h
  split at h
  case h_2 => cases h
  rename_i fs j off hd
  split at h
  case h_2 => cases h
  rename_i fd hfd
  split at h
  case h_2 => cases h
  rename_i ti hti
  split at h
  case isTrue => cases h
  rename_i hz
  simp only [Option.some.injEq] at h
  subst h
  cases hx with
  | a hx => cases hx with
    | s hx => cases hx with
      | ptr _ _ gb hg =>
        refine ⟨.pointer (some ⟨gb.b, off + fd.offset, none⟩), ?_, .s (.ptr _ _ gb hg)⟩
        simp [Instr.fieldAt, T.run_und hd, hfd, Instr.sureAddr, fieldPlace, T.run_size hti, hz, Addr.add_lit]

/-- A part of a struct or an array. -/
def partA (T : Tab P) (t : TypeId) (cs : List Value) (off : Nat) : Option Value :=
  match T.und t, T.inf t with
  | some d, some ti => if isAggD d then some (.agg ⟨(cs.drop off).take ti.size⟩) else cs[off]?
  | _, _ => none

theorem F2.extract {g : List (Option GB)} {cs : List Value} {ds : Array Value} (h : F2 (SR g) cs ds.toList) (a n : Nat) : F2 (SR g) ((cs.drop a).take n) (ds.extract a (a + n)).toList := by
  have e : (ds.extract a (a + n)).toList = (ds.toList.drop a).take n := by
    rw [Array.toList_extract]; simp [List.extract]
  rw [e]
  exact (h.drop a).take n

theorem partA_ok {T : Tab P} {t : TypeId} {cs : List Value} {ds : Array Value} {off : Nat} {v : Value} {g : List (Option GB)} (h : partA T t cs off = some v) (hc : F2 (SR g) cs ds.toList) (W : World) :
    ∃ w, (part t ds off).run P W = .ok w W ∧ VR g v w := by
  unfold partA at h
  split at h
  case h_2 => cases h
  rename_i d ti hd hti
  split at h
  · rename_i hagg
    simp only [Option.some.injEq] at h
    subst h
    refine ⟨.agg (ds.extract off (off + ti.size)), ?_, ?_⟩
    · simp [part, T.run_isAgg hd, hagg, T.run_size hti]
    · exact .agg (hc.extract off ti.size)
  · rename_i hagg
    obtain ⟨w, hw, hr⟩ := hc.get off v h
    refine ⟨w, ?_, .s hr⟩
    have : ds[off]? = some w := by rw [← Array.getElem?_toList]; exact hw
    simp [part, T.run_isAgg hd, hagg, this]

def fieldA (T : Tab P) (t : TypeId) (x : Value) (f : Nat) : Option Value :=
  match T.und t, x with
  | some (.struct fs), .agg ⟨cs⟩ =>
    match fs[f]? with
    | some fd => partA T fd.type cs fd.offset
    | none => none
  | _, _ => none
theorem fieldA_ok {T : Tab P} {t : TypeId} {x x' v : Value} {f : Nat} {g : List (Option GB)} (h : fieldA T t x f = some v) (hx : VR g x x') (W : World) :
    ∃ w, (Instr.field t x' f).run P W = .ok w W ∧ VR g v w := by
  unfold fieldA at h
  split at h
  case h_2 => cases h
  rename_i fs cs hd
  split at h
  case h_2 => cases h
  rename_i fd hfd
  cases hx with
  | a hx => cases hx with
    | s hx => cases hx
    | agg hx =>
      rename_i ys
      obtain ⟨w, hw, hr⟩ := partA_ok (ds := ⟨ys⟩) h hx W
      refine ⟨w, ?_, hr⟩
      simp [Instr.field, T.run_und hd, hfd, asAgg, hw]

/-- A byte of a string, or an element of an array. -/
def indexA (T : Tab P) (t : TypeId) (x i : Value) : Option (List Bool × Value) :=
  match T.und t, x, i with
  | some .string, .string s, .int _ n => some ([decide (0 ≤ n ∧ n < (bl s).length)], .int .u8 (((bl s).getD n.toNat 0).toNat : Nat))
  | some (.array len e), .agg ⟨cs⟩, .int _ n =>
    match T.inf e with
    | some te => (partA T e cs (n.toNat * te.size)).map fun v => ([decide (0 ≤ n ∧ n < len)], v)
    | none => none
  | _, _, _ => none

theorem indexA_ok {T : Tab P} {t : TypeId} {x i x' i' v : Value} {cs : List Bool} {g : List (Option GB)} (h : indexA T t x i = some (cs, v)) (hc : ∀ c ∈ cs, c = true) (hx : VR g x x') (hi : VR g i i') (W : World) :
    ∃ w, (Instr.index t x' i').run P W = .ok w W ∧ VR g v w := by
  unfold indexA at h
  split at h
  · rename_i s k n hd
    obtain rfl := SR.inv_int hi
    obtain rfl := SR.inv_str hx
    simp only [Option.some.injEq, Prod.mk.injEq] at h
    obtain ⟨rfl, rfl⟩ := h
    simp only [List.mem_cons, List.not_mem_nil, or_false, forall_eq, decide_eq_true_eq] at hc
    refine ⟨.int .u8 (((bl s).getD n.toNat 0).toNat : Nat), ?_, .s (.int _ _)⟩
    have hl : n.toNat < s.size := by have := hc.2; rw [size_bl] at this; omega
    have hb : s[n.toNat]? = some ((bl s).getD n.toNat 0) := by
      rw [getElem?_pos s n.toNat hl]
      have hl' : n.toNat < (bl s).length := by rw [size_bl]; exact hl
      rw [List.getD_eq_getElem?_getD, List.getElem?_eq_getElem hl']
      rfl
    simp [Instr.index, asIntOf, T.run_und hd, hc.1, hb]
  · rename_i len e cs' k n hd
    obtain rfl := SR.inv_int hi
    split at h
    case h_2 => cases h
    rename_i te hte
    cases hp : partA T e cs' (n.toNat * te.size) with
    | none => rw [hp] at h; cases h
    | some u =>
      rw [hp] at h
      simp only [Option.map_some, Option.some.injEq, Prod.mk.injEq] at h
      obtain ⟨rfl, rfl⟩ := h
      simp only [List.mem_cons, List.not_mem_nil, or_false, forall_eq, decide_eq_true_eq] at hc
      cases hx with
      | a hx => cases hx with
        | s hx => cases hx
        | agg hx =>
          rename_i ys
          obtain ⟨w, hw, hr⟩ := partA_ok (ds := ⟨ys⟩) hp hx W
          refine ⟨w, ?_, hr⟩
          simp [Instr.index, asIntOf, T.run_und hd, hc, T.run_size hte, hw]
  · cases h

/-- A bound of a slice expression. -/
def boundA : Option Value → Int → Option Int
  | none, d => some d
  | some (.int _ n), _ => some n
  | _, _ => none

def sliceStr (s : ByteArray) (l h : Int) : Value := S (((bl s).drop l.toNat).take (h.toNat - l.toNat))

/-- A part of a string. -/
def sliceStrA (T : Tab P) (t : TypeId) (x : Value) (lo hi : Option Value) : Option (List Bool × Value) :=
  match T.und t, x with
  | some .string, .string s =>
    match boundA lo 0, boundA hi (bl s).length with
    | some l, some h => some ([decide (0 ≤ h ∧ h ≤ (bl s).length), decide (0 ≤ l ∧ l ≤ h)], sliceStr s l h)
    | _, _ => none
  | _, _ => none

theorem extract_eq (s : ByteArray) (l h : Nat) : s.extract l h = ⟨⟨((bl s).drop l).take (h - l)⟩⟩ := by
  apply ByteArray.ext
  apply Array.toList_inj.1
  rw [ByteArray.data_extract, Array.toList_extract]

theorem bound_ok {g : List (Option GB)} {o o' : Option Value} {d n : Int} (h : boundA o d = some n) (ho : ∀ v, o = some v → ∃ w, o' = some w ∧ VR g v w) (hn : o = none → o' = none) :
    (o = none ∧ o' = none ∧ n = d) ∨ ∃ k, o' = some (.int k n) := by
  unfold boundA at h
  split at h
  · simp only [Option.some.injEq] at h; exact .inl ⟨rfl, hn rfl, h.symm⟩
  · simp only [Option.some.injEq] at h; subst h
    obtain ⟨w, hw, hv⟩ := ho _ rfl
    obtain rfl := SR.inv_int hv
    exact .inr ⟨_, hw⟩
  · cases h

theorem sliceStrA_ok {T : Tab P} {t : TypeId} {x x' v : Value} {lo hi lo' hi' : Option Value} {cs : List Bool} {g : List (Option GB)} (h : sliceStrA T t x lo hi = some (cs, v)) (hc : ∀ c ∈ cs, c = true) (hx : VR g x x')
    (hl : ∀ v, lo = some v → ∃ w, lo' = some w ∧ VR g v w) (hln : lo = none → lo' = none) (hh : ∀ v, hi = some v → ∃ w, hi' = some w ∧ VR g v w) (hhn : hi = none → hi' = none) (W : World) :
    (Instr.sliceAt t x' lo' hi' none).run P W = .ok v W ∧ VR g v v := by
  unfold sliceStrA at h
  split at h
  case h_2 => cases h
  rename_i s hd
  obtain rfl := SR.inv_str hx
  split at h
  case h_2 => cases h
  rename_i l hb h1 h2
  simp only [Option.some.injEq, Prod.mk.injEq] at h
  obtain ⟨rfl, rfl⟩ := h
  simp only [List.mem_cons, List.not_mem_nil, or_false, forall_eq_or_imp, forall_eq, decide_eq_true_eq] at hc
  refine ⟨?_, .s (.str _)⟩
  obtain ⟨⟨c1, c2⟩, c3, c4⟩ := hc
  have hsz := size_bl s
  rw [hsz] at c2 h2
  have e := extract_eq s l.toNat hb.toNat
  unfold sliceStr
  show _ = Result.ok (Value.string ⟨⟨((bl s).drop l.toNat).take (hb.toNat - l.toNat)⟩⟩) W
  rw [← e]
  rcases bound_ok h1 hl hln with ⟨_, rfl, rfl⟩ | ⟨k1, rfl⟩ <;> rcases bound_ok h2 hh hhn with ⟨_, rfl, rfl⟩ | ⟨k2, rfl⟩
  · simp [Instr.sliceAt, T.run_und hd, Instr.slice, Instr.sliceBounds]
  · simp [Instr.sliceAt, T.run_und hd, Instr.slice, Instr.sliceBounds, Instr.sliceBound, asIntOf, c1, c2]
  · simp [Instr.sliceAt, T.run_und hd, Instr.slice, Instr.sliceBounds, Instr.sliceBound, asIntOf, c3, c4]
  · simp [Instr.sliceAt, T.run_und hd, Instr.slice, Instr.sliceBounds, Instr.sliceBound, asIntOf, c1, c2, c3]
    intro hm; exfalso; omega

/-- len. -/
def lenA (d : Option TypeDesc) (x : Value) : Option Value :=
  match d, x with
  | some .string, .string s => some (.int .i64 (bl s).length)
  | some (.slice _), .slice _ n _ => some (.int .i64 n)
  | some (.array n _), _ => some (.int .i64 n)
  | _, _ => none
theorem lenA_ok {T : Tab P} {ts : Array TypeId} {t ty : TypeId} {x x' v : Value} {xs : List Value} {g : List (Option GB)} (ht : ts[0]? = some t) (h : lenA (T.und t) x = some v) (hx : VR g x x') (W : World) :
    (Builtin.len_ ts ty ⟨x' :: xs⟩).run P W = .ok v W ∧ VR g v v := by
  unfold lenA at h
  split at h
  · rename_i s hd
    obtain rfl := SR.inv_str hx
    simp only [Option.some.injEq] at h; subst h
    rw [size_bl]
    exact ⟨by simp [Builtin.len_, ht, T.run_und hd, goInt], .s (.int _ _)⟩
  · rename_i n _ hd
    simp only [Option.some.injEq] at h; subst h
    refine ⟨?_, .s (.int _ _)⟩
    cases hx with
    | a hx => cases hx with
      | s hx => cases hx <;> simp [Builtin.len_, ht, T.run_und hd, goInt]
  · rename_i n _ hd
    simp only [Option.some.injEq] at h; subst h
    exact ⟨by simp [Builtin.len_, ht, T.run_und hd, goInt], .s (.int _ _)⟩
  · cases h
end Go.AE
