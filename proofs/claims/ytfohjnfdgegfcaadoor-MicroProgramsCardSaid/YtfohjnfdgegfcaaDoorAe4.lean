/-
  An abstract logic for the model (part 4): how frames and memories look, evaluated by functions. Conditions: none.
-/
import Derived.Test.YtfohjnfdgegfcaaDoorAe3
namespace Go.AE
variable {P : Program}

abbrev bl (s : ByteArray) : List UInt8 := s.data.toList
/-- A string of these bytes. -/
abbrev S (l : List UInt8) : Value := .string ⟨⟨l⟩⟩

def aUn (op : UnOp) (x : Value) : Option Value :=
  match op, x with
  | .not, .bool b => some (.bool !b)
  | .neg, .int k n => some (.int k (k.wrap (0 - n)))
  | .xor, .int k n => some (.int k (bits .xor k (if k.signed then -1 else k.max) n))
  | _, _ => none
theorem aUn_ok {op : UnOp} {x x' v : Value} {g : List (Option GB)} (h : aUn op x = some v) (hx : VR g x x') (W : World) : (Op.unary op x').run P W = .ok v W ∧ VR g v v := by
  unfold aUn at h
  split at h <;> simp only [Option.some.injEq, reduceCtorEq] at h <;> subst h
  · obtain rfl := SR.inv_bool hx; exact ⟨rfl, .s (.bool _)⟩
  · obtain rfl := SR.inv_int hx; exact ⟨rfl, .s (.int _ _)⟩
  · obtain rfl := SR.inv_int hx; exact ⟨rfl, .s (.int _ _)⟩

def aConv (s d : Option TypeDesc) (x : Value) : Option Value :=
  match s, d, x with
  | some _, some (.int k), .int _ n => some (.int k (k.wrap n))
  | some _, some .string, .string s => some (.string s)
  | _, _, _ => none
theorem aConv_ok {T : Tab P} {s d : TypeId} {x x' v : Value} {g : List (Option GB)} (h : aConv (T.und s) (T.und d) x = some v) (hx : VR g x x') (W : World) : (convert s d x').run P W = .ok v W ∧ VR g v v := by
  unfold aConv at h
  split at h <;> simp only [Option.some.injEq, reduceCtorEq] at h <;> subst h
  · rename_i hs hd
    obtain rfl := SR.inv_int hx
    refine ⟨?_, .s (.int _ _)⟩
    simp only [convert, Sem.run_bind, T.run_und hs, T.run_und hd, Result.andThen_ok]; rfl
  · rename_i hs hd
    obtain rfl := SR.inv_str hx
    refine ⟨?_, .s (.str _)⟩
    simp only [convert, Sem.run_bind, T.run_und hs, T.run_und hd, Result.andThen_ok]; rfl

/-- Fills cells with parts. -/
def fillL (place : Nat → Option (Nat × Nat)) (cells : List Value) : List (Nat × Value) → Option (List Value)
  | [] => some cells
  | (i, v) :: rest =>
    match place i with
    | none => none
    | some (off, size) =>
      let xs := v.cells.toList
      if xs.length ≠ size || off + xs.length > cells.length then none
      else fillL place (xs.zipIdx.foldl (fun cs (c, j) => cs.set (off + j) c) cells) rest

/-- A value that fills cells: its cells are scalars. -/
def cellsOk : Value → Bool
  | .tuple _ => false
  | .map (some 0) => false
  | _ => true

theorem SR.scalar {g : List (Option GB)} {v w : Value} (h : SR g v w) : scalarV v = true ∧ scalarV w = true := by
  cases h <;> first | exact ⟨rfl, rfl⟩ | exact ⟨rfl, ‹_›⟩
theorem cells_scalar {w : Value} (h : scalarV w = true) : w.cells.toList = [w] := by
  cases w <;> first | rfl | cases h

theorem VR.cells {g : List (Option GB)} {v w : Value} (h : VR g v w) (hc : cellsOk v = true) : F2 (SR g) v.cells.toList w.cells.toList := by
  cases h with
  | a h => cases h with
    | s h =>
      rw [cells_scalar h.scalar.1, cells_scalar h.scalar.2]
      exact .cons h .nil
    | agg h => exact h
  | tup _ => cases hc
  | top _ => cases hc

theorem fill_foldl {g : List (Option GB)} {off : Nat} : ∀ (xs ys : List Value) (k : Nat) (cs : List Value) (ds : Array Value), F2 (SR g) xs ys → F2 (SR g) cs ds.toList →
    F2 (SR g) ((xs.zipIdx k).foldl (fun cs (c, j) => cs.set (off + j) c) cs) ((ys.zipIdx k).foldl (fun (cs : Array Value) (c, j) => cs.setIfInBounds (off + j) c) ds).toList
  | [], [], _, _, _, _, h => h
  | x :: xs, y :: ys, k, cs, ds, .cons hr hf, h => by
    simp only [List.zipIdx_cons, List.foldl_cons]
    exact fill_foldl xs ys (k + 1) _ _ hf (by simpa using h.set (off + k) hr)

theorem foldl_length {off : Nat} : ∀ (xs : List Value) (k : Nat) (cs : List Value), ((xs.zipIdx k).foldl (fun cs (c, j) => cs.set (off + j) c) cs).length = cs.length
  | [], _, _ => rfl
  | x :: xs, k, cs => by
    simp only [List.zipIdx_cons, List.foldl_cons]
    rw [foldl_length xs (k + 1)]; simp

theorem fill_ok {g : List (Option GB)} {place : Nat → Option (Nat × Nat)} : ∀ (ps qs : List (Nat × Value)) (cs : List Value) (ds : Array Value) (r : List Value),
    F2 (fun p q => p.1 = q.1 ∧ VR g p.2 q.2) ps qs → ps.all (fun p => cellsOk p.2) = true → F2 (SR g) cs ds.toList → fillL place cs ps = some r →
    ∃ r' : Array Value, Instr.fill place ds qs = some r' ∧ F2 (SR g) r r'.toList
  | [], [], cs, ds, r, _, _, h, hr => by simp only [fillL, Option.some.injEq] at hr; subst hr; exact ⟨ds, rfl, h⟩
  | (i, v) :: ps, (i', w) :: qs, cs, ds, r, .cons ⟨hi, hv⟩ hf, ha, h, hr => by
    simp only at hi; subst hi
    simp only [List.all_cons, Bool.and_eq_true] at ha
    have hvc := hv.cells ha.1
    have hl := hvc.length
    have hl2 := h.length
    simp only [fillL] at hr
    unfold Instr.fill
    cases hp : place i with
    | none => rw [hp] at hr; cases hr
    | some os =>
      obtain ⟨off, size⟩ := os
      rw [hp] at hr
      simp only at hr ⊢
      simp only [Array.length_toList] at hl hl2
      split at hr
      · cases hr
      · rename_i hc
        rw [if_neg (by simpa [← hl, ← hl2] using hc)]
        refine fill_ok ps qs _ _ r hf ha.2 ?_ hr
        have := fill_foldl (g := g) (off := off) v.cells.toList w.cells.toList 0 cs ds hvc h
        have e : w.cells.zipIdx.foldl (fun (cs : Array Value) (c, j) => cs.setIfInBounds (off + j) c) ds = w.cells.toList.zipIdx.foldl (fun (cs : Array Value) (c, j) => cs.setIfInBounds (off + j) c) ds := by
          rw [← Array.foldl_toList, Array.toList_zipIdx]
        rw [e]
        exact this

/-- Places of a struct's fields. -/
def placesOf (T : Tab P) (fs : List Field) : Option (List (Nat × Nat)) := fs.mapM fun f => (T.inf f.type).map fun x => (f.offset, x.size)

def placeM (f : Field) : Sem (Nat × Nat) := do pure (f.offset, ← sizeOf f.type)
theorem run_placeM (T : Tab P) {f : Field} {x : TI} (h : T.inf f.type = some x) (W : World) : (placeM f).run P W = .ok (f.offset, x.size) W := by
  unfold placeM
  simp only [Sem.run_bind, T.run_size h, Result.andThen_ok, Sem.run_pure]

theorem run_places (T : Tab P) (W : World) : ∀ (fs : List Field) (ps : List (Nat × Nat)), placesOf T fs = some ps → (fs.mapM placeM).run P W = .ok ps W
  | [], ps, h => by simp [placesOf] at h; subst h; rfl
  | f :: fs, ps, h => by
    unfold placesOf at h
    rw [List.mapM_cons] at h
    cases hx : T.inf f.type with
    | none => simp [hx] at h
    | some x =>
      cases hr : placesOf T fs with
      | none => unfold placesOf at hr; simp [hx, hr] at h
      | some qs =>
        have hr' := hr
        unfold placesOf at hr'
        simp [hx, hr'] at h
        subst h
        rw [List.mapM_cons]
        simp only [Sem.run_bind, run_placeM T hx, Result.andThen_ok, run_places T W fs qs hr, Sem.run_pure]

def buildA (T : Tab P) (t : TypeId) (parts : List (Nat × Value)) : Option Value :=
  match T.und t, T.inf t with
  | some d, some ti =>
    match ti.zero with
    | some (.agg ⟨zs⟩) =>
      if zs.all plainS && parts.all (fun p => cellsOk p.2) then
        match d with
        | .struct fs =>
          match placesOf T fs.toList with
          | some ps => (fillL (fun i => ps[i]?) zs parts).map fun cs => .agg ⟨cs⟩
          | none => none
        | .array _ e =>
          match T.inf e with
          | some te => (fillL (fun i => some (i * te.size, te.size)) zs parts).map fun cs => .agg ⟨cs⟩
          | none => none
        | _ => none
      else none
    | _ => none
  | _, _ => none

theorem buildA_ok {T : Tab P} {t : TypeId} {ps qs : List (Nat × Value)} {v : Value} {g : List (Option GB)} (h : buildA T t ps = some v) (hp : F2 (fun p q => p.1 = q.1 ∧ VR g p.2 q.2) ps qs) (W : World) :
    ∃ w, (Instr.build t ⟨qs⟩).run P W = .ok w W ∧ VR g v w := by
  unfold buildA at h
  split at h
  case h_2 => cases h
  rename_i d ti hd hti
  split at h
  case h_2 => cases h
  rename_i zs hz
  split at h
  case isFalse => cases h
  rename_i hc
  simp only [Bool.and_eq_true] at hc
  have hzs : F2 (SR g) zs (⟨zs⟩ : Array Value).toList := F2.refl _ fun x hx => SR.plain g (List.all_eq_true.1 hc.1 x hx)
  split at h
  · rename_i fs
    split at h
    case h_2 => cases h
    rename_i pl hpl
    cases hf : fillL (fun i => pl[i]?) zs ps with
    | none => rw [hf] at h; cases h
    | some r =>
      rw [hf] at h
      simp only [Option.map_some, Option.some.injEq] at h
      subst h
      obtain ⟨r', hr', hrr⟩ := fill_ok ps qs zs ⟨zs⟩ r hp hc.2 hzs hf
      refine ⟨.agg r', ?_, ?_⟩
      · have hm0 : (fs.mapM placeM : Sem (Array (Nat × Nat))).run P W = .ok ⟨pl⟩ W := by
          rw [Array.mapM_eq_mapM_toList]
          simp only [Sem.run_map, run_places T W _ _ hpl, Result.andThen_ok]
        have hm : (fs.mapM fun f => do pure (f.offset, ← sizeOf f.type) : Sem (Array (Nat × Nat))).run P W = .ok ⟨pl⟩ W := hm0
        have hp' : (fun i : Nat => (⟨pl⟩ : Array (Nat × Nat))[i]?) = fun i : Nat => pl[i]? := by funext i; simp
        unfold Instr.build
        simp only [Sem.run_bind, T.run_zero hti hz, T.run_und hd, Result.andThen_ok, hm, Value.cells, hp', hr']
        rfl
      · obtain ⟨l⟩ := r'; exact .agg hrr
  · split at h
    case h_2 => cases h
    rename_i te hte
    cases hf : fillL (fun i => some (i * te.size, te.size)) zs ps with
    | none => rw [hf] at h; cases h
    | some r =>
      rw [hf] at h
      simp only [Option.map_some, Option.some.injEq] at h
      subst h
      obtain ⟨r', hr', hrr⟩ := fill_ok ps qs zs ⟨zs⟩ r hp hc.2 hzs hf
      refine ⟨.agg r', ?_, ?_⟩
      · unfold Instr.build
        simp only [Sem.run_bind, T.run_zero hti hz, T.run_und hd, Result.andThen_ok, T.run_size hte, Value.cells, hr']
        rfl
      · obtain ⟨l⟩ := r'; exact .agg hrr
  · cases h

/-- A scalar type whose values are compared as they stand. -/
def eqS (d : TypeDesc) (x y : Value) : Option Bool :=
  match d, x, y with
  | .int _, .int k a, .int k' b => if k = k' then some (a == b) else none
  | .string, .string a, .string b => some (a.data.toList == b.data.toList)
  | .bool, .bool a, .bool b => some (a == b)
  | _, _, _ => none

theorem eqS_ok {T : Tab P} {g : List (Option GB)} {t : TypeId} {d : TypeDesc} (ht : T.und t = some d) {x y x' y' : Value} {r : Bool} (h : eqS d x y = some r) (hx : VR g x x') (hy : VR g y y') (n : Nat) (W : World) : (Op.equalIn (n + 1) t x' y').run P W = .ok r W := by
  have hu := T.und_ok t d ht
  unfold eqS at h
  split at h
  · rename_i k0 k a k' b
    obtain rfl := SR.inv_int hx
    obtain rfl := SR.inv_int hy
    split at h
    · rename_i e; subst e
      simp only [Option.some.injEq] at h; subst h
      exact run_equalIn_int W n t k k0 a b hu
    · cases h
  · obtain rfl := SR.inv_str hx
    obtain rfl := SR.inv_str hy
    simp only [Option.some.injEq] at h; subst h
    rw [run_equalIn_string W n t _ _ hu, ByteArray.toList_eq, ByteArray.toList_eq]
  · obtain rfl := SR.inv_bool hx
    obtain rfl := SR.inv_bool hy
    simp only [Option.some.injEq] at h; subst h
    exact run_equalIn_bool W n t _ _ hu
  · cases h

/-- The fields of two structs, one behind the other. -/
def eqFieldsA (T : Tab P) (xs ys : List Value) : List Field → Option Bool
  | [] => some true
  | f :: fs =>
    if f.name = "_" then eqFieldsA T xs ys fs else
    match T.und f.type, xs[f.offset]?, ys[f.offset]? with
    | some d, some x, some y =>
      if isAggD d then none else
      match eqS d x y, eqFieldsA T xs ys fs with
      | some a, some b => some (a && b)
      | _, _ => none
    | _, _, _ => none

theorem eqFieldsA_ok {T : Tab P} {g : List (Option GB)} {xs ys : List Value} {xs' ys' : Array Value} (hx : F2 (SR g) xs xs'.toList) (hy : F2 (SR g) ys ys'.toList) (n : Nat) (W : World) : ∀ (fs : List Field) (r : Bool), eqFieldsA T xs ys fs = some r →
    (Op.eqFields (n + 1) xs' ys' fs).run P W = .ok r W
  | [], r, h => by simp only [eqFieldsA, Option.some.injEq] at h; subst h; rfl
  | f :: fs, r, h => by
    unfold eqFieldsA at h
    unfold Op.eqFields
    split at h
    · rename_i hn
      rw [if_neg (by simp [hn])]
      exact eqFieldsA_ok hx hy n W fs r h
    · rename_i hn
      rw [if_pos hn]
      split at h
      case h_2 => cases h
      rename_i d x y hd hxo hyo
      split at h
      case isTrue => cases h
      rename_i hagg
      split at h
      case h_2 => cases h
      rename_i a b ha hb
      simp only [Option.some.injEq] at h
      subst h
      obtain ⟨w1, hw1, hr1⟩ := hx.get _ _ hxo
      obtain ⟨w2, hw2, hr2⟩ := hy.get _ _ hyo
      have e1 : xs'[f.offset]? = some w1 := by rw [← Array.getElem?_toList]; exact hw1
      have e2 : ys'[f.offset]? = some w2 := by rw [← Array.getElem?_toList]; exact hw2
      have hagg' : isAggD d = false := by simpa using hagg
      have p1 : (part f.type xs' f.offset).run P W = .ok w1 W := by simp [part, T.run_isAgg hd, hagg', e1]
      have p2 : (part f.type ys' f.offset).run P W = .ok w2 W := by simp [part, T.run_isAgg hd, hagg', e2]
      have p3 := eqS_ok hd ha (.s hr1) (.s hr2) n W
      simp only [Sem.run_bind, p1, Result.andThen_ok, p2, p3]
      cases a with
      | false => rfl
      | true =>
        simp only [Bool.not_true, Bool.false_eq_true, if_false, Bool.true_and]
        exact eqFieldsA_ok hx hy n W fs b hb

/-- '==' and '!=' on two structs. -/
def eqAggA (T : Tab P) (t : TypeId) (xs ys : List Value) : Option Bool :=
  match T.und t with
  | some (.struct fs) => if T.plainEq t then eqFieldsA T xs ys fs.toList else none
  | _ => none

/-- A binary operator. -/
def aBinT (T : Tab P) (op : BinOp) (t : TypeId) (x y : Value) : Option (List Bool × Value) :=
  match x, y with
  | .agg ⟨xs⟩, .agg ⟨ys⟩ =>
    match op with
    | .eql => (eqAggA T t xs ys).map fun r => ([], .bool r)
    | .neq => (eqAggA T t xs ys).map fun r => ([], .bool !r)
    | _ => none
  | x, y => aBin op (T.und t) x y

theorem VR.inv_agg {g : List (Option GB)} {xs : List Value} {v : Value} (h : VR g (.agg ⟨xs⟩) v) : ∃ ys : Array Value, v = .agg ys ∧ F2 (SR g) xs ys.toList := by
  cases h with
  | a h => cases h with
    | s h => cases h
    | agg hf => exact ⟨_, rfl, hf⟩

theorem eqAggA_ok {T : Tab P} {g : List (Option GB)} {t : TypeId} {xs ys : List Value} {r : Bool} (h : eqAggA T t xs ys = some r) {xs' ys' : Array Value} (hx : F2 (SR g) xs xs'.toList) (hy : F2 (SR g) ys ys'.toList) (W : World) :
    P.eqGuardType P.depth t = false ∧ (Op.equalIn 10000 t (.agg xs') (.agg ys')).run P W = .ok r W := by
  unfold eqAggA at h
  split at h
  case h_2 => cases h
  rename_i fs hd
  split at h
  case isFalse => cases h
  rename_i hp
  obtain ⟨h1, h2⟩ := T.plainEq_ok t hp
  have hu := T.und_ok t _ hd
  have hfo : P.fieldsOf t = fs := by simp [Program.fieldsOf, hu]
  refine ⟨h1, ?_⟩
  have := run_equalIn_struct (P := P) W 9999 t xs' ys' (by rw [hfo]; exact hu) h2
  rw [hfo] at this
  exact this.trans (eqFieldsA_ok hx hy 9998 W fs.toList r h)

theorem aBinT_ok {T : Tab P} {g : List (Option GB)} {op : BinOp} {t : TypeId} {x y x' y' : Value} {cs : List Bool} {v : Value} (h : aBinT T op t x y = some (cs, v)) (hc : ∀ c ∈ cs, c = true)
    (hx : VR g x x') (hy : VR g y y') (ox oy : Operand) (W : World) :
    (do eqGuard op t ox oy x' y'; binOp op t x' y' : Sem Value).run P W = .ok v W ∧ VR g v v := by
  unfold aBinT at h
  split at h
  · rename_i xs ys
    obtain ⟨xs', rfl, hxs⟩ := hx.inv_agg
    obtain ⟨ys', rfl, hys⟩ := hy.inv_agg
    split at h
    · cases hr : eqAggA T t xs ys with
      | none => rw [hr] at h; cases h
      | some r =>
        rw [hr] at h
        simp only [Option.map_some, Option.some.injEq, Prod.mk.injEq] at h
        obtain ⟨rfl, rfl⟩ := h
        obtain ⟨h1, h2⟩ := eqAggA_ok hr hxs hys W
        refine ⟨?_, .s (.bool _)⟩
        simp only [Sem.run_bind, run_eqGuard_agg W .eql t ox oy xs' ys' h1, Result.andThen_ok, run_eql_struct, h2]
    · cases hr : eqAggA T t xs ys with
      | none => rw [hr] at h; cases h
      | some r =>
        rw [hr] at h
        simp only [Option.map_some, Option.some.injEq, Prod.mk.injEq] at h
        obtain ⟨rfl, rfl⟩ := h
        obtain ⟨h1, h2⟩ := eqAggA_ok hr hxs hys W
        refine ⟨?_, .s (.bool _)⟩
        simp only [Sem.run_bind, run_eqGuard_agg W .neq t ox oy xs' ys' h1, Result.andThen_ok, run_neq_struct, h2]
    · cases h
  · exact aBin_ok h hc hx hy ox oy W
end Go.AE
