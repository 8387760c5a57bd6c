/-
  An abstract logic for the model (part 10): how frames and memories look, evaluated by functions. Conditions: none.
-/
import Derived.Test.YtfohjnfdgegfcaaDoorAe9
namespace Go.AE
set_option linter.unusedSimpArgs false
variable {P : Program}

/-- A slice literal. -/
def buildSliceA (T : Tab P) (t : TypeId) (len : Nat) (parts : List (Nat × Value)) : Option (TypeId × List Value) :=
  match T.und t with
  | some (.slice e) =>
    match T.inf e with
    | some te =>
      match te.zero with
      | some z =>
        let init := (List.range (len * te.size)).map fun i => z.cells[i % z.cells.size]!
        if len * te.size > 2 ^ 24 || len * te.size == 0 || !init.all plainS || !parts.all (fun p => cellsOk p.2) then none
        else (fillL (fun i => some (i * te.size, te.size)) init parts).map fun cs => (e, cs)
      | none => none
    | none => none
  | _ => none

theorem buildSliceA_ok {T : Tab P} {t e : TypeId} {len : Nat} {ps qs : List (Nat × Value)} {cs : List Value} {g : List (Option GB)} (h : buildSliceA T t len ps = some (e, cs)) (hp : F2 (fun p q => p.1 = q.1 ∧ VR g p.2 q.2) ps qs) (W : World) :
    ∃ ds, (Instr.buildSlice t len ⟨qs⟩).run P W = .ok (.slice (some ⟨W.heap.size, 0, none⟩) len len) (W.alloc (.cells ⟨ds⟩ e)) ∧ F2 (SR g) cs ds := by
  unfold buildSliceA at h
  split at h
  case h_2 => cases h
  rename_i e' hd
  split at h
  case h_2 => cases h
  rename_i te hte
  split at h
  case h_2 => cases h
  rename_i z hz
  simp only at h
  split at h
  case isTrue => cases h
  rename_i hc
  simp only [Bool.or_eq_true, not_or, decide_eq_true_eq, beq_iff_eq, Bool.not_eq_true', Bool.not_eq_false] at hc
  obtain ⟨⟨⟨c1, c2⟩, c3⟩, c4⟩ := hc
  cases hf : fillL (fun i => some (i * te.size, te.size)) ((List.range (len * te.size)).map fun i => z.cells[i % z.cells.size]!) ps with
  | none => rw [hf] at h; cases h
  | some r =>
    rw [hf] at h
    simp only [Option.map_some, Option.some.injEq, Prod.mk.injEq] at h
    obtain ⟨rfl, rfl⟩ := h
    have hin : F2 (SR g) ((List.range (len * te.size)).map fun i => z.cells[i % z.cells.size]!) ((Array.range (len * te.size)).map fun i => z.cells[i % z.cells.size]!).toList := by
      rw [Array.toList_map, Array.toList_range]
      exact F2.refl _ fun x hx => SR.plain g (List.all_eq_true.1 c3 x hx)
    obtain ⟨r', hr', hrr⟩ := fill_ok ps qs _ _ r hp c4 hin hf
    refine ⟨r'.toList, ?_, hrr⟩
    have c1' : ¬ 16777216 < len * te.size := by omega
    unfold Instr.buildSlice
    simp only [Sem.run_bind, T.run_und hd, Result.andThen_ok, T.run_size hte]
    rw [if_neg (by omega), if_neg c2]
    simp only [pure_bind, Sem.run_bind, T.run_zero hte hz, Result.andThen_ok]
    rw [hr']
    rfl

def pairs (ρ : Operand → Value) (ps : List (Nat × Operand)) : List (Nat × Value) := ps.map fun p => (p.1, ρ p.2)

/-- A cell that holds a byte; the byte. -/
def isByte : Value → Bool
  | .int .u8 _ => true
  | _ => false
def byteOf : Value → UInt8
  | .int _ n => UInt8.ofNat n.toNat
  | _ => 0
def evPick {R : Type} (X : Ops R) (t va vb : Value) (m : Mem) (k : Value → Mem → R) : R :=
  match t with
  | .bool t =>
    match va, vb with
    | .bool p, .bool q => k (.bool (cond t p q)) m
    | .int ka p, .int kb q => if ka = kb then k (.int ka (cond t p q)) m else X.fl
    | .string p, .string q => k (.string (cond t p q)) m
    | va, vb => X.br t (k va m) (k vb m)
  | _ => X.fl
def evAlloc {R : Type} (X : Ops R) (T : Tab P) (e : TypeId) (m : Mem) (k : Value → Mem → R) : R :=
  match T.inf e with
  | some te =>
    match te.zero with
    | some z => if plainC z && cellsOk z then k (.pointer (some ⟨m.length, 0, none⟩)) (m ++ [newBlk e z.cells.toList]) else X.fl
    | none => X.fl
  | none => X.fl
def evOpt {R : Type} (X : Ops R) (o : Option Value) (m : Mem) (k : Value → Mem → R) : R :=
  match o with
  | some v => k v m
  | none => X.fl
def evCond {R : Type} (X : Ops R) (o : Option (List Bool × Value)) (m : Mem) (k : Value → Mem → R) : R :=
  match o with
  | some (cs, v) => cs.foldr X.nd (k v m)
  | none => X.fl
def evBuildSlice {R : Type} (X : Ops R) (o : Option (TypeId × List Value)) (len : Nat) (m : Mem) (k : Value → Mem → R) : R :=
  match o with
  | some (e, cs) => k (.slice (some ⟨m.length, 0, none⟩) len len) (m ++ [newBlk e cs])
  | none => X.fl
def evNil {R : Type} (X : Ops R) (v : Value) (m : Mem) (k : Value → Mem → R) : R :=
  match v with
  | .pointer (some a) => k (.pointer (some a)) m
  | _ => X.fl
def evExtract {R : Type} (X : Ops R) (v : Value) (i : Nat) (m : Mem) (k : Value → Mem → R) : R :=
  match v with
  | .tuple ⟨vs⟩ => X.ld (vs[i]?) fun v => k v m
  | _ => X.fl
def evBuiltin {R : Type} (X : Ops R) (T : Tab P) (b : Builtin) (ts : List TypeId) (xs : List Operand) (ρ : Operand → Value) (m : Mem) (k : Value → Mem → R) : R :=
  match b with
  | .len =>
    match ts, xs with
    | [t], [x] =>
      match lenA (T.und t) (ρ x) with
      | some v => k v m
      | none => X.fl
    | _, _ => X.fl
  | .append =>
    match ts, xs with
    | [ts, tx], [s, x] => evAppend X T ts tx (ρ s) (ρ x) m k
    | _, _ => X.fl
  | .min =>
    match xs with
    | [x, y] =>
      match ρ x, ρ y with
      | .int ka p, .int _ q => k (.int ka (if q < p then q else p)) m
      | _, _ => X.fl
    | _ => X.fl
  | .max =>
    match xs with
    | [x, y] =>
      match ρ x, ρ y with
      | .int ka p, .int _ q => k (.int ka (if q > p then q else p)) m
      | _, _ => X.fl
    | _ => X.fl
  | _ => X.fl
/-- A conversion: of bytes to a string it reads memory. -/
def evConv {R : Type} (X : Ops R) (T : Tab P) (s d : TypeId) (x : Value) (m : Mem) (k : Value → Mem → R) : R :=
  match x with
  | .slice (some ⟨j, off, none⟩) n _ =>
    match T.und s, T.und d with
    | some (.slice e), some .string =>
      match T.und e, m[j]? with
      | some (.int .u8), some (some b) => X.nd (decide (off + n ≤ b.cells.length) && ((b.cells.drop off).take n).all isByte) (k (S (((b.cells.drop off).take n).map byteOf)) m)
      | _, _ => X.fl
    | _, _ => X.fl
  | .slice none _ _ =>
    match T.und s, T.und d with
    | some (.slice e), some .string =>
      match T.und e with
      | some (.int .u8) => k (S []) m
      | _ => X.fl
    | _, _ => X.fl
  | x => evOpt X (aConv (T.und s) (T.und d) x) m k
def evCall {R : Type} (X : Ops R) (T : Tab P) (c : Call) (ρ : Operand → Value) (m : Mem) (k : Value → Mem → R) : R :=
  match c.callee with
  | .value f =>
    match ρ f with
    | .func (.func n) ⟨[]⟩ ⟨[]⟩ => if T.fn n then X.call n (c.args.toList.map ρ) m k else X.fl
    | _ => X.fl
  | .builtin b => evBuiltin X T b c.argTypes.toList c.args.toList ρ m k
  | _ => X.fl

/-- One operation. -/
def evOp {R : Type} (X : Ops R) (T : Tab P) (o : Op) (ρ : Operand → Value) (m : Mem) (k : Value → Mem → R) : R :=
  match o with
  | .move x => k (ρ x) m
  | .assign x => k (ρ x) m
  | .pick c a b => evPick X (ρ c) (ρ a) (ρ b) m k
  | .alloc e => evAlloc X T e m k
  | .box e x => if cellsOk (ρ x) then k (.pointer (some ⟨m.length, 0, none⟩)) (m ++ [newBlk e (ρ x).cells.toList]) else X.fl
  | .build t parts => evOpt X (buildA T t (pairs ρ parts.toList)) m k
  | .buildSlice t len parts => evBuildSlice X (buildSliceA T t len (pairs ρ parts.toList)) len m k
  | .load t a => evLoad X T t (ρ a) m fun v => k v m
  | .store t a x => evStore X T t (ρ a) (ρ x) m fun m' => k undef m'
  | .nilCheck x => evNil X (ρ x) m k
  | .binOp op t x y _ => evCond X (aBinT T op t (ρ x) (ρ y)) m k
  | .unOp op _ x => evOpt X (aUn op (ρ x)) m k
  | .convert s d x => evConv X T s d (ρ x) m k
  | .slice t x lo hi none => evSlice X T t (ρ x) (lo.map ρ) (hi.map ρ) m fun v => k v m
  | .fieldAddr t x f => evOpt X (fieldAddrA T t (ρ x) f) m k
  | .field t x f => evOpt X (fieldA T t (ρ x) f) m k
  | .indexAddr t x i => evCond X (indexAddrA T t (ρ x) (ρ i)) m k
  | .index t x i => evCond X (indexA T t (ρ x) (ρ i)) m k
  | .extract x i => evExtract X (ρ x) i m k
  | .call c => evCall X T c ρ m k
  | _ => X.fl

theorem F2_pairs {g : List (Option GB)} {ρ ρ' : Operand → Value} (h : ∀ x, VR g (ρ x) (ρ' x)) : ∀ ps : List (Nat × Operand), F2 (fun p q => p.1 = q.1 ∧ VR g p.2 q.2) (pairs ρ ps) (pairs ρ' ps)
  | [] => .nil
  | p :: ps => .cons ⟨rfl, h p.2⟩ (F2_pairs h ps)
theorem F2_args {g : List (Option GB)} {ρ ρ' : Operand → Value} (h : ∀ x, VR g (ρ x) (ρ' x)) : ∀ xs : List Operand, F2 (VR g) (xs.map ρ) (xs.map ρ')
  | [] => .nil
  | x :: xs => .cons (h x) (F2_args h xs)
theorem arr_pairs (ρ : Operand → Value) (ps : Array (Nat × Operand)) : (ps.map fun (i, x) => (i, ρ x)) = ⟨pairs ρ ps.toList⟩ := by
  apply Array.ext'
  simp [pairs]
theorem arr_args (ρ : Operand → Value) (xs : Array Operand) : xs.map ρ = ⟨xs.toList.map ρ⟩ := by
  apply Array.ext'
  simp
theorem arr_of_toList {α : Type} {xs : Array α} {l : List α} (h : xs.toList = l) : xs = ⟨l⟩ := by
  apply Array.ext'
  simpa using h

/-- What stays as it is. -/
theorem OpDone.same {c : Ctx} {g₀ g : List (Option GB)} {N : Value → Mem → Prop} {m : Mem} {W : World} {r : Result Next} {v w : Value} (hr : Rel P c (g₀ ++ g) m W) (e : r = .ok (.value w) W) (hv : VR (g₀ ++ g) v w) (hn : N v m) : OpDone P c g₀ g N r := by
  subst e
  exact ⟨v, m, [], hn, by simpa using hr, by simpa using hv⟩
theorem OpDone.made {c : Ctx} {g₀ g : List (Option GB)} {N : Value → Mem → Prop} {m : Mem} {W : World} {r : Result Next} (hr : Rel P c (g₀ ++ g) m W) {v w : Value} {xs ys : List Value} {e : TypeId} (hf : F2 (SR (g₀ ++ g)) xs ys)
    (he : r = .ok (.value w) (W.alloc (.cells ⟨ys⟩ e))) (hv : ∀ g' : List (Option GB), g'[m.length]? = some (some ⟨W.heap.size, 0⟩) → VR g' v w) (hn : N v (m ++ [newBlk e xs])) : OpDone P c g₀ g N r := by
  subst he
  refine ⟨v, _, [some ⟨W.heap.size, 0⟩], hn, by rw [← List.append_assoc]; exact hr.newRow hf e, hv _ (by rw [← List.append_assoc]; exact last_app hr.len)⟩

theorem execOp_val {ρ : Operand → Value} {o : Oper} {s : Sem Value} {w : Value} {W W' : World} (he : execOp ρ o = (do pure (.value (← s)) : Sem Next)) (hs : s.run P W = .ok w W') : (execOp ρ o).run P W = .ok (.value w) W' := by
  rw [he]; simp [hs]

theorem bytes_cells {g : List (Option GB)} : ∀ {xs ys : List Value}, F2 (SR g) xs ys → xs.all isByte = true → ys = xs
  | [], [], _, _ => rfl
  | x :: xs, y :: ys, .cons hr hf, h => by
    simp only [List.all_cons, Bool.and_eq_true] at h
    rw [bytes_cells hf h.2]
    congr 1
    cases x <;> first | (cases h.1; done) | (cases hr; rfl)
theorem bytes_of : ∀ {xs : List Value}, xs.all isByte = true → ∃ ns : List Int, xs = ns.map fun n => .int .u8 n
  | [], _ => ⟨[], rfl⟩
  | x :: xs, h => by
    simp only [List.all_cons, Bool.and_eq_true] at h
    obtain ⟨ns, rfl⟩ := bytes_of h.2
    cases x with
    | int k n => cases k <;> first | exact ⟨n :: ns, rfl⟩ | cases h.1
    | _ => cases h.1

theorem foldl_push : ∀ (ns : List Int) (s : ByteArray), ns.foldl (fun r n => r.push (UInt8.ofNat n.toNat)) s = ⟨⟨bl s ++ ns.map fun n => UInt8.ofNat n.toNat⟩⟩
  | [], s => by simp
  | n :: ns, s => by
    rw [List.foldl_cons, foldl_push ns]
    have : bl (s.push (UInt8.ofNat n.toNat)) = bl s ++ [UInt8.ofNat n.toNat] := by
      show (s.data.push _).toList = _
      simp
    rw [this]
    simp

theorem evConv_ok {n₀ : Nat} {R : Type} {X : Ans P n₀ R} {T : Tab P} {s d : TypeId} {x x' : Value} {m : Mem} {k : Value → Mem → R} (h : X.holds (evConv X T s d x m k)) {c : Ctx} {g : List (Option GB)} {W : World} (hr : Rel P c g m W) (hx : VR g x x') :
    ∃ v w, (convert s d x').run P W = .ok w W ∧ VR g v w ∧ X.holds (k v m) := by
  unfold evConv at h
  split at h
  · rename_i j off n cap
    split at h
    case h_2 => exact absurd h X.fl_ok
    rename_i e hs hd
    split at h
    case h_2 => exact absurd h X.fl_ok
    rename_i b he hj
    obtain ⟨hc, h⟩ := X.nd_ok _ _ h
    rw [Bool.and_eq_true] at hc
    cases hx with
    | a hx => cases hx with
      | s hx => cases hx with
        | slice _ _ _ _ gb hg =>
          obtain ⟨ys, hys, hf⟩ := hr.loadCells hj hg (of_decide_eq_true hc.1)
          have hyx := bytes_cells hf hc.2
          obtain ⟨ns, hns⟩ := bytes_of hc.2
          refine ⟨_, S (((b.cells.drop off).take n).map byteOf), ?_, .s (.str _), h⟩
          rw [run_convert_bytes_string W s d e _ n _ (T.und_ok _ _ hs) (T.und_ok _ _ he) (T.und_ok _ _ hd)]
          rw [hyx, hns] at hys
          have := run_bytesToString (P := P) W ⟨gb.b, off, none⟩ n (cap + gb.extra) ns hys
          rw [this, hns, foldl_push]
          simp only [bl, List.map_map]
          rfl
  · rename_i n cap
    split at h
    case h_2 => exact absurd h X.fl_ok
    rename_i e hs hd
    split at h
    case h_2 => exact absurd h X.fl_ok
    rename_i he
    cases hx with
    | a hx => cases hx with
      | s hx => cases hx with
        | slice0 =>
          refine ⟨_, S [], ?_, .s (.str _), h⟩
          rw [run_convert_bytes_string W s d e _ _ _ (T.und_ok _ _ hs) (T.und_ok _ _ he) (T.und_ok _ _ hd)]
          rfl
  · simp only [evOpt] at h
    split at h
    case h_2 => exact absurd h X.fl_ok
    rename_i v hb
    have := aConv_ok hb hx W
    exact ⟨v, v, this.1, this.2, h⟩

theorem evOp_ok {n₀ : Nat} {R : Type} {X : Ans P n₀ R} {T : Tab P} {o : Oper} {ρ ρ' : Operand → Value} {m : Mem} {k : Value → Mem → R} (h : X.holds (evOp X T o.op ρ m k)) {c : Ctx} {g₀ g : List (Option GB)} {W : World} (hr : Rel P c (g₀ ++ g) m W)
    (hv : ∀ x, VR (g₀ ++ g) (ρ x) (ρ' x)) : OpDone P c g₀ g (fun v m' => X.holds (k v m')) ((execOp ρ' o).run P W) := by
  obtain ⟨dst, op, type, pos, after, guard⟩ := o
  cases op with
  | move x => exact .same hr rfl (hv x) h
  | assign x => exact .same hr rfl (hv x) h
  | pick cd a b =>
    simp only [evOp, evPick, evAlloc, evOpt, evCond, evBuildSlice, evNil, evExtract, evBuiltin, evCall] at h
    split at h
    case h_2 => exact absurd h X.fl_ok
    rename_i t ht
    have hc := hv cd
    rw [ht] at hc
    have hc := SR.inv_bool hc
    have e : (execOp ρ' ⟨dst, .pick cd a b, type, pos, after, guard⟩).run P W = .ok (.value (if t then ρ' a else ρ' b)) W := by
      simp only [execOp, hc, asBool]
      cases t <;> rfl
    have ha := hv a
    have hb := hv b
    split at h
    · rename_i p q hp hq
      rw [hp] at ha; rw [hq] at hb
      exact .same hr (by rw [e, SR.inv_bool ha, SR.inv_bool hb]) (v := .bool (cond t p q)) (by cases t <;> exact .s (.bool _)) h
    · rename_i ka p kb q hp hq
      rw [hp] at ha; rw [hq] at hb
      split at h
      case isFalse => exact absurd h X.fl_ok
      rename_i hk; subst hk
      exact .same hr (by rw [e, SR.inv_int ha, SR.inv_int hb]) (v := .int ka (cond t p q)) (by cases t <;> exact .s (.int _ _)) h
    · rename_i p q hp hq
      rw [hp] at ha; rw [hq] at hb
      exact .same hr (by rw [e, SR.inv_str ha, SR.inv_str hb]) (v := .string (cond t p q)) (by cases t <;> exact .s (.str _)) h
    · obtain ⟨h1, h2⟩ := X.br_ok _ _ _ h
      cases t with
      | true => exact .same hr (by rw [e]; rfl) ha (h1 rfl)
      | false => exact .same hr (by rw [e]; rfl) hb (h2 rfl)
  | alloc e =>
    simp only [evOp, evPick, evAlloc, evOpt, evCond, evBuildSlice, evNil, evExtract, evBuiltin, evCall] at h
    split at h
    case h_2 => exact absurd h X.fl_ok
    rename_i te hte
    split at h
    case h_2 => exact absurd h X.fl_ok
    rename_i z hz
    split at h
    case isFalse => exact absurd h X.fl_ok
    rename_i hp
    rw [Bool.and_eq_true] at hp
    refine .made hr ((VR.plain (g₀ ++ g) hp.1).cells hp.2) (w := .pointer (some ⟨W.heap.size, 0, none⟩)) ?_ (fun g' hg' => .s (.ptr _ _ _ hg')) h
    refine execOp_val rfl ?_
    simp only [Instr.alloc, Sem.run_bind, T.run_zero hte hz, Result.andThen_ok]
    rfl
  | box e x =>
    simp only [evOp, evPick, evAlloc, evOpt, evCond, evBuildSlice, evNil, evExtract, evBuiltin, evCall] at h
    split at h
    case isFalse => exact absurd h X.fl_ok
    rename_i hp
    refine .made hr ((hv x).cells hp) (w := .pointer (some ⟨W.heap.size, 0, none⟩)) ?_ (fun g' hg' => .s (.ptr _ _ _ hg')) h
    exact execOp_val rfl rfl
  | build t parts =>
    simp only [evOp, evPick, evAlloc, evOpt, evCond, evBuildSlice, evNil, evExtract, evBuiltin, evCall] at h
    split at h
    case h_2 => exact absurd h X.fl_ok
    rename_i v hb
    obtain ⟨w, hw, hvw⟩ := buildA_ok hb (F2_pairs hv _) W
    exact .same hr (execOp_val rfl (by rw [arr_pairs]; exact hw)) hvw h
  | buildSlice t len parts =>
    simp only [evOp, evPick, evAlloc, evOpt, evCond, evBuildSlice, evNil, evExtract, evBuiltin, evCall] at h
    split at h
    case h_2 => exact absurd h X.fl_ok
    rename_i e cs hb
    obtain ⟨ds, hd, hf⟩ := buildSliceA_ok hb (F2_pairs hv _) W
    refine .made hr hf (execOp_val rfl (by rw [arr_pairs]; exact hd)) (fun g' hg' => .s ?_) h
    exact SR.slice _ _ _ _ _ hg'
  | load t a =>
    simp only [evOp, evPick, evAlloc, evOpt, evCond, evBuildSlice, evNil, evExtract, evBuiltin, evCall] at h
    obtain ⟨v, w, hw, hvw, hk⟩ := evLoad_ok h hr (hv a)
    exact .same hr (execOp_val rfl hw) hvw hk
  | store t a x =>
    simp only [evOp, evPick, evAlloc, evOpt, evCond, evBuildSlice, evNil, evExtract, evBuiltin, evCall] at h
    obtain ⟨W', m', hw, hr', hk⟩ := evStore_ok h hr (hv a) (hv x)
    have e : (execOp ρ' ⟨dst, .store t a x, type, pos, after, guard⟩).run P W = .ok .skip W' := by
      simp only [execOp, Sem.run_bind, hw, Result.andThen_ok, Sem.run_pure]
    rw [e]
    exact ⟨m', [], hk, by simpa using hr'⟩
  | nilCheck x =>
    simp only [evOp, evPick, evAlloc, evOpt, evCond, evBuildSlice, evNil, evExtract, evBuiltin, evCall] at h
    split at h
    case h_2 => exact absurd h X.fl_ok
    rename_i a ha
    have hx := hv x
    rw [ha] at hx
    have hx' := hx
    generalize hw : ρ' x = w at hx hx'
    cases hx with
    | a hx => cases hx with
      | s hx => cases hx with
        | ptr j off gb hg =>
          refine .same hr ?_ hx' h
          simp only [execOp, hw]; rfl
  | binOp op t x y ty =>
    simp only [evOp, evPick, evAlloc, evOpt, evCond, evBuildSlice, evNil, evExtract, evBuiltin, evCall] at h
    split at h
    case h_2 => exact absurd h X.fl_ok
    rename_i cs v hb
    obtain ⟨hc, hk⟩ := foldr_nd _ _ h
    have := aBinT_ok hb hc (hv x) (hv y) x y W
    exact .same hr (execOp_val rfl this.1) this.2 hk
  | unOp op t x =>
    simp only [evOp, evPick, evAlloc, evOpt, evCond, evBuildSlice, evNil, evExtract, evBuiltin, evCall] at h
    split at h
    case h_2 => exact absurd h X.fl_ok
    rename_i v hb
    have := aUn_ok (P := P) hb (hv x) W
    exact .same hr (execOp_val rfl this.1) this.2 h
  | convert s d x =>
    simp only [evOp] at h
    obtain ⟨v, w, hw, hvw, hk⟩ := evConv_ok h hr (hv x)
    exact .same hr (execOp_val rfl hw) hvw hk
  | slice t x lo hi mx =>
    cases mx with
    | some _ => exact absurd h X.fl_ok
    | none =>
      simp only [evOp, evPick, evAlloc, evOpt, evCond, evBuildSlice, evNil, evExtract, evBuiltin, evCall] at h
      obtain ⟨v, w, hw, hvw, hk⟩ := evSlice_ok (lo' := lo.map ρ') (hi' := hi.map ρ') h hr (hv x) (fun v e => by cases lo <;> simp at e ⊢; subst e; exact hv _) (fun e => by cases lo <;> simp at e ⊢) (fun v e => by cases hi <;> simp at e ⊢; subst e; exact hv _)
        (fun e => by cases hi <;> simp at e ⊢)
      exact .same hr (execOp_val rfl hw) hvw hk
  | fieldAddr t x f =>
    simp only [evOp, evPick, evAlloc, evOpt, evCond, evBuildSlice, evNil, evExtract, evBuiltin, evCall] at h
    split at h
    case h_2 => exact absurd h X.fl_ok
    rename_i v hb
    obtain ⟨w, hw, hvw⟩ := fieldAddrA_ok hb (hv x) W
    exact .same hr (execOp_val rfl hw) hvw h
  | field t x f =>
    simp only [evOp, evPick, evAlloc, evOpt, evCond, evBuildSlice, evNil, evExtract, evBuiltin, evCall] at h
    split at h
    case h_2 => exact absurd h X.fl_ok
    rename_i v hb
    obtain ⟨w, hw, hvw⟩ := fieldA_ok hb (hv x) W
    exact .same hr (execOp_val rfl hw) hvw h
  | indexAddr t x i =>
    simp only [evOp, evPick, evAlloc, evOpt, evCond, evBuildSlice, evNil, evExtract, evBuiltin, evCall] at h
    split at h
    case h_2 => exact absurd h X.fl_ok
    rename_i cs v hb
    obtain ⟨hc, hk⟩ := foldr_nd _ _ h
    obtain ⟨w, hw, hvw⟩ := indexAddrA_ok hb hc (hv x) (hv i) W
    exact .same hr (execOp_val rfl hw) hvw hk
  | index t x i =>
    simp only [evOp, evPick, evAlloc, evOpt, evCond, evBuildSlice, evNil, evExtract, evBuiltin, evCall] at h
    split at h
    case h_2 => exact absurd h X.fl_ok
    rename_i cs v hb
    obtain ⟨hc, hk⟩ := foldr_nd _ _ h
    obtain ⟨w, hw, hvw⟩ := indexA_ok hb hc (hv x) (hv i) W
    exact .same hr (execOp_val rfl hw) hvw hk
  | extract x i =>
    simp only [evOp, evPick, evAlloc, evOpt, evCond, evBuildSlice, evNil, evExtract, evBuiltin, evCall] at h
    split at h
    case h_2 => exact absurd h X.fl_ok
    rename_i vs hb
    obtain ⟨v, hvs, hk⟩ := X.ld_ok _ _ h
    have hx := hv x
    rw [hb] at hx
    generalize hw0 : ρ' x = w0 at hx
    cases hx with
    | a hx => cases hx with
      | s hx => cases hx
    | tup hx =>
      rename_i ys
      obtain ⟨w, hw, hvw⟩ := hx.get i v hvs
      refine .same hr (w := w) (execOp_val rfl ?_) (.a hvw) hk
      rw [hw0]
      have : (⟨ys⟩ : Array Value)[i]? = some w := by simpa using hw
      simp [Instr.extract, this]
  | call cl =>
    obtain ⟨callee, args, argTypes⟩ := cl
    cases callee with
    | invoke _ _ => exact absurd h X.fl_ok
    | value f =>
      simp only [evOp, evPick, evAlloc, evOpt, evCond, evBuildSlice, evNil, evExtract, evBuiltin, evCall] at h
      split at h
      case h_2 => exact absurd h X.fl_ok
      rename_i n hf
      split at h
      case isFalse => exact absurd h X.fl_ok
      rename_i hfn
      have hc := X.call_ok _ _ _ _ h
      have hff := hv f
      rw [hf] at hff
      have hff' : ρ' f = .func (.func n) #[] #[] := by
        generalize ρ' f = w at hff
        cases hff with
        | a h => cases h with
          | s h => cases h; rfl
      obtain ⟨d, code, hd, hname, hbody⟩ := T.fn_ok n hfn
      have e : (execOp ρ' ⟨dst, .call ⟨.value f, args, argTypes⟩, type, pos, after, guard⟩).run P W = .ok (.enter n ⟨args.toList.map ρ'⟩) W := by
        have hb : d.body ≠ none := by rw [hbody]; simp
        have hname' : d.name ≠ "runtime.NumGoroutine" := by simpa using hname
        simp [execOp, resolve, hff', Deferred.ofValue, invoke, callFunc, program, Sem.run, bind, Sem.bind, pure, hd, hname', hb]
        exact arr_args ρ' args
      rw [e]
      refine (hc c (g₀ ++ g) W _ hr (F2_args hv _)).mono ?_
      rintro e' W' ⟨v, v', m', g', he, hk, hr', hvv⟩
      exact ⟨v, v', m', g', he, hk, by rw [← List.append_assoc]; exact hr', by rw [← List.append_assoc]; exact hvv⟩
    | builtin b =>
      cases b with
      | len =>
        simp only [evOp, evPick, evAlloc, evOpt, evCond, evBuildSlice, evNil, evExtract, evBuiltin, evCall] at h
        split at h
        case h_2 => exact absurd h X.fl_ok
        rename_i t x ht hx
        split at h
        case h_2 => exact absurd h X.fl_ok
        rename_i v hl
        obtain rfl := arr_of_toList ht
        obtain rfl := arr_of_toList hx
        have := lenA_ok (ts := ⟨[t]⟩) (ty := type) (xs := []) (by simp) hl (hv x) W
        refine .same hr ?_ this.2 h
        simp only [execOp, resolve]
        simp [invoke, builtin, this.1]
      | append =>
        simp only [evOp, evPick, evAlloc, evOpt, evCond, evBuildSlice, evNil, evExtract, evBuiltin, evCall] at h
        split at h
        case h_2 => exact absurd h X.fl_ok
        rename_i ts tx s x ht hx
        obtain rfl := arr_of_toList ht
        obtain rfl := arr_of_toList hx
        obtain ⟨v, w, m', W', g', hw, hr', hvw, hk⟩ := evAppend_ok (ty := type) h hr (hv s) (hv x)
        have e : (execOp ρ' ⟨dst, .call ⟨.builtin .append, ⟨[s, x]⟩, ⟨[ts, tx]⟩⟩, type, pos, after, guard⟩).run P W = .ok (.value w) W' := by
          simp only [execOp, resolve]
          simp [invoke, builtin, hw]
        rw [e]
        exact ⟨v, m', g', hk, hr', hvw⟩
      | min =>
        simp only [evOp, evPick, evAlloc, evOpt, evCond, evBuildSlice, evNil, evExtract, evBuiltin, evCall] at h
        split at h
        case h_2 => exact absurd h X.fl_ok
        rename_i x y hx
        split at h
        case h_2 => exact absurd h X.fl_ok
        rename_i ka p kb q hp hq
        obtain rfl := arr_of_toList hx
        have h1 := hv x; rw [hp] at h1; have h1 := SR.inv_int h1
        have h2 := hv y; rw [hq] at h2; have h2 := SR.inv_int h2
        refine .same hr (w := .int ka (if q < p then q else p)) ?_ (.s (.int _ _)) h
        simp only [execOp, resolve]
        simp [invoke, builtin, Builtin.min_, Builtin.min2, h1, h2]
      | max =>
        simp only [evOp, evPick, evAlloc, evOpt, evCond, evBuildSlice, evNil, evExtract, evBuiltin, evCall] at h
        split at h
        case h_2 => exact absurd h X.fl_ok
        rename_i x y hx
        split at h
        case h_2 => exact absurd h X.fl_ok
        rename_i ka p kb q hp hq
        obtain rfl := arr_of_toList hx
        have h1 := hv x; rw [hp] at h1; have h1 := SR.inv_int h1
        have h2 := hv y; rw [hq] at h2; have h2 := SR.inv_int h2
        refine .same hr (w := .int ka (if q > p then q else p)) ?_ (.s (.int _ _)) h
        simp only [execOp, resolve]
        simp [invoke, builtin, Builtin.max_, Builtin.max2, h1, h2]
      | _ => exact absurd h X.fl_ok
  | _ => exact absurd h X.fl_ok
end Go.AE
