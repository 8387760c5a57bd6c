/-
  An abstract logic for the model, and a symbolic executor over it (part 2). Conditions: none.
-/
import Derived.Test.YtciemdpcllpdkaaDoorLog1
import Derived.Laws.MakeOwn
set_option linter.unusedVariables false
set_option linter.unusedSimpArgs false
set_option linter.unnecessarySimpa false
set_option linter.constructorNameAsVariable false
section
namespace Go.AE
set_option linter.unusedSimpArgs false
variable {P : Program}
def buildSliceA (T : Tab P) (t : TypeId) (len : Nat) (parts : List (Nat × Value)) : Option (TypeId × List Value) :=
  match T.und t with
  | some (.slice e) =>
    match T.inf e with
    | some te =>
      match te.zero with
      | some z =>
        let init := (List.range (len * te.size)).map fun i => z.cells[i % z.cells.size]!
        if len * te.size > 2 ^ 24 || (!(len == 0) && len * te.size == 0) || !init.all plainS || !parts.all (fun p => cellsOk p.2) then none
        else (fillL (fun i => some (i * te.size, te.size)) init parts).map fun cs => (e, cs)
      | none => none
    | none => none
  | _ => none
theorem buildSliceA_ok {T : Tab P} {t e : TypeId} {len : Nat} {ps qs : List (Nat × Value)} {cs : List Value} {g : List (Option GB)} (h : buildSliceA T t len ps = some (e, cs)) (hp : F2 (fun p q => p.1 = q.1 ∧ VR g p.2 q.2) ps qs) (W : World) :
    ∃ ds, (Instr.buildSlice t len ⟨qs⟩).run P W = .ok (.slice (some ⟨W.heap.size, 0, none⟩) len len) (W.alloc (.cells ⟨ds⟩ e)) ∧ F2 (SR g) cs ds := by
  unfold buildSliceA at h
  split at h
  case h_2 => cases h
  rename_i e' hd
  split at h
  case h_2 => cases h
  rename_i te hte
  split at h
  case h_2 => cases h
  rename_i z hz
  simp only at h
  split at h
  case isTrue => cases h
  rename_i hc
  simp only [Bool.or_eq_true, not_or, decide_eq_true_eq, beq_iff_eq, Bool.not_eq_true', Bool.not_eq_false] at hc
  obtain ⟨⟨⟨c1, c2⟩, c3⟩, c4⟩ := hc
  cases hf : fillL (fun i => some (i * te.size, te.size)) ((List.range (len * te.size)).map fun i => z.cells[i % z.cells.size]!) ps with
  | none => rw [hf] at h; cases h
  | some r =>
    rw [hf] at h
    simp only [Option.map_some, Option.some.injEq, Prod.mk.injEq] at h
    obtain ⟨rfl, rfl⟩ := h
    have hin : F2 (SR g) ((List.range (len * te.size)).map fun i => z.cells[i % z.cells.size]!) ((Array.range (len * te.size)).map fun i => z.cells[i % z.cells.size]!).toList := by
      rw [Array.toList_map, Array.toList_range]
      exact F2.refl _ fun x hx => SR.plain g (List.all_eq_true.1 c3 x hx)
    obtain ⟨r', hr', hrr⟩ := fill_ok ps qs _ _ r hp c4 hin hf
    refine ⟨r'.toList, ?_, hrr⟩
    have c1' : ¬ 16777216 < len * te.size := by omega
    unfold Instr.buildSlice
    simp only [Sem.run_bind, T.run_und hd, Result.andThen_ok, T.run_size hte]
    rw [if_neg (by omega)]
    by_cases h0 : len * te.size = 0
    · rw [if_pos h0]
      have e1 : (Array.range (len * te.size)).map (fun i => (#[] : Array Value)[i % (#[] : Array Value).size]!) = (Array.range (len * te.size)).map fun i => z.cells[i % z.cells.size]! := by rw [h0]; simp
      simp only [pure_bind, Sem.run_bind, Sem.run_pure, Result.andThen_ok]
      rw [e1, hr']
      rfl
    rw [if_neg h0]
    simp only [pure_bind, Sem.run_bind, T.run_zero hte hz, Result.andThen_ok]
    rw [hr']
    rfl
def makeLen (T : Tab P) (t : TypeId) (l c : Value) : Option Nat := match T.und t, l, c with
  | some (.slice e), .int _ n, .int _ n' => (match T.inf e with
    | some te => if decide (n = n') && decide (0 < n) && decide (n ≤ 65536) && decide (te.bytes ≤ 65536) then some n.toNat else none
    | none => none)
  | _, _, _ => none
theorem makeLen_ok {T : Tab P} {t e : TypeId} {l c : Value} {n : Nat} {cs : List Value} (h : makeLen T t l c = some n) (hb : buildSliceA T t n [] = some (e, cs)) (W : World) :
    (Instr.makeSlice t l c).run P W = .ok (.slice (some ⟨W.heap.size, 0, none⟩) n n) (W.alloc (.cells ⟨cs⟩ e)) ∧ ∀ g, F2 (SR g) cs cs := by
  unfold makeLen at h
  split at h
  case h_2 => cases h
  rename_i e' kl nl kc nc hd
  split at h
  case h_2 => cases h
  rename_i te hte
  split at h
  case isFalse => cases h
  rename_i hc
  simp only [Bool.and_eq_true, decide_eq_true_eq] at hc
  obtain ⟨⟨⟨rfl, h0⟩, h1⟩, h2⟩ := hc
  cases h
  unfold buildSliceA at hb
  simp only [hd, hte] at hb
  split at hb
  case h_2 => cases hb
  rename_i z hz
  split at hb
  case isTrue => cases hb
  rename_i hq
  simp only [Bool.or_eq_true, not_or, decide_eq_true_eq, beq_iff_eq, Bool.not_eq_true', Bool.not_eq_false] at hq
  obtain ⟨⟨⟨c1, c2⟩, c3⟩, c4⟩ := hq
  have h0' := h0
  have h0 : 0 ≤ nl := by omega
  have c2 : ¬ nl.toNat * te.size = 0 := fun h => c2 (by rw [h]; simp; omega)
  have hb : some (e', (List.range (nl.toNat * te.size)).map fun i => z.cells[i % z.cells.size]!) = some (e, cs) := hb
  cases hb
  obtain ⟨i, hi, hs, hby, hz'⟩ := T.inf_ok _ _ hte
  refine ⟨?_, fun g => F2.refl _ fun x hx => SR.plain g (List.all_eq_true.1 c3 x hx)⟩
  have hbytes : (i.bytes : Int) * nl ≤ 281474976710656 := by
    have h3 : (i.bytes : Int) * nl ≤ 65536 * 65536 := Int.mul_le_mul (by omega) h1 h0 (by omega)
    omega
  rw [run_make (P := P) W t e i z (T.und_ok _ _ hd) hi (by rw [hz', hz]) kl kc nl nl h0 (Int.le_refl _) hbytes (by omega)]
  congr 3
  apply Array.ext'
  simp [madeCells, hs]
def pairs (ρ : Operand → Value) (ps : List (Nat × Operand)) : List (Nat × Value) := ps.map fun p => (p.1, ρ p.2)
def isByte : Value → Bool
  | .int .u8 _ => true
  | _ => false
def byteOf : Value → UInt8
  | .int _ n => UInt8.ofNat n.toNat
  | _ => 0
def evPick {R : Type} (X : Ops R) (t va vb : Value) (m : Mem) (k : Value → Mem → R) : R :=
  match t with
  | .bool t =>
    match va, vb with
    | .bool p, .bool q => k (.bool (cond t p q)) m
    | .int ka p, .int kb q => if ka = kb then k (.int ka (cond t p q)) m else X.fl
    | .string p, .string q => k (.string (cond t p q)) m
    | va, vb => X.br t (k va m) (k vb m)
  | _ => X.fl
def evAlloc {R : Type} (X : Ops R) (T : Tab P) (e : TypeId) (m : Mem) (k : Value → Mem → R) : R :=
  match T.inf e with
  | some te =>
    match te.zero with
    | some z => if plainC z && cellsOk z then k (.pointer (some ⟨m.length, 0, none⟩)) (m ++ [newBlk e z.cells.toList]) else X.fl
    | none => X.fl
  | none => X.fl
def evOpt {R : Type} (X : Ops R) (o : Option Value) (m : Mem) (k : Value → Mem → R) : R :=
  match o with
  | some v => k v m
  | none => X.fl
def evCond {R : Type} (X : Ops R) (o : Option (List Bool × Value)) (m : Mem) (k : Value → Mem → R) : R :=
  match o with
  | some (cs, v) => cs.foldr X.nd (k v m)
  | none => X.fl
def evBuildSlice {R : Type} (X : Ops R) (o : Option (TypeId × List Value)) (len : Nat) (m : Mem) (k : Value → Mem → R) : R :=
  match o with
  | some (e, cs) => k (.slice (some ⟨m.length, 0, none⟩) len len) (m ++ [newBlk e cs])
  | none => X.fl
def evMakeSlice {R : Type} (X : Ops R) (T : Tab P) (t : TypeId) (l c : Value) (m : Mem) (k : Value → Mem → R) : R :=
  match makeLen T t l c with
  | some n => evBuildSlice X (buildSliceA T t n []) n m k
  | none => X.fl
def evNil {R : Type} (X : Ops R) (v : Value) (m : Mem) (k : Value → Mem → R) : R :=
  match v with
  | .pointer (some a) => k (.pointer (some a)) m
  | _ => X.fl
def evExtract {R : Type} (X : Ops R) (v : Value) (i : Nat) (m : Mem) (k : Value → Mem → R) : R :=
  match v with
  | .tuple ⟨vs⟩ => X.ld (vs[i]?) fun v => k v m
  | _ => X.fl
def s0Ok : Value → Bool
  | .bool _ | .int _ _ | .string _ | .pointer none => true
  | .pointer (some ⟨_, _, none⟩) => true
  | .slice none 0 0 => true
  | .slice (some ⟨_, _, none⟩) _ _ => true
  | .func _ ⟨[]⟩ ⟨[]⟩ => true
  | _ => false
def c0Ok : Value → Bool
  | .agg ⟨l⟩ => l.all s0Ok
  | v => s0Ok v
theorem SR.s0 {g : List (Option GB)} {v w : Value} (h : SR g v w) (ho : s0Ok v = true) : SR0 g v w := by
  cases h with
  | top => cases ho
  | bool => exact .bool _
  | int => exact .int _ _
  | str => exact .str _
  | ptr0 => exact .ptr0
  | ptr j off gb hg => exact .ptr j off gb hg
  | slice0 => exact .slice0
  | slice j off len cap gb hg => exact .slice j off len cap gb hg
  | nilFunc => cases ho
  | nilIface => cases ho
  | func => exact .func _
  | nilS j off a hj => exact .nilS j off a hj
  | clo fn hf hc =>
    rename_i f c f' c'
    match f, c, ho with
    | [], [], _ =>
      cases hf; cases hc
      exact .func _
theorem F2.s0 {g : List (Option GB)} {l l' : List Value} (h : F2 (SR g) l l') (ho : l.all s0Ok = true) : F2 (SR0 g) l l' := by
  induction h with
  | nil => exact .nil
  | cons hr _ ih =>
    simp only [List.all_cons, Bool.and_eq_true] at ho
    exact .cons (hr.s0 ho.1) (ih ho.2)
theorem VR.c0 {g : List (Option GB)} {v w : Value} (h : VR g v w) (ho : c0Ok v = true) : AR0 g v w := by
  cases h with
  | a h => cases h with
    | s h =>
      refine .s (h.s0 ?_)
      have := h.scalar.1
      cases v <;> first | exact ho | cases this
    | agg h => exact .agg (h.s0 ho)
  | tup => cases ho
  | top => cases ho
def evMake {R : Type} (X : Ops R) (fn : Fn) (first captured : List Value) (m : Mem) (k : Value → Mem → R) : R :=
  match fn with
  | .func f => if first.all c0Ok && captured.all c0Ok then k (.func (.func f) ⟨first⟩ ⟨captured⟩) m else X.fl
  | _ => X.fl
def evBuiltin {R : Type} (X : Ops R) (T : Tab P) (b : Builtin) (ts : List TypeId) (xs : List Operand) (ρ : Operand → Value) (m : Mem) (k : Value → Mem → R) : R :=
  match b with
  | .len =>
    match ts, xs with
    | [t], [x] =>
      match lenA (T.und t) (ρ x) with
      | some v => k v m
      | none => X.fl
    | _, _ => X.fl
  | .append =>
    match ts, xs with
    | [ts, tx], [s, x] => evAppend X T ts tx (ρ s) (ρ x) m k
    | _, _ => X.fl
  | .min =>
    match xs with
    | [x, y] =>
      match ρ x, ρ y with
      | .int ka p, .int _ q => k (.int ka (if q < p then q else p)) m
      | _, _ => X.fl
    | _ => X.fl
  | .max =>
    match xs with
    | [x, y] =>
      match ρ x, ρ y with
      | .int ka p, .int _ q => k (.int ka (if q > p then q else p)) m
      | _, _ => X.fl
    | _ => X.fl
  | _ => X.fl
def evConv {R : Type} (X : Ops R) (T : Tab P) (s d : TypeId) (x : Value) (m : Mem) (k : Value → Mem → R) : R :=
  match x with
  | .slice (some ⟨j, off, none⟩) n _ =>
    match T.und s, T.und d with
    | some (.slice e), some .string =>
      match T.und e, m[j]? with
      | some (.int .u8), some (some b) => X.nd (decide (off + n ≤ b.cells.length) && ((b.cells.drop off).take n).all isByte) (k (S (((b.cells.drop off).take n).map byteOf)) m)
      | _, _ => X.fl
    | _, _ => X.fl
  | .slice none _ _ =>
    match T.und s, T.und d with
    | some (.slice e), some .string =>
      match T.und e with
      | some (.int .u8) => k (S []) m
      | _ => X.fl
    | _, _ => X.fl
  | x => evOpt X (aConv (T.und s) (T.und d) x) m k
def evCall {R : Type} (X : Ops R) (T : Tab P) (c : Call) (ρ : Operand → Value) (m : Mem) (k : Value → Mem → R) : R :=
  match c.callee with
  | .value f =>
    match ρ f with
    | .func (.func n) ⟨fs⟩ ⟨cs⟩ => if T.fn n then X.call n (fs ++ c.args.toList.map ρ ++ cs) m k else X.fl
    | _ => X.fl
  | .builtin b => evBuiltin X T b c.argTypes.toList c.args.toList ρ m k
  | _ => X.fl
def evOp {R : Type} (X : Ops R) (T : Tab P) (o : Op) (ρ : Operand → Value) (m : Mem) (k : Value → Mem → R) : R :=
  match o with
  | .move x => k (ρ x) m
  | .assign x => k (ρ x) m
  | .pick c a b => evPick X (ρ c) (ρ a) (ρ b) m k
  | .alloc e => evAlloc X T e m k
  | .box e x => if cellsOk (ρ x) then k (.pointer (some ⟨m.length, 0, none⟩)) (m ++ [newBlk e (ρ x).cells.toList]) else X.fl
  | .build t parts => evOpt X (buildA T t (pairs ρ parts.toList)) m k
  | .buildSlice t len parts => evBuildSlice X (buildSliceA T t len (pairs ρ parts.toList)) len m k
  | .load t a => evLoad X T t (ρ a) m fun v => k v m
  | .store t a x => evStore X T t (ρ a) (ρ x) m fun m' => k undef m'
  | .nilCheck x => evNil X (ρ x) m k
  | .binOp op t x y _ => evCond X (aBinT T op t (ρ x) (ρ y)) m k
  | .unOp op _ x => evOpt X (aUn op (ρ x)) m k
  | .convert s d x => evConv X T s d (ρ x) m k
  | .slice t x lo hi none => evSlice X T t (ρ x) (lo.map ρ) (hi.map ρ) m fun v => k v m
  | .fieldAddr t x f => evOpt X (fieldAddrA T t (ρ x) f) m k
  | .field t x f => evOpt X (fieldA T t (ρ x) f) m k
  | .indexAddr t x i => evCond X (indexAddrA T t (ρ x) (ρ i)) m k
  | .index t x i => evCond X (indexA T t (ρ x) (ρ i)) m k
  | .extract x i => evExtract X (ρ x) i m k
  | .makeFunc fn first captured => evMake X fn (first.toList.map ρ) (captured.toList.map ρ) m k
  | .makeSlice t l c => evMakeSlice X T t (ρ l) (ρ c) m k
  | .call c => evCall X T c ρ m k
  | _ => X.fl
theorem F2_pairs {g : List (Option GB)} {ρ ρ' : Operand → Value} (h : ∀ x, VR g (ρ x) (ρ' x)) : ∀ ps : List (Nat × Operand), F2 (fun p q => p.1 = q.1 ∧ VR g p.2 q.2) (pairs ρ ps) (pairs ρ' ps)
  | [] => .nil
  | p :: ps => .cons ⟨rfl, h p.2⟩ (F2_pairs h ps)
theorem F2_args {g : List (Option GB)} {ρ ρ' : Operand → Value} (h : ∀ x, VR g (ρ x) (ρ' x)) : ∀ xs : List Operand, F2 (VR g) (xs.map ρ) (xs.map ρ')
  | [] => .nil
  | x :: xs => .cons (h x) (F2_args h xs)
theorem arr_pairs (ρ : Operand → Value) (ps : Array (Nat × Operand)) : (ps.map fun (i, x) => (i, ρ x)) = ⟨pairs ρ ps.toList⟩ := by
  apply Array.ext'
  simp [pairs]
theorem arr_args (ρ : Operand → Value) (xs : Array Operand) : xs.map ρ = ⟨xs.toList.map ρ⟩ := by
  apply Array.ext'
  simp
theorem arr_of_toList {α : Type} {xs : Array α} {l : List α} (h : xs.toList = l) : xs = ⟨l⟩ := by
  apply Array.ext'
  simpa using h
theorem OpDone.same {c : Ctx} {g₀ g : List (Option GB)} {N : Value → Mem → Prop} {m : Mem} {W : World} {r : Result Next} {v w : Value} (hr : Rel P c (g₀ ++ g) m W) (e : r = .ok (.value w) W) (hv : VR (g₀ ++ g) v w) (hn : N v m) : OpDone P c g₀ g N r := by
  subst e
  exact ⟨v, m, [], hn, by simpa using hr, by simpa using hv⟩
theorem OpDone.made {c : Ctx} {g₀ g : List (Option GB)} {N : Value → Mem → Prop} {m : Mem} {W : World} {r : Result Next} (hr : Rel P c (g₀ ++ g) m W) {v w : Value} {xs ys : List Value} {e : TypeId} (hf : F2 (SR (g₀ ++ g)) xs ys)
    (he : r = .ok (.value w) (W.alloc (.cells ⟨ys⟩ e))) (hv : ∀ g' : List (Option GB), g'[m.length]? = some (some ⟨W.heap.size, 0, 0⟩) → VR g' v w) (hn : N v (m ++ [newBlk e xs])) : OpDone P c g₀ g N r := by
  subst he
  refine ⟨v, _, [some ⟨W.heap.size, 0, 0⟩], hn, by rw [← List.append_assoc]; exact hr.newRow hf e, hv _ (by rw [← List.append_assoc]; exact last_app hr.len)⟩
theorem execOp_val {ρ : Operand → Value} {o : Oper} {s : Sem Value} {w : Value} {W W' : World} (he : execOp ρ o = (do pure (.value (← s)) : Sem Next)) (hs : s.run P W = .ok w W') : (execOp ρ o).run P W = .ok (.value w) W' := by
  rw [he]; simp [hs]
theorem bytes_cells {g : List (Option GB)} : ∀ {xs ys : List Value}, F2 (SR g) xs ys → xs.all isByte = true → ys = xs
  | [], [], _, _ => rfl
  | x :: xs, y :: ys, .cons hr hf, h => by
    simp only [List.all_cons, Bool.and_eq_true] at h
    rw [bytes_cells hf h.2]
    congr 1
    cases x <;> first | (cases h.1; done) | (cases hr; rfl)
theorem bytes_of : ∀ {xs : List Value}, xs.all isByte = true → ∃ ns : List Int, xs = ns.map fun n => .int .u8 n
  | [], _ => ⟨[], rfl⟩
  | x :: xs, h => by
    simp only [List.all_cons, Bool.and_eq_true] at h
    obtain ⟨ns, rfl⟩ := bytes_of h.2
    cases x with
    | int k n => cases k <;> first | exact ⟨n :: ns, rfl⟩ | cases h.1
    | _ => cases h.1
theorem foldl_push : ∀ (ns : List Int) (s : ByteArray), ns.foldl (fun r n => r.push (UInt8.ofNat n.toNat)) s = ⟨⟨bl s ++ ns.map fun n => UInt8.ofNat n.toNat⟩⟩
  | [], s => by simp
  | n :: ns, s => by
    rw [List.foldl_cons, foldl_push ns]
    have : bl (s.push (UInt8.ofNat n.toNat)) = bl s ++ [UInt8.ofNat n.toNat] := by
      show (s.data.push _).toList = _
      simp
    rw [this]
    simp
theorem evConv_ok {n₀ : Nat} {R : Type} {X : Ans P n₀ R} {T : Tab P} {s d : TypeId} {x x' : Value} {m : Mem} {k : Value → Mem → R} (h : X.holds (evConv X T s d x m k)) {c : Ctx} {g : List (Option GB)} {W : World} (hr : Rel P c g m W) (hx : VR g x x') :
    ∃ v w, (convert s d x').run P W = .ok w W ∧ VR g v w ∧ X.holds (k v m) := by
  unfold evConv at h
  split at h
  · rename_i j off n cap
    split at h
    case h_2 => exact absurd h X.fl_ok
    rename_i e hs hd
    split at h
    case h_2 => exact absurd h X.fl_ok
    rename_i b he hj
    obtain ⟨hc, h⟩ := X.nd_ok _ _ h
    rw [Bool.and_eq_true] at hc
    cases hx with
    | a hx => cases hx with
      | s hx => cases hx with
        | slice _ _ _ _ gb hg =>
          obtain ⟨ys, hys, hf⟩ := hr.loadCells hj hg (of_decide_eq_true hc.1)
          have hyx := bytes_cells hf hc.2
          obtain ⟨ns, hns⟩ := bytes_of hc.2
          refine ⟨_, S (((b.cells.drop off).take n).map byteOf), ?_, .s (.str _), h⟩
          rw [run_convert_bytes_string W s d e _ n _ (T.und_ok _ _ hs) (T.und_ok _ _ he) (T.und_ok _ _ hd)]
          rw [hyx, hns] at hys
          have := run_bytesToString (P := P) W ⟨gb.b, gb.base + off, none⟩ n (cap + gb.extra) ns hys
          rw [this, hns, foldl_push]
          simp only [bl, List.map_map]
          rfl
        | nilS _ _ a _ =>
          refine ⟨_, S [], ?_, .s (.str _), by simpa using h⟩
          rw [run_convert_bytes_string W s d e _ _ _ (T.und_ok _ _ hs) (T.und_ok _ _ he) (T.und_ok _ _ hd)]
          cases a with
          | none => rfl
          | some a => exact run_bytesToString (P := P) W a 0 0 [] rfl
  · rename_i n cap
    split at h
    case h_2 => exact absurd h X.fl_ok
    rename_i e hs hd
    split at h
    case h_2 => exact absurd h X.fl_ok
    rename_i he
    cases hx with
    | a hx => cases hx with
      | s hx => cases hx with
        | slice0 =>
          refine ⟨_, S [], ?_, .s (.str _), h⟩
          rw [run_convert_bytes_string W s d e _ _ _ (T.und_ok _ _ hs) (T.und_ok _ _ he) (T.und_ok _ _ hd)]
          rfl
  · simp only [evOpt] at h
    split at h
    case h_2 => exact absurd h X.fl_ok
    rename_i v hb
    have := aConv_ok hb hx W
    exact ⟨v, v, this.1, this.2, h⟩
theorem evOp_ok {n₀ : Nat} {R : Type} {X : Ans P n₀ R} {T : Tab P} {o : Oper} {ρ ρ' : Operand → Value} {m : Mem} {k : Value → Mem → R} (h : X.holds (evOp X T o.op ρ m k)) {c : Ctx} {g₀ g : List (Option GB)} {W : World} (hr : Rel P c (g₀ ++ g) m W)
    (hv : ∀ x, VR (g₀ ++ g) (ρ x) (ρ' x)) : OpDone P c g₀ g (fun v m' => X.holds (k v m')) ((execOp ρ' o).run P W) := by
  obtain ⟨dst, op, type, pos, after, guard⟩ := o
  cases op with
  | move x => exact .same hr rfl (hv x) h
  | assign x => exact .same hr rfl (hv x) h
  | pick cd a b =>
    simp only [evOp, evPick, evAlloc, evOpt, evCond, evBuildSlice, evNil, evExtract, evBuiltin, evCall] at h
    split at h
    case h_2 => exact absurd h X.fl_ok
    rename_i t ht
    have hc := hv cd
    rw [ht] at hc
    have hc := SR.inv_bool hc
    have e : (execOp ρ' ⟨dst, .pick cd a b, type, pos, after, guard⟩).run P W = .ok (.value (if t then ρ' a else ρ' b)) W := by
      simp only [execOp, hc, asBool]
      cases t <;> rfl
    have ha := hv a
    have hb := hv b
    split at h
    · rename_i p q hp hq
      rw [hp] at ha; rw [hq] at hb
      exact .same hr (by rw [e, SR.inv_bool ha, SR.inv_bool hb]) (v := .bool (cond t p q)) (by cases t <;> exact .s (.bool _)) h
    · rename_i ka p kb q hp hq
      rw [hp] at ha; rw [hq] at hb
      split at h
      case isFalse => exact absurd h X.fl_ok
      rename_i hk; subst hk
      exact .same hr (by rw [e, SR.inv_int ha, SR.inv_int hb]) (v := .int ka (cond t p q)) (by cases t <;> exact .s (.int _ _)) h
    · rename_i p q hp hq
      rw [hp] at ha; rw [hq] at hb
      exact .same hr (by rw [e, SR.inv_str ha, SR.inv_str hb]) (v := .string (cond t p q)) (by cases t <;> exact .s (.str _)) h
    · obtain ⟨h1, h2⟩ := X.br_ok _ _ _ h
      cases t with
      | true => exact .same hr (by rw [e]; rfl) ha (h1 rfl)
      | false => exact .same hr (by rw [e]; rfl) hb (h2 rfl)
  | alloc e =>
    simp only [evOp, evPick, evAlloc, evOpt, evCond, evBuildSlice, evNil, evExtract, evBuiltin, evCall] at h
    split at h
    case h_2 => exact absurd h X.fl_ok
    rename_i te hte
    split at h
    case h_2 => exact absurd h X.fl_ok
    rename_i z hz
    split at h
    case isFalse => exact absurd h X.fl_ok
    rename_i hp
    rw [Bool.and_eq_true] at hp
    refine .made hr ((VR.plain (g₀ ++ g) hp.1).cells hp.2) (w := .pointer (some ⟨W.heap.size, 0, none⟩)) ?_ (fun g' hg' => .s (.ptr _ _ _ hg')) h
    refine execOp_val rfl ?_
    simp only [Instr.alloc, Sem.run_bind, T.run_zero hte hz, Result.andThen_ok]
    rfl
  | box e x =>
    simp only [evOp, evPick, evAlloc, evOpt, evCond, evBuildSlice, evNil, evExtract, evBuiltin, evCall] at h
    split at h
    case isFalse => exact absurd h X.fl_ok
    rename_i hp
    refine .made hr ((hv x).cells hp) (w := .pointer (some ⟨W.heap.size, 0, none⟩)) ?_ (fun g' hg' => .s (.ptr _ _ _ hg')) h
    exact execOp_val rfl rfl
  | build t parts =>
    simp only [evOp, evPick, evAlloc, evOpt, evCond, evBuildSlice, evNil, evExtract, evBuiltin, evCall] at h
    split at h
    case h_2 => exact absurd h X.fl_ok
    rename_i v hb
    obtain ⟨w, hw, hvw⟩ := buildA_ok hb (F2_pairs hv _) W
    exact .same hr (execOp_val rfl (by rw [arr_pairs]; exact hw)) hvw h
  | buildSlice t len parts =>
    simp only [evOp, evPick, evAlloc, evOpt, evCond, evBuildSlice, evNil, evExtract, evBuiltin, evCall] at h
    split at h
    case h_2 => exact absurd h X.fl_ok
    rename_i e cs hb
    obtain ⟨ds, hd, hf⟩ := buildSliceA_ok hb (F2_pairs hv _) W
    refine .made hr hf (execOp_val rfl (by rw [arr_pairs]; exact hd)) (fun g' hg' => .s ?_) h
    exact SR.slice _ _ _ _ _ hg'
  | makeSlice t l c =>
    have h : X.holds (evMakeSlice X.toOps T t (ρ l) (ρ c) m k) := h
    unfold evMakeSlice at h
    split at h
    case h_2 => exact absurd h X.fl_ok
    rename_i n hn
    unfold evBuildSlice at h
    split at h
    case h_2 => exact absurd h X.fl_ok
    rename_i e cs hb
    have h1 := hv l
    have h2 := hv c
    have hl : ρ' l = ρ l ∧ ρ' c = ρ c := by
      unfold makeLen at hn
      split at hn
      case h_2 => cases hn
      rename_i hd1 hd2 hd3
      rw [hd2] at h1
      rw [hd3] at h2
      rw [hd2, hd3]
      exact ⟨SR.inv_int h1, SR.inv_int h2⟩
    obtain ⟨hd, hf⟩ := makeLen_ok hn hb W
    refine .made hr (hf _) (execOp_val rfl (by rw [hl.1, hl.2]; exact hd)) (fun g' hg' => .s ?_) h
    exact SR.slice _ _ _ _ _ hg'
  | load t a =>
    simp only [evOp, evPick, evAlloc, evOpt, evCond, evBuildSlice, evNil, evExtract, evBuiltin, evCall] at h
    obtain ⟨v, w, hw, hvw, hk⟩ := evLoad_ok h hr (hv a)
    exact .same hr (execOp_val rfl hw) hvw hk
  | store t a x =>
    simp only [evOp, evPick, evAlloc, evOpt, evCond, evBuildSlice, evNil, evExtract, evBuiltin, evCall] at h
    obtain ⟨W', m', hw, hr', hk⟩ := evStore_ok h hr (hv a) (hv x)
    have e : (execOp ρ' ⟨dst, .store t a x, type, pos, after, guard⟩).run P W = .ok .skip W' := by
      simp only [execOp, Sem.run_bind, hw, Result.andThen_ok, Sem.run_pure]
    rw [e]
    exact ⟨m', [], hk, by simpa using hr'⟩
  | nilCheck x =>
    simp only [evOp, evPick, evAlloc, evOpt, evCond, evBuildSlice, evNil, evExtract, evBuiltin, evCall] at h
    split at h
    case h_2 => exact absurd h X.fl_ok
    rename_i a ha
    have hx := hv x
    rw [ha] at hx
    have hx' := hx
    generalize hw : ρ' x = w at hx hx'
    cases hx with
    | a hx => cases hx with
      | s hx => cases hx with
        | ptr j off gb hg =>
          refine .same hr ?_ hx' h
          simp only [execOp, hw]; rfl
  | binOp op t x y ty =>
    simp only [evOp, evPick, evAlloc, evOpt, evCond, evBuildSlice, evNil, evExtract, evBuiltin, evCall] at h
    split at h
    case h_2 => exact absurd h X.fl_ok
    rename_i cs v hb
    obtain ⟨hc, hk⟩ := foldr_nd _ _ h
    have := aBinT_ok hb hc (hv x) (hv y) x y W
    exact .same hr (execOp_val rfl this.1) this.2 hk
  | unOp op t x =>
    simp only [evOp, evPick, evAlloc, evOpt, evCond, evBuildSlice, evNil, evExtract, evBuiltin, evCall] at h
    split at h
    case h_2 => exact absurd h X.fl_ok
    rename_i v hb
    have := aUn_ok (P := P) hb (hv x) W
    exact .same hr (execOp_val rfl this.1) this.2 h
  | convert s d x =>
    simp only [evOp] at h
    obtain ⟨v, w, hw, hvw, hk⟩ := evConv_ok h hr (hv x)
    exact .same hr (execOp_val rfl hw) hvw hk
  | slice t x lo hi mx =>
    cases mx with
    | some _ => exact absurd h X.fl_ok
    | none =>
      simp only [evOp, evPick, evAlloc, evOpt, evCond, evBuildSlice, evNil, evExtract, evBuiltin, evCall] at h
      obtain ⟨v, w, hw, hvw, hk⟩ := evSlice_ok (lo' := lo.map ρ') (hi' := hi.map ρ') h hr (hv x) (fun v e => by cases lo <;> simp at e ⊢; subst e; exact hv _) (fun e => by cases lo <;> simp at e ⊢) (fun v e => by cases hi <;> simp at e ⊢; subst e; exact hv _)
        (fun e => by cases hi <;> simp at e ⊢)
      exact .same hr (execOp_val rfl hw) hvw hk
  | fieldAddr t x f =>
    simp only [evOp, evPick, evAlloc, evOpt, evCond, evBuildSlice, evNil, evExtract, evBuiltin, evCall] at h
    split at h
    case h_2 => exact absurd h X.fl_ok
    rename_i v hb
    obtain ⟨w, hw, hvw⟩ := fieldAddrA_ok hb (hv x) W
    exact .same hr (execOp_val rfl hw) hvw h
  | field t x f =>
    simp only [evOp, evPick, evAlloc, evOpt, evCond, evBuildSlice, evNil, evExtract, evBuiltin, evCall] at h
    split at h
    case h_2 => exact absurd h X.fl_ok
    rename_i v hb
    obtain ⟨w, hw, hvw⟩ := fieldA_ok hb (hv x) W
    exact .same hr (execOp_val rfl hw) hvw h
  | indexAddr t x i =>
    simp only [evOp, evPick, evAlloc, evOpt, evCond, evBuildSlice, evNil, evExtract, evBuiltin, evCall] at h
    split at h
    case h_2 => exact absurd h X.fl_ok
    rename_i cs v hb
    obtain ⟨hc, hk⟩ := foldr_nd _ _ h
    obtain ⟨w, hw, hvw⟩ := indexAddrA_ok hb hc (hv x) (hv i) W
    exact .same hr (execOp_val rfl hw) hvw hk
  | index t x i =>
    simp only [evOp, evPick, evAlloc, evOpt, evCond, evBuildSlice, evNil, evExtract, evBuiltin, evCall] at h
    split at h
    case h_2 => exact absurd h X.fl_ok
    rename_i cs v hb
    obtain ⟨hc, hk⟩ := foldr_nd _ _ h
    obtain ⟨w, hw, hvw⟩ := indexA_ok hb hc (hv x) (hv i) W
    exact .same hr (execOp_val rfl hw) hvw hk
  | extract x i =>
    simp only [evOp, evPick, evAlloc, evOpt, evCond, evBuildSlice, evNil, evExtract, evBuiltin, evCall] at h
    split at h
    case h_2 => exact absurd h X.fl_ok
    rename_i vs hb
    obtain ⟨v, hvs, hk⟩ := X.ld_ok _ _ h
    have hx := hv x
    rw [hb] at hx
    generalize hw0 : ρ' x = w0 at hx
    cases hx with
    | a hx => cases hx with
      | s hx => cases hx
    | tup hx =>
      rename_i ys
      obtain ⟨w, hw, hvw⟩ := hx.get i v hvs
      refine .same hr (w := w) (execOp_val rfl ?_) (.a hvw) hk
      rw [hw0]
      have : (⟨ys⟩ : Array Value)[i]? = some w := by simpa using hw
      simp [Instr.extract, this]
  | makeFunc fn first captured =>
    simp only [evOp, evMake] at h
    split at h
    case h_2 => exact absurd h X.fl_ok
    rename_i f
    split at h
    case isFalse => exact absurd h X.fl_ok
    rename_i ho
    rw [Bool.and_eq_true] at ho
    have f0 : ∀ l : List Operand, (l.map ρ).all c0Ok = true → F2 (AR0 (g₀ ++ g)) (l.map ρ) (l.map ρ') := by
      intro l
      induction l with
      | nil => intro _; exact .nil
      | cons x l ih =>
        intro hl
        simp only [List.map_cons, List.all_cons, Bool.and_eq_true] at hl
        exact .cons ((hv x).c0 hl.1) (ih hl.2)
    refine .same hr (w := .func (.func f) ⟨first.toList.map ρ'⟩ ⟨captured.toList.map ρ'⟩) (execOp_val rfl ?_) (.s (.clo _ (f0 _ ho.1) (f0 _ ho.2))) h
    rw [arr_args ρ' first, arr_args ρ' captured]
    rfl
  | call cl =>
    obtain ⟨callee, args, argTypes⟩ := cl
    cases callee with
    | invoke _ _ => exact absurd h X.fl_ok
    | value f =>
      simp only [evOp, evPick, evAlloc, evOpt, evCond, evBuildSlice, evNil, evExtract, evBuiltin, evCall] at h
      split at h
      case h_2 => exact absurd h X.fl_ok
      rename_i n fs cs hf
      split at h
      case isFalse => exact absurd h X.fl_ok
      rename_i hfn
      have hc := X.call_ok _ _ _ _ h
      have hff := hv f
      rw [hf] at hff
      have hff' : ∃ fs' cs' : List Value, ρ' f = .func (.func n) ⟨fs'⟩ ⟨cs'⟩ ∧ F2 (VR (g₀ ++ g)) fs fs' ∧ F2 (VR (g₀ ++ g)) cs cs' := by
        generalize ρ' f = w at hff
        cases hff with
        | a h => cases h with
          | s h => cases h with
            | func => exact ⟨[], [], rfl, .nil, .nil⟩
            | clo _ h1 h2 => exact ⟨_, _, rfl, h1.imp fun _ _ h => .a h.ar, h2.imp fun _ _ h => .a h.ar⟩
      obtain ⟨fs', cs', hff', hfs, hcs⟩ := hff'
      obtain ⟨d, code, hd, hname, hbody⟩ := T.fn_ok n hfn
      have e : (execOp ρ' ⟨dst, .call ⟨.value f, args, argTypes⟩, type, pos, after, guard⟩).run P W = .ok (.enter n ⟨fs' ++ args.toList.map ρ' ++ cs'⟩) W := by
        have hb : d.body ≠ none := by rw [hbody]; simp
        have hname' : d.name ≠ "runtime.NumGoroutine" := by simpa using hname
        simp [execOp, resolve, hff', Deferred.ofValue, invoke, callFunc, program, Sem.run, bind, Sem.bind, pure, hd, hname', hb]
      rw [e]
      refine (hc c (g₀ ++ g) W _ hr ((hfs.append (F2_args hv _)).append hcs)).mono ?_
      rintro e' W' ⟨v, v', m', g', he, hk, hr', hvv⟩
      exact ⟨v, v', m', g', he, hk, by rw [← List.append_assoc]; exact hr', by rw [← List.append_assoc]; exact hvv⟩
    | builtin b =>
      cases b with
      | len =>
        simp only [evOp, evPick, evAlloc, evOpt, evCond, evBuildSlice, evNil, evExtract, evBuiltin, evCall] at h
        split at h
        case h_2 => exact absurd h X.fl_ok
        rename_i t x ht hx
        split at h
        case h_2 => exact absurd h X.fl_ok
        rename_i v hl
        obtain rfl := arr_of_toList ht
        obtain rfl := arr_of_toList hx
        have := lenA_ok (ts := ⟨[t]⟩) (ty := type) (xs := []) (by simp) hl (hv x) W
        refine .same hr ?_ this.2 h
        simp only [execOp, resolve]
        simp [invoke, builtin, this.1]
      | append =>
        simp only [evOp, evPick, evAlloc, evOpt, evCond, evBuildSlice, evNil, evExtract, evBuiltin, evCall] at h
        split at h
        case h_2 => exact absurd h X.fl_ok
        rename_i ts tx s x ht hx
        obtain rfl := arr_of_toList ht
        obtain rfl := arr_of_toList hx
        obtain ⟨v, w, m', W', g', hw, hr', hvw, hk⟩ := evAppend_ok (ty := type) h hr (hv s) (hv x)
        have e : (execOp ρ' ⟨dst, .call ⟨.builtin .append, ⟨[s, x]⟩, ⟨[ts, tx]⟩⟩, type, pos, after, guard⟩).run P W = .ok (.value w) W' := by
          simp only [execOp, resolve]
          simp [invoke, builtin, hw]
        rw [e]
        exact ⟨v, m', g', hk, hr', hvw⟩
      | min =>
        simp only [evOp, evPick, evAlloc, evOpt, evCond, evBuildSlice, evNil, evExtract, evBuiltin, evCall] at h
        split at h
        case h_2 => exact absurd h X.fl_ok
        rename_i x y hx
        split at h
        case h_2 => exact absurd h X.fl_ok
        rename_i ka p kb q hp hq
        obtain rfl := arr_of_toList hx
        have h1 := hv x; rw [hp] at h1; have h1 := SR.inv_int h1
        have h2 := hv y; rw [hq] at h2; have h2 := SR.inv_int h2
        refine .same hr (w := .int ka (if q < p then q else p)) ?_ (.s (.int _ _)) h
        simp only [execOp, resolve]
        simp [invoke, builtin, Builtin.min_, Builtin.min2, h1, h2]
      | max =>
        simp only [evOp, evPick, evAlloc, evOpt, evCond, evBuildSlice, evNil, evExtract, evBuiltin, evCall] at h
        split at h
        case h_2 => exact absurd h X.fl_ok
        rename_i x y hx
        split at h
        case h_2 => exact absurd h X.fl_ok
        rename_i ka p kb q hp hq
        obtain rfl := arr_of_toList hx
        have h1 := hv x; rw [hp] at h1; have h1 := SR.inv_int h1
        have h2 := hv y; rw [hq] at h2; have h2 := SR.inv_int h2
        refine .same hr (w := .int ka (if q > p then q else p)) ?_ (.s (.int _ _)) h
        simp only [execOp, resolve]
        simp [invoke, builtin, Builtin.max_, Builtin.max2, h1, h2]
      | _ => exact absurd h X.fl_ok
  | _ => exact absurd h X.fl_ok
end Go.AE
end
section
namespace Go.AE
variable {P : Program}
def putA (a : List Value) (dst : Option Tmp) (v : Value) : List Value :=
  match dst with
  | some d => a.set d v
  | none => a
def forceL {α R : Type} : List α → (List α → R) → R
  | [], k => k []
  | x :: xs, k => forceL xs fun ys => k (x :: ys)
theorem forceL_eq {α R : Type} : ∀ (l : List α) (k : List α → R), forceL l k = k l
  | [], _ => rfl
  | x :: xs, k => forceL_eq xs fun ys => k (x :: ys)
def forceV {R : Type} (v : Value) (k : Value → R) : R :=
  match v with
  | .bool b => k (.bool b)
  | .int i n => k (.int i n)
  | .string s => k (.string s)
  | .pointer none => k (.pointer none)
  | .pointer (some ⟨b, o, s⟩) => k (.pointer (some ⟨b, o, s⟩))
  | .slice none n c => k (.slice none n c)
  | .slice (some ⟨b, o, s⟩) n c => k (.slice (some ⟨b, o, s⟩) n c)
  | .agg ⟨l⟩ => forceL l fun l => k (.agg ⟨l⟩)
  | .tuple ⟨l⟩ => forceL l fun l => k (.tuple ⟨l⟩)
  | v => k v
theorem forceV_eq {R : Type} (v : Value) (k : Value → R) : forceV v k = k v := by
  unfold forceV
  split <;> first | rfl | exact forceL_eq _ _
def forceM {R : Type} : Mem → (Mem → R) → R
  | [], k => k []
  | none :: m, k => forceM m fun m' => k (none :: m')
  | some ⟨c, e, r, x, o⟩ :: m, k => forceM m fun m' => k (some ⟨c, e, r, x, o⟩ :: m')
theorem forceM_eq {R : Type} : ∀ (m : Mem) (k : Mem → R), forceM m k = k m
  | [], _ => rfl
  | none :: m, k => forceM_eq m fun m' => k (none :: m')
  | some ⟨_, _, _, _, _⟩ :: m, k => forceM_eq m fun m' => k (some _ :: m')
def laid {R : Type} (a : List Value) (dst : Option Tmp) (v : Value) (m : Mem) (k : List Value → Mem → R) : R :=
  forceV v fun v => k (putA a dst v) m
theorem laid_eq {R : Type} (a : List Value) (dst : Option Tmp) (v : Value) (m : Mem) (k : List Value → Mem → R) : laid a dst v m k = k (putA a dst v) m := by
  unfold laid
  rw [forceV_eq]
def evOps {R : Type} (X : Ops R) (T : Tab P) (all : List Oper) : List Oper → List Value → Mem → (List Value → Mem → R) → R
  | [], a, m, k => forceL a fun a => forceM m fun m => k a m
  | o :: rest, a, m, k =>
    match o.guard with
    | none => evOp X T o.op (aeval a) m fun v m' => laid a o.dst v m' fun a m => evOps X T all rest a m k
    | some (j, want) =>
      match ((all[j]?).bind (·.dst)).bind (a[·]?) with
      | some (.bool b) => X.br (b == want) (evOp X T o.op (aeval a) m fun v m' => laid a o.dst v m' fun a m => evOps X T all rest a m k) (laid a o.dst undef m fun a m => evOps X T all rest a m k)
      | some (.tuple _) => laid a o.dst undef m fun a m => evOps X T all rest a m k
      | _ => X.fl
theorem ARel.putA {g : List (Option GB)} {a : List Value} {A : Act} (h : ARel g a A) (dst : Option Tmp) {v w : Value} (hv : VR g v w) : ARel g (putA a dst v) (A.put dst w) := by
  cases dst with
  | none => exact h
  | some d => exact ⟨by simpa [Act.put, AE.putA] using h.tmps.set d hv, h.defers⟩
theorem OpDone.upon {c : Ctx} {g₀ g : List (Option GB)} {o : Oper} {a : List Value} {A : Act} {N : List Value → Mem → Prop} {next : Act → World → Prop} {Q : Exit → Act → World → Prop} {r : Result Next}
    (h : OpDone P c g₀ g (fun v m' => N (putA a o.dst v) m') r) (ha : ARel (g₀ ++ g) a A)
    (hn : ∀ a' m' g' A' W', N a' m' → Rel P c (g₀ ++ g') m' W' → ARel (g₀ ++ g') a' A' → next A' W') : o.upon P A next Q r := by
  unfold OpDone at h
  have app : ∀ g', ARel (g₀ ++ (g ++ g')) a A := fun g' => by rw [← List.append_assoc]; exact ha.app
  split at h
  · obtain ⟨v, m', g', hN, hr, hv⟩ := h
    exact hn _ _ _ _ _ hN hr ((app g').putA o.dst hv)
  · obtain ⟨m', g', hN, hr⟩ := h
    exact hn _ _ _ _ _ hN hr ((app g').putA o.dst (.undef _))
  · simp only [Oper.upon]
    refine h.mono ?_
    rintro e W'' ⟨v, w, m', g', rfl, hN, hr, hv⟩
    exact hn _ _ _ _ _ hN hr ((app g').putA o.dst hv)
  · exact h.elim
theorem evOps_head {n₀ : Nat} {R : Type} {X : Ans P n₀ R} {T : Tab P} {all : List Oper} {c : Ctx} {g₀ : List (Option GB)} {Q : Exit → Act → World → Prop} {o : Oper} {rest : List Oper} {a : List Value} {m : Mem} {k : List Value → Mem → R}
    (h : X.holds (evOps X T all (o :: rest) a m k)) {g : List (Option GB)} {A : Act} {W : World} (hr : Rel P c (g₀ ++ g) m W) (ha : ARel (g₀ ++ g) a A) {K : Act → World → Prop}
    (hK : ∀ a' m' g' A' W', X.holds (evOps X T all rest a' m' k) → Rel P c (g₀ ++ g') m' W' → ARel (g₀ ++ g') a' A' → K A' W') :
    if Region.wanted o (yielded all.toArray A.tmps) then o.wp P A W K Q else K (A.put o.dst undef) W := by
  have main : X.holds (evOp X T o.op (aeval a) m fun v m' => laid a o.dst v m' fun a m => evOps X T all rest a m k) → o.wp P A W K Q := by
    intro h
    simp only [laid_eq] at h
    have := evOp_ok (o := o) h hr (fun x => ha.eval x)
    exact OpDone.upon (N := fun a' m' => X.holds (evOps X T all rest a' m' k)) this ha hK
  unfold evOps at h
  split at h
  · rename_i hg
    rw [if_pos (by simp [Region.wanted, hg])]
    exact main h
  · rename_i j want hg
    split at h
    case h_3 => exact absurd h X.fl_ok
    case h_2 =>
      rename_i xs hb
      rw [laid_eq] at h
      have hy : yielded all.toArray A.tmps j = none := by
        unfold yielded
        cases ho : all[j]? with
        | none => rw [ho] at hb; simp at hb
        | some oj =>
          rw [ho] at hb
          simp only [Option.bind_some] at hb
          cases hd : oj.dst with
          | none => rw [hd] at hb; simp at hb
          | some d =>
            rw [hd] at hb
            simp only [Option.bind_some] at hb
            obtain ⟨w, hw, hvw⟩ := ha.tmps.get d _ hb
            have hw' : A.tmps[d]? = some w := by rw [← Array.getElem?_toList]; exact hw
            have ho' : all.toArray[j]? = some oj := by simpa using ho
            rw [ho']
            cases hvw with
            | a hvw => cases hvw with
              | s hvw => cases hvw
            | tup _ => simp [hd, hw']
      rw [if_neg (by simp [Region.wanted, hg, hy])]
      exact hK _ _ _ _ _ h hr (ha.putA o.dst (.undef _))
    rename_i b hb
    obtain ⟨h1, h2⟩ := X.br_ok _ _ _ h
    rw [laid_eq] at h2
    have hy : yielded all.toArray A.tmps j = some b := by
      unfold yielded
      cases ho : all[j]? with
      | none => rw [ho] at hb; simp at hb
      | some oj =>
        rw [ho] at hb
        simp only [Option.bind_some] at hb
        cases hd : oj.dst with
        | none => rw [hd] at hb; simp at hb
        | some d =>
          rw [hd] at hb
          simp only [Option.bind_some] at hb
          obtain ⟨w, hw, hvw⟩ := ha.tmps.get d _ hb
          obtain rfl := SR.inv_bool hvw
          have hw' : A.tmps[d]? = some (.bool b) := by rw [← Array.getElem?_toList]; exact hw
          have ho' : all.toArray[j]? = some oj := by simpa using ho
          rw [ho']
          simp [hd, hw']
    by_cases hbw : b = want
    · subst hbw
      rw [if_pos (by simp [Region.wanted, hg, hy])]
      exact main (h1 (by simp))
    · rw [if_neg (by simp [Region.wanted, hg, hy, hbw])]
      exact hK _ _ _ _ _ (h2 (by simpa using hbw)) hr (ha.putA o.dst (.undef _))
theorem evOps_ok {n₀ : Nat} {R : Type} {X : Ans P n₀ R} {T : Tab P} {all : List Oper} {c : Ctx} {g₀ : List (Option GB)} {K : Exit → List Value → Mem → Prop} : ∀ (l : List Oper) (a : List Value) (m : Mem) (k : List Value → Mem → R),
    X.holds (evOps X T all l a m k) → (∀ a m, X.holds (k a m) → K .normal a m) → ∀ (g : List (Option GB)) (A : Act) (W : World), Rel P c (g₀ ++ g) m W → ARel (g₀ ++ g) a A → wpList P all.toArray (Post P c g₀ K) l A W
  | [], a, m, _, h, hk, g, _, _, hr, ha => by
    simp only [evOps, forceL_eq, forceM_eq] at h
    exact ⟨a, m, g, hk _ _ h, hr, ha⟩
  | _ :: rest, _, _, k, h, hk, _, _, _, hr, ha =>
    wpList_step fun _ hK' => evOps_head h hr ha fun a' m' g' A' W' hN hr' ha' => hK' _ _ (evOps_ok rest a' m' k hN hk g' A' W' hr' ha')
def propA (P : Program) (n₀ : Nat) : Ans P n₀ Prop where
  holds p := p
  br c t e := (c = true → t) ∧ (c = false → e)
  nd c r := c = true ∧ r
  fl := False
  ld o k := ∃ v, o = some v ∧ k v
  call f as m k := ACall P f as m k
  code x a m k := AWp P n₀ x k a m
  pcall f as m k := ∃ v nb, ACall P f as m (fun v' m' => v' = v ∧ m' = m ++ nb.toList.map some) ∧ k v nb
  br_ok _ _ _ h := h
  nd_ok _ _ h := h
  fl_ok h := h
  ld_ok _ _ h := h
  call_ok _ _ _ _ h := h
  code_ok _ _ _ _ h := h
  pcall_ok f as m k h := by
    obtain ⟨v, nb, hc, hk⟩ := h
    exact ⟨v, nb, hc.mono fun v' m' ⟨h1, h2⟩ => ⟨h1, by rw [h2]; simp, by rw [h2]; simp⟩, hk⟩
end Go.AE
end
section
namespace Go.AE
def RenOk (ρ : Nat → Nat) (g g' : List (Option GB)) : Prop := (∀ (i : Nat) (gb : GB), g[i]? = some (some gb) → g'[ρ i]? = some (some gb)) ∧ ∀ i, i < g.length → ρ i < g'.length
def BackOk (n : Nat) (ρ : Nat → Nat) (g g' : List (Option GB)) : Prop := (∀ (i : Nat) (gb : GB), i < n → g[ρ i]? = some (some gb) → g'[i]? = some (some gb)) ∧ n ≤ g'.length
variable {P : Program}
def ren00 (ρ : Nat → Nat) : Value → Value
  | .pointer (some ⟨j, o, s⟩) => .pointer (some ⟨ρ j, o, s⟩)
  | .slice (some ⟨j, o, s⟩) n c => .slice (some ⟨ρ j, o, s⟩) n c
  | v => v
def ren01 (ρ : Nat → Nat) : Value → Value
  | .agg ⟨l⟩ => .agg ⟨l.map (ren00 ρ)⟩
  | v => ren00 ρ v
def renS (ρ : Nat → Nat) : Value → Value
  | .pointer (some ⟨j, o, s⟩) => .pointer (some ⟨ρ j, o, s⟩)
  | .slice (some ⟨j, o, s⟩) n c => .slice (some ⟨ρ j, o, s⟩) n c
  | .func fn ⟨f⟩ ⟨c⟩ => .func fn ⟨f.map (ren01 ρ)⟩ ⟨c.map (ren01 ρ)⟩
  | v => v
def ren1 (ρ : Nat → Nat) : Value → Value
  | .agg ⟨l⟩ => .agg ⟨l.map (renS ρ)⟩
  | v => renS ρ v
def ren (ρ : Nat → Nat) : Value → Value
  | .tuple ⟨l⟩ => .tuple ⟨l.map (ren1 ρ)⟩
  | v => ren1 ρ v
theorem SR0.ren {g g' : List (Option GB)} {ρ : Nat → Nat} (h : RenOk ρ g g') {v w : Value} (hv : SR0 g v w) : SR0 g' (ren00 ρ v) w := by
  cases hv with
  | ptr j off gb hg => exact .ptr _ off gb (h.1 j gb hg)
  | slice j off len cap gb hg => exact .slice _ off len cap gb (h.1 j gb hg)
  | bool => exact .bool _
  | int => exact .int _ _
  | str => exact .str _
  | ptr0 => exact .ptr0
  | slice0 => exact .slice0
  | func => exact .func _
  | nilS j off _ hj => exact .nilS _ _ _ (h.2 j hj)
theorem SR0.scalarL {g : List (Option GB)} {v w : Value} (h : SR0 g v w) : scalarV v = true := by cases h <;> rfl
theorem ren01_scalar {ρ : Nat → Nat} {v : Value} (h : scalarV v = true) : ren01 ρ v = ren00 ρ v := by
  cases v <;> first | rfl | cases h
theorem AR0.ren {g g' : List (Option GB)} {ρ : Nat → Nat} (h : RenOk ρ g g') {v w : Value} (hv : AR0 g v w) : AR0 g' (ren01 ρ v) w := by
  cases hv with
  | s hs => rw [ren01_scalar hs.scalarL]; exact .s (hs.ren h)
  | agg hf => exact .agg (by
      have := hf.map (S := SR0 g') (f := ren00 ρ) (f' := id) fun _ _ h' => h'.ren h
      simpa using this)
theorem F2.ren0 {g g' : List (Option GB)} {ρ : Nat → Nat} (h : RenOk ρ g g') {l l' : List Value} (hf : F2 (AR0 g) l l') : F2 (AR0 g') (l.map (ren01 ρ)) l' := by
  have := hf.map (S := AR0 g') (f := ren01 ρ) (f' := id) fun _ _ h' => h'.ren h
  simpa using this
theorem SR.ren {g g' : List (Option GB)} {ρ : Nat → Nat} (h : RenOk ρ g g') {v w : Value} (hv : SR g v w) : SR g' (renS ρ v) w := by
  cases hv with
  | top _ h => exact .top _ h
  | ptr j off gb hg => exact .ptr _ off gb (h.1 j gb hg)
  | slice j off len cap gb hg => exact .slice _ off len cap gb (h.1 j gb hg)
  | bool => exact .bool _
  | int => exact .int _ _
  | str => exact .str _
  | ptr0 => exact .ptr0
  | slice0 => exact .slice0
  | nilFunc => exact .nilFunc
  | nilIface => exact .nilIface
  | func => exact .func _
  | nilS j off _ hj => exact .nilS _ _ _ (h.2 j hj)
  | clo fn hf hc => exact .clo fn (hf.ren0 h) (hc.ren0 h)
theorem ren1_scalar {ρ : Nat → Nat} {v : Value} (h : scalarV v = true) : ren1 ρ v = renS ρ v := by
  cases v <;> first | rfl | cases h
theorem AR.ren {g g' : List (Option GB)} {ρ : Nat → Nat} (h : RenOk ρ g g') {v w : Value} (hv : AR g v w) : AR g' (ren1 ρ v) w := by
  cases hv with
  | s hs => rw [ren1_scalar hs.scalar.1]; exact .s (hs.ren h)
  | agg hf => exact .agg (by
      have := hf.map (S := SR g') (f := renS ρ) (f' := id) fun _ _ h' => h'.ren h
      simpa using this)
theorem ren_scalar {ρ : Nat → Nat} {v : Value} (h : scalarV v = true) : ren ρ v = renS ρ v := by
  cases v <;> first | rfl | cases h
theorem VR.ren {g g' : List (Option GB)} {ρ : Nat → Nat} (h : RenOk ρ g g') {v w : Value} (hv : VR g v w) : VR g' (AE.ren ρ v) w := by
  cases hv with
  | a ha =>
    have : AE.ren ρ v = ren1 ρ v := by
      cases ha with
      | s hs => rw [ren_scalar hs.scalar.1, ren1_scalar hs.scalar.1]
      | agg _ => rfl
    rw [this]
    exact .a (ha.ren h)
  | tup hf => exact .tup (by
      have := hf.map (S := AR g') (f := ren1 ρ) (f' := id) fun _ _ h' => h'.ren h
      simpa using this)
  | top => exact .top _
def low00 (n : Nat) : Value → Bool
  | .pointer (some ⟨j, _, _⟩) => decide (j < n)
  | .slice (some ⟨j, _, _⟩) _ _ => decide (j < n)
  | _ => true
def low01 (n : Nat) : Value → Bool
  | .agg ⟨l⟩ => l.all (low00 n)
  | v => low00 n v
def lowS (n : Nat) : Value → Bool
  | .pointer (some ⟨j, _, _⟩) => decide (j < n)
  | .slice (some ⟨j, _, _⟩) _ _ => decide (j < n)
  | .func _ ⟨f⟩ ⟨c⟩ => f.all (low01 n) && c.all (low01 n)
  | _ => true
def low1 (n : Nat) : Value → Bool
  | .agg ⟨l⟩ => l.all (lowS n)
  | v => lowS n v
def low (n : Nat) : Value → Bool
  | .tuple ⟨l⟩ => l.all (low1 n)
  | v => low1 n v
theorem F2.back {R : Value → Value → Prop} {S : Value → Value → Prop} {f : Value → Value} {p : Value → Bool} (h : ∀ v w, p v = true → R (f v) w → S v w) : ∀ {l : List Value} {l' : List Value}, l.all p = true → F2 R (l.map f) l' → F2 S l l'
  | [], [], _, _ => .nil
  | v :: l, w :: l', hp, .cons hr hf => by
    simp only [List.all_cons, Bool.and_eq_true] at hp
    exact .cons (h v w hp.1 hr) (F2.back h hp.2 hf)
theorem SR0.back {g g' : List (Option GB)} {ρ : Nat → Nat} {n : Nat} (h : BackOk n ρ g g') : ∀ {v w : Value}, low00 n v = true → SR0 g (ren00 ρ v) w → SR0 g' v w := by
  intro v w hl hv
  unfold ren00 at hv
  split at hv
  · cases hv with
    | ptr _ _ gb hg => exact .ptr _ _ gb (h.1 _ gb (by simpa [low00] using hl) hg)
  · cases hv with
    | slice _ _ _ _ gb hg => exact .slice _ _ _ _ gb (h.1 _ gb (by simpa [low00] using hl) hg)
    | nilS => exact .nilS _ _ _ (by have := h.2; simp only [low00, decide_eq_true_eq] at hl; omega)
  · rename_i h1 h2
    cases hv with
    | ptr j off gb hg => exact absurd rfl (h1 j off none)
    | slice j off len cap gb hg => exact absurd rfl (h2 j off none len cap)
    | bool => exact .bool _
    | int => exact .int _ _
    | str => exact .str _
    | ptr0 => exact .ptr0
    | slice0 => exact .slice0
    | func => exact .func _
    | nilS j off _ _ => exact absurd rfl (h2 j off none 0 0)
theorem AR0.back {g g' : List (Option GB)} {ρ : Nat → Nat} {n : Nat} (h : BackOk n ρ g g') {v w : Value} (hl : low01 n v = true) (hv : AR0 g (ren01 ρ v) w) : AR0 g' v w := by
  unfold ren01 at hv
  split at hv
  · rename_i l
    cases hv with
    | s hs => cases hs
    | agg hf => exact .agg (F2.back (p := low00 n) (fun v w hp hr => SR0.back h hp hr) hl hf)
  · rename_i hne
    have hl' : low00 n v = true := by
      unfold low01 at hl
      split at hl
      · exact absurd rfl (hne _)
      · exact hl
    generalize he : ren00 ρ v = u at hv
    cases hv with
    | s hs => exact .s (SR0.back h hl' (by rw [he]; exact hs))
    | agg hf =>
      exfalso
      unfold ren00 at he
      split at he
      · cases he
      · cases he
      · exact hne _ he
theorem SR.back {g g' : List (Option GB)} {ρ : Nat → Nat} {n : Nat} (h : BackOk n ρ g g') : ∀ {v w : Value}, lowS n v = true → SR g (renS ρ v) w → SR g' v w := by
  intro v w hl hv
  unfold renS at hv
  split at hv
  · cases hv with
    | ptr _ _ gb hg => exact .ptr _ _ gb (h.1 _ gb (by simpa [lowS] using hl) hg)
  · cases hv with
    | slice _ _ _ _ gb hg => exact .slice _ _ _ _ gb (h.1 _ gb (by simpa [lowS] using hl) hg)
    | nilS => exact .nilS _ _ _ (by have := h.2; simp only [lowS, decide_eq_true_eq] at hl; omega)
  · rename_i fn f c
    simp only [lowS, Bool.and_eq_true] at hl
    generalize hf : f.map (ren01 ρ) = f1 at hv
    generalize hc : c.map (ren01 ρ) = c1 at hv
    cases hv with
    | func =>
      rw [List.map_eq_nil_iff] at hf hc
      subst hf hc
      exact .func _
    | clo _ h1 h2 =>
      subst hf hc
      exact .clo _ (F2.back (p := low01 n) (fun v w hp hr => AR0.back h hp hr) hl.1 h1) (F2.back (p := low01 n) (fun v w hp hr => AR0.back h hp hr) hl.2 h2)
  · rename_i h1 h2 h3
    cases hv with
    | top _ h => exact .top _ h
    | ptr j off gb hg => exact absurd rfl (h1 j off none)
    | slice j off len cap gb hg => exact absurd rfl (h2 j off none len cap)
    | bool => exact .bool _
    | int => exact .int _ _
    | str => exact .str _
    | ptr0 => exact .ptr0
    | slice0 => exact .slice0
    | nilFunc => exact .nilFunc
    | nilIface => exact .nilIface
    | func => exact .func _
    | nilS j off _ _ => exact absurd rfl (h2 j off none 0 0)
    | clo fn _ _ => exact absurd rfl (h3 fn _ _)
theorem AR.back {g g' : List (Option GB)} {ρ : Nat → Nat} {n : Nat} (h : BackOk n ρ g g') {v w : Value} (hl : low1 n v = true) (hv : AR g (ren1 ρ v) w) : AR g' v w := by
  unfold ren1 at hv
  split at hv
  · rename_i l
    cases hv with
    | s hs => cases hs
    | agg hf => exact .agg (F2.back (p := lowS n) (fun v w hp hr => SR.back h hp hr) hl hf)
  · rename_i hne
    have hl' : lowS n v = true := by
      unfold low1 at hl
      split at hl
      · exact absurd rfl (hne _)
      · exact hl
    generalize he : renS ρ v = u at hv
    cases hv with
    | s hs => exact .s (SR.back h hl' (by rw [he]; exact hs))
    | agg hf =>
      exfalso
      unfold renS at he
      split at he
      · cases he
      · cases he
      · cases he
      · exact hne _ he
theorem VR.back {g g' : List (Option GB)} {ρ : Nat → Nat} {n : Nat} (h : BackOk n ρ g g') {v w : Value} (hl : low n v = true) (hv : VR g (AE.ren ρ v) w) : VR g' v w := by
  unfold AE.ren at hv
  split at hv
  · rename_i l
    cases hv with
    | a ha => cases ha with
      | s hs => cases hs
    | tup hf => exact .tup (F2.back (p := low1 n) (fun v w hp hr => AR.back h hp hr) hl hf)
  · rename_i hne
    have hl' : low1 n v = true := by
      unfold low at hl
      split at hl
      · exact absurd rfl (hne _)
      · exact hl
    generalize he : ren1 ρ v = u at hv
    cases hv with
    | a ha => exact .a (AR.back h hl' (by rw [he]; exact ha))
    | tup hf =>
      exfalso
      unfold ren1 at he
      split at he
      · cases he
      · unfold renS at he
        split at he
        · cases he
        · cases he
        · cases he
        · exact hne _ he
    | top _ =>
      have : v = topV := by
        unfold ren1 at he
        split at he
        · cases he
        · unfold renS at he
          split at he
          · cases he
          · cases he
          · cases he
          · exact he
      rw [this]; exact .top _
def roBlk (b : ABlk) : ABlk := { b with rw := false, ob := none }
def renBlk (ρ : Nat → Nat) (b : ABlk) : ABlk := { b with cells := b.cells.map (renS ρ) }
def Shows (m : Mem) (js : List Nat) (m0 : Mem) : Prop :=
  m0.length = js.length ∧ ∀ (i : Nat) (b : ABlk), m0[i]? = some (some b) → ∃ j b', js[i]? = some j ∧ m[j]? = some (some b') ∧ b'.cells = b.cells.map (renS fun i => js.getD i 0) ∧ b'.elem = b.elem ∧ (b.ex = true → b'.ex = true) ∧ b.rw = false ∧ b.cells.all (lowS js.length) = true ∧ b.ob = none
def place (js : List Nat) (n : Nat) (i : Nat) : Nat := if i < js.length then js.getD i 0 else n + (i - js.length)
theorem ACall.frame {f : FuncId} {as : List Value} {m0 : Mem} {K : Value → Mem → Prop} (h : ACall P f as m0 fun v m1 => ∃ nb : List ABlk, m1 = m0 ++ nb.map some ∧ nb.all (·.rw) = true ∧ K v (nb.map some)) (m : Mem) (js : List Nat) (hs : Shows m js m0) (hjs : ∀ j ∈ js, j < m.length)
    (has : as.all (low js.length) = true) :
    ACall P f (as.map (ren (place js m.length))) m fun v m' => ∃ (v0 : Value) (nb : List ABlk), K v0 (nb.map some) ∧ v = ren (place js m.length) v0 ∧ m' = m ++ nb.map fun b => some (renBlk (place js m.length) b) := by
  intro c g W args' hr hargs
  have hg0 : ∀ (i : Nat) (gb : GB), i < js.length → g[place js m.length i]? = some (some gb) → (js.map fun j => g.getD j none)[i]? = some (some gb) := by
    intro i gb hi hgb
    simp only [place, if_pos hi] at hgb
    rw [List.getElem?_map, List.getElem?_eq_getElem hi]
    simp only [Option.map_some, Option.some.injEq]
    rw [List.getD_eq_getElem?_getD, List.getElem?_eq_getElem hi] at hgb
    simp only [Option.getD_some] at hgb
    rw [List.getD_eq_getElem?_getD, hgb]; rfl
  have hget : ∀ (i : Nat) (gb : GB), (js.map fun j => g.getD j none)[i]? = some (some gb) → ∃ j, js[i]? = some j ∧ g[j]? = some (some gb) := by
    intro i gb hi
    rw [List.getElem?_map] at hi
    cases hj : js[i]? with
    | none => rw [hj] at hi; cases hi
    | some j =>
      rw [hj] at hi
      simp only [Option.map_some, Option.some.injEq] at hi
      have hlt := hjs j (List.mem_of_getElem? hj)
      rw [← hr.len] at hlt
      refine ⟨j, rfl, ?_⟩
      rw [List.getD_eq_getElem?_getD, List.getElem?_eq_getElem hlt] at hi
      rw [List.getElem?_eq_getElem hlt, ← hi]; rfl
  have hr0 : Rel P (quietC W hr.good) (js.map fun j => g.getD j none) m0 W := by
    refine ⟨by simp [hs.1], ?_, ?_, fun _ _ _ => rfl, Nat.le_refl _, rfl, rfl, rfl, Objs.no (fun i b gb hb _ => by obtain ⟨_, _, _, _, _, _, _, _, _, h⟩ := hs.2 i b hb; exact h) (quietC W hr.good).rr, ?_⟩
    rotate_right
    · intro i b gb hb hgb _ _
      obtain ⟨j, b', hj, hmj, _⟩ := hs.2 i b hb
      obtain ⟨j', hj', hgj⟩ := hget i gb hgb
      obtain rfl : j = j' := by rw [hj] at hj'; exact Option.some.inj hj'
      obtain ⟨cs, fr, hh, _⟩ := hr.blk j b' gb hmj hgj
      show gb.b < W.heap.size
      rcases Nat.lt_or_ge gb.b W.heap.size with h' | h'
      · exact h'
      · rw [Array.getElem?_eq_none h'] at hh; cases hh
    · intro i b gb hb hgb
      obtain ⟨j, b', hj, hmj, hcells, helem, hex, hro, hlow, _⟩ := hs.2 i b hb
      obtain ⟨j', hj', hgj⟩ := hget i gb hgb
      obtain rfl : j = j' := by rw [hj] at hj'; exact Option.some.inj hj'
      obtain ⟨cs, fr, hh, hf, hsz, _, hx⟩ := hr.blk j b' gb hmj hgj
      refine ⟨cs, fr, hh, ?_, ?_, ?_, fun h => hx (hex h)⟩
      · rw [hcells, List.length_map] at hf
        refine F2.back (p := lowS js.length) (fun v w hp hr => SR.back (n := js.length) (ρ := fun i => js.getD i 0) ⟨fun i gb hi h => hg0 i gb hi (by simp only [place, if_pos hi]; exact h), by simp⟩ hp hr) hlow hf
      · rw [hcells, List.length_map] at hsz; exact hsz
      · intro h; rw [hro] at h; cases h
    · intro i j bi bj gi gj _ hbi _ hrw
      obtain ⟨_, _, _, _, _, _, _, hro, _⟩ := hs.2 i bi hbi
      rw [hro] at hrw; cases hrw
  have hargs0 : F2 (VR (js.map fun j => g.getD j none)) as args' := F2.back (p := low js.length) (fun v w hp hv => VR.back (n := js.length) ⟨hg0, by simp⟩ hp hv) has hargs
  refine (h (quietC W hr.good) _ W args' hr0 hargs0).mono ?_
  rintro e W' ⟨v0, v', m1, g', rfl, ⟨nb, rfl, hnb, hK⟩, hr1, hv⟩
  have hlen1 := hr1.len
  simp only [List.length_append, List.length_map] at hlen1
  have hg'l : g'.length = nb.length := by have := hs.1; omega
  have hρ : ∀ (i : Nat) (gb : GB), ((js.map fun j => g.getD j none) ++ g')[i]? = some (some gb) → (g ++ g')[place js m.length i]? = some (some gb) := by
    intro i gb hi
    by_cases hlt : i < js.length
    · rw [List.getElem?_append_left (by simpa using hlt)] at hi
      obtain ⟨j, hj, hgj⟩ := hget i gb hi
      simp only [place, if_pos hlt]
      rw [List.getD_eq_getElem?_getD, hj]
      exact getElem?_app hgj
    · rw [List.getElem?_append_right (by simpa using Nat.le_of_not_lt hlt)] at hi
      simp only [List.length_map] at hi
      simp only [place, if_neg hlt]
      rw [List.getElem?_append_right (by rw [hr.len]; omega), hr.len, show m.length + (i - js.length) - m.length = i - js.length from by omega]
      exact hi
  have hρl : ∀ i, i < ((js.map fun j => g.getD j none) ++ g').length → place js m.length i < (g ++ g').length := by
    intro i hi
    simp only [List.length_append, List.length_map] at hi ⊢
    by_cases hlt : i < js.length
    · simp only [place, if_pos hlt]
      have := hjs (js.getD i 0) (by rw [List.getD_eq_getElem?_getD, List.getElem?_eq_getElem hlt]; exact List.getElem_mem hlt)
      rw [hr.len]; omega
    · simp only [place, if_neg hlt]
      rw [hr.len]; omega
  have hold : ∀ k, k < W.heap.size → W'.heap[k]? = W.heap[k]? := fun k hk => hr1.frame k hk (fun h => h)
  have hlt : ∀ (j : Nat) (b : ABlk) (gb : GB), m[j]? = some (some b) → g[j]? = some (some gb) → gb.b < W.heap.size := by
    intro j b gb hj hg
    obtain ⟨cs, fr, hh, _⟩ := hr.blk j b gb hj hg
    rcases Nat.lt_or_ge gb.b W.heap.size with h' | h'
    · exact h'
    · rw [Array.getElem?_eq_none h'] at hh; cases hh
  have split : ∀ (j : Nat) (b : ABlk) (gb : GB), (m ++ nb.map fun b => some (renBlk (place js m.length) b))[j]? = some (some b) → (g ++ g')[j]? = some (some gb) →
      (m[j]? = some (some b) ∧ g[j]? = some (some gb)) ∨ ∃ b0, b = renBlk (place js m.length) b0 ∧ m.length ≤ j ∧ (m0 ++ nb.map some)[js.length + (j - m.length)]? = some (some b0) ∧ ((js.map fun j => g.getD j none) ++ g')[js.length + (j - m.length)]? = some (some gb) ∧ b0.rw = true := by
    intro j b gb hj hgb
    rcases Nat.lt_or_ge j m.length with hl | hl
    · rw [List.getElem?_append_left hl] at hj
      rw [List.getElem?_append_left (by rw [hr.len]; exact hl)] at hgb
      exact .inl ⟨hj, hgb⟩
    · rw [List.getElem?_append_right hl, List.getElem?_map] at hj
      rw [List.getElem?_append_right (by rw [hr.len]; exact hl), hr.len] at hgb
      cases hb0 : nb[j - m.length]? with
      | none => rw [hb0] at hj; cases hj
      | some b0 =>
        rw [hb0] at hj
        simp only [Option.map_some, Option.some.injEq] at hj
        refine .inr ⟨b0, hj.symm, hl, ?_, ?_, List.all_eq_true.1 hnb b0 (List.mem_of_getElem? hb0)⟩
        · rw [List.getElem?_append_right (by rw [hs.1]; omega), hs.1, show js.length + (j - m.length) - js.length = j - m.length from by omega, List.getElem?_map, hb0]; rfl
        · rw [List.getElem?_append_right (by simp), List.length_map, show js.length + (j - m.length) - js.length = j - m.length from by omega]; exact hgb
  refine ⟨ren (place js m.length) v0, v', _, g', rfl, ⟨v0, nb, hK, rfl, rfl⟩, ?_, hv.ren ⟨hρ, hρl⟩⟩
  refine ⟨by simp [hr.len, hg'l], ?_, ?_, ?_, Nat.le_trans hr.size hr1.size, hr1.os.trans hr.os, hr1.tape.trans hr.tape, hr1.output.trans hr.output, ?_, ?_⟩
  rotate_right
  · intro j b gb hj hgb h1 h2
    rcases split j b gb hj hgb with ⟨hj, hgb⟩ | ⟨b0, rfl, hl, hb0, hgb0, hrw0⟩
    · exact hr.ro j b gb hj hgb h1 h2
    · rw [show (renBlk (place js m.length) b0).rw = b0.rw from rfl, hrw0] at h1; cases h1
  rotate_right
  · refine hr.objs.keep hr.size hr1.size ?_ fun k hk => .inl (hold k hk)
    intro j b gb hj hgb
    rcases split j b gb hj hgb with ⟨hj, hgb⟩ | ⟨b0, rfl, hl, hb0, hgb0, hrw0⟩
    · exact .inl ⟨b, hj, rfl, rfl, hgb⟩
    · refine .inr ⟨(show b0.ob = none from hr1.noOb hb0 hgb0 hrw0), .inl ?_⟩
      obtain ⟨_, _, _, _, _, hown, _⟩ := hr1.blk _ b0 gb hb0 hgb0
      rcases (hown hrw0).2.1 with h | h
      · exact h
      · exact h.elim
  · intro j b gb hj hgb
    rcases split j b gb hj hgb with ⟨hj, hgb⟩ | ⟨b0, rfl, hl, hb0, hgb0, hrw0⟩
    · obtain ⟨cs, fr, hh, hf, rest⟩ := hr.blk j b gb hj hgb
      exact ⟨cs, fr, by rw [hold _ (hlt j b gb hj hgb)]; exact hh, hf.imp fun _ _ h => h.app, rest⟩
    · obtain ⟨cs, fr, hh, hf, hsz, hown, hex⟩ := hr1.blk _ b0 gb hb0 hgb0
      refine ⟨cs, fr, hh, ?_, by simpa [renBlk] using hsz, fun h => ?_, hex⟩
      · simp only [renBlk, List.length_map]
        have := hf.map (S := SR (g ++ g')) (f := renS (place js m.length)) (f' := id) fun _ _ h' => h'.ren ⟨hρ, hρl⟩
        simpa using this
      · obtain ⟨h1, h2, h3, h4⟩ := hown hrw0
        refine ⟨h1, .inl ?_, h3, by simpa [renBlk] using h4⟩
        rcases h2 with h2 | h2
        · exact Nat.le_trans hr.size h2
        · exact h2.elim
  · intro p q bp bq gp gq hne hp hq hrwp hgp hgq
    have above : ∀ (j : Nat) (b0 : ABlk) (gb : GB), (m0 ++ nb.map some)[j]? = some (some b0) → ((js.map fun j => g.getD j none) ++ g')[j]? = some (some gb) → b0.rw = true → W.heap.size ≤ gb.b := by
      intro j b0 gb hb hg hrw
      obtain ⟨_, _, _, _, _, hown, _⟩ := hr1.blk j b0 gb hb hg
      rcases (hown hrw).2.1 with h | h
      · exact h
      · exact h.elim
    rcases split p bp gp hp hgp with ⟨hp, hgp⟩ | ⟨b0, rfl, hl, hb0, hgb0, hrw0⟩ <;> rcases split q bq gq hq hgq with ⟨hq, hgq⟩ | ⟨b1, rfl, hl1, hb1, hgb1, hrw1⟩
    · exact hr.inj p q bp bq gp gq hne hp hq hrwp hgp hgq
    · have h1 := hlt p bp gp hp hgp
      have h2 := above _ b1 gq hb1 hgb1 hrw1
      omega
    · have h1 := hlt q bq gq hq hgq
      have h2 := above _ b0 gp hb0 hgb0 hrw0
      omega
    · exact hr1.inj _ _ b0 b1 gp gq (by omega) hb0 hb1 hrw0 hgb0 hgb1
  · intro k hk hF
    rw [hold k (Nat.lt_of_lt_of_le hk hr.size), hr.frame k hk hF]
end Go.AE
end
section
namespace Go.AE
variable {P : Program}
structure QD where
  v : Value
  nb : Option ABlk
def roM (m : Mem) : Mem := m.map fun b => b.map roBlk
def QFin (P : Program) (g : List (Option GB)) (D : Mem) (W : World) (d : QD) (w : Value) (W' : World) : Prop :=
  ∃ g' gd, Rel P (quietC W gd) (g ++ g') (D ++ d.nb.toList.map some) W' ∧ VR (g ++ g') d.v w
def Quiet (P : Program) (o : Oper) (ρ : Operand → Value) (D : Mem) (d : QD) : Prop :=
  ∀ g W ρ' gd, Rel P (quietC W gd) g D W → (∀ x, VR g (ρ x) (ρ' x)) → match (execOp ρ' o).run P W with
    | .ok (.value w) W' => QFin P g D W d w W'
    | .ok .skip W' => QFin P g D W d undef W'
    | .ok (.enter f args) W' => Calls P f args W' fun e W'' => ∃ w, e = .returned w ∧ QFin P g D W d w W''
    | _ => False
def optO : Ops (Option (List Bool × Value × Mem)) where
  br c t e := bif c then t else e
  nd c r := r.map fun p => (c :: p.1, p.2)
  fl := none
  ld o k := match o with
    | some v => k v
    | none => none
  call _ _ _ _ := none
  code _ _ _ _ := none
  pcall _ _ _ _ := none
def optA (P : Program) (n₀ : Nat) (tgt : Value × Mem) : Ans P n₀ (Option (List Bool × Value × Mem)) where
  toOps := optO
  holds r := ∃ cs, r = some (cs, tgt) ∧ ∀ c ∈ cs, c = true
  br_ok c t e h := by
    cases c with
    | true => exact ⟨fun _ => h, fun h => (by cases h)⟩
    | false => exact ⟨fun h => (by cases h), fun _ => h⟩
  nd_ok c r h := by
    obtain ⟨cs, h, hc⟩ := h
    cases r with
    | none => cases h
    | some p =>
      obtain ⟨cs', q⟩ := p
      simp only [optO, Option.map_some, Option.some.injEq, Prod.mk.injEq] at h
      obtain ⟨rfl, rfl⟩ := h
      exact ⟨hc c (by simp), cs', rfl, fun c' h' => hc c' (by simp [h'])⟩
  fl_ok h := by obtain ⟨_, h, _⟩ := h; cases h
  ld_ok o k h := by
    cases o with
    | none => obtain ⟨_, h, _⟩ := h; cases h
    | some v => exact ⟨v, rfl, h⟩
  call_ok _ _ _ _ h := by obtain ⟨_, h, _⟩ := h; cases h
  code_ok _ _ _ _ h := by obtain ⟨_, h, _⟩ := h; cases h
  pcall_ok _ _ _ _ h := by obtain ⟨_, h, _⟩ := h; cases h
theorem Quiet.of_ev {T : Tab P} {o : Oper} {ρ : Operand → Value} {D : Mem} {cs : List Bool} {v : Value} {nb : Option ABlk}
    (h : evOp optO T o.op ρ D (fun v m => some ([], v, m)) = some (cs, v, D ++ nb.toList.map some)) (hc : ∀ c ∈ cs, c = true) : Quiet P o ρ D ⟨v, nb⟩ := by
  intro g W ρ' gd hr hv
  have := evOp_ok (X := optA P 0 (v, D ++ nb.toList.map some)) (T := T) (o := o) (ρ := ρ) (ρ' := ρ') (m := D) (k := fun v m => some ([], v, m)) ⟨cs, h, hc⟩ (c := (quietC W gd)) (g₀ := []) (g := g) (W := W) hr hv
  unfold OpDone at this
  have key : ∀ (v' : Value) (m' : Mem), (optA P 0 (v, D ++ nb.toList.map some)).holds (some ([], v', m')) → v' = v ∧ m' = D ++ nb.toList.map some := by
    rintro v' m' ⟨cs, h, _⟩
    simp only [Option.some.injEq, Prod.mk.injEq] at h
    exact ⟨h.2.1, h.2.2⟩
  generalize hrun : (execOp ρ' o).run P W = r at this ⊢
  split at this
  · obtain ⟨v', m', g', hN, hr', hvw⟩ := this
    obtain ⟨rfl, rfl⟩ := key _ _ hN
    exact ⟨g', gd, hr', hvw⟩
  · obtain ⟨m', g', hN, hr'⟩ := this
    obtain ⟨rfl, rfl⟩ := key _ _ hN
    exact ⟨g', gd, hr', .undef _⟩
  · refine this.mono ?_
    rintro e W'' ⟨v', w, m', g', rfl, hN, hr', hvw⟩
    obtain ⟨rfl, rfl⟩ := key _ _ hN
    exact ⟨w, rfl, g', gd, hr', hvw⟩
  · exact this.elim
theorem Rel.still {c : Ctx} {g : List (Option GB)} {m : Mem} {W W' : World} (h : Rel P c g m W) (hf : ∀ k, k < W.heap.size → W'.heap[k]? = W.heap[k]?) (hs : W.heap.size ≤ W'.heap.size) (ho : W'.os = W.os) (ht : W'.tape = W.tape) (hu : W'.output = W.output) : Rel P c g m W' := by
  refine ⟨h.len, ?_, h.inj, fun k hk hF => by rw [hf k (Nat.lt_of_lt_of_le hk h.size), h.frame k hk hF], Nat.le_trans h.size hs, ho.trans h.os, ht.trans h.tape, hu.trans h.output, h.objs.keep h.size hs (fun _ b _ hj hg => .inl ⟨b, hj, rfl, rfl, hg⟩) fun k hk => .inl (hf k hk), h.ro⟩
  intro j b gb hj hg
  obtain ⟨cs, fr, hh, rest⟩ := h.blk j b gb hj hg
  have hlt : gb.b < W.heap.size := by
    rcases Nat.lt_or_ge gb.b W.heap.size with h' | h'
    · exact h'
    · rw [Array.getElem?_eq_none h'] at hh; cases hh
  exact ⟨cs, fr, by rw [hf _ hlt]; exact hh, rest⟩
theorem Rel.regrow {g g' : List (Option GB)} {D m' : Mem} {W W' : World} {gd : Good W fun _ => False} {nb : List (Option ABlk)} (hr : Rel P (quietC W gd) g D W) (hr' : Rel P (quietC W gd) (g ++ g') m' W') (hl : D.length ≤ m'.length) (hd : m'.drop D.length = nb) :
    Rel P (quietC W gd) (g ++ g') (D ++ nb) W' := by
  have still : Rel P (quietC W gd) g D W' := hr.still (fun k hk => hr'.frame k hk (fun h => h)) hr'.size hr'.os hr'.tape hr'.output
  have hnb : nb.length = m'.length - D.length := by rw [← hd]; simp
  have hlt : ∀ (j : Nat) (b : ABlk) (gb : GB), D[j]? = some (some b) → g[j]? = some (some gb) → gb.b < W.heap.size := by
    intro j b gb hj hg
    obtain ⟨cs, fr, hh, _⟩ := hr.blk j b gb hj hg
    rcases Nat.lt_or_ge gb.b W.heap.size with h' | h'
    · exact h'
    · rw [Array.getElem?_eq_none h'] at hh; cases hh
  have split : ∀ (j : Nat) (b : ABlk) (gb : GB), (D ++ nb)[j]? = some (some b) → (g ++ g')[j]? = some (some gb) → (D[j]? = some (some b) ∧ g[j]? = some (some gb)) ∨ (D.length ≤ j ∧ m'[j]? = some (some b)) := by
    intro j b gb hj hg
    rcases Nat.lt_or_ge j D.length with hlj | hlj
    · rw [List.getElem?_append_left hlj] at hj
      rw [List.getElem?_append_left (by rw [hr.len]; exact hlj)] at hg
      exact .inl ⟨hj, hg⟩
    · rw [List.getElem?_append_right hlj, ← hd, List.getElem?_drop, show D.length + (j - D.length) = j from by omega] at hj
      exact .inr ⟨hlj, hj⟩
  refine ⟨by rw [hr'.len, List.length_append, hnb]; omega, ?_, ?_, hr'.frame, hr'.size, hr'.os, hr'.tape, hr'.output, ?_, ?_⟩
  rotate_right
  · intro j b gb hj hg h1 h2
    rcases split j b gb hj hg with ⟨hj, hg⟩ | ⟨_, hj⟩
    · exact hr.ro j b gb hj hg h1 h2
    · exact hr'.ro j b gb hj hg h1 h2
  rotate_right
  · obtain ⟨fp, rp, hA⟩ := hr.objs
    obtain ⟨fp', rp', hA'⟩ := hr'.objs
    have no : ∀ j k, ¬ fp j k := fun j k h => by
      have h1 := hA.own j k h
      rcases h1.2 with h2 | h2
      · have h3 := h1.1
        simp only at h2
        omega
      · exact h2
    refine ⟨fun j k => D.length ≤ j ∧ fp' j k, fun j k => (j < D.length ∧ rp j k) ∨ (D.length ≤ j ∧ rp' j k), ?_, fun j k h => hA'.own j k h.2, fun j k h => h.elim (fun h => hA.ro j k h.2) fun h => hA'.ro j k h.2, fun i j k hij h1 h2 => hA'.dis i j k hij h1.2 h2.2, ?_, hA'.rr, fun j k h => hA'.cel j k h.2⟩
    · intro j b gb o hj hg ho
      rcases split j b gb hj hg with ⟨hj, hg⟩ | ⟨hl, hj⟩
      · have hlj := lt_of_getElem? hj
        have e1 : (fun k => D.length ≤ j ∧ fp' j k) = fp j := funext fun k => propext ⟨fun h => by omega, fun h => (no j k h).elim⟩
        have e2 : (fun k => (j < D.length ∧ rp j k) ∨ (D.length ≤ j ∧ rp' j k)) = rp j := funext fun k => propext ⟨fun h => h.elim (fun h => h.2) fun h => by omega, fun h => .inl ⟨hlj, h⟩⟩
        rw [e1, e2]
        obtain ⟨q1, q2⟩ := hA.rep j b gb o hj hg ho
        exact ⟨o.loc q1 fun k hk => hk.elim (fun h => (no j k h).elim) fun h => hr'.frame k (hA.ro j k h) fun h => h, q2⟩
      · have e1 : (fun k => D.length ≤ j ∧ fp' j k) = fp' j := funext fun k => propext ⟨fun h => h.2, fun h => ⟨hl, h⟩⟩
        have e2 : (fun k => (j < D.length ∧ rp j k) ∨ (D.length ≤ j ∧ rp' j k)) = rp' j := funext fun k => propext ⟨fun h => h.elim (fun h => by omega) fun h => h.2, fun h => .inr ⟨hl, h⟩⟩
        rw [e1, e2]
        exact hA'.rep j b gb o hj hg ho
    · rintro i b gb j hi hg ho ⟨hjl, h⟩
      rcases split i b gb hi hg with ⟨hi, hg⟩ | ⟨hl, hi⟩
      · have h1 := hlt i b gb hi hg
        rcases (hA'.own j _ h).2 with h2 | h2
        · simp only at h2
          omega
        · exact h2
      · exact hA'.oth i b gb j hi hg ho h
  · intro j b gb hj hg
    rcases split j b gb hj hg with ⟨hj, hg⟩ | ⟨_, hj⟩
    · obtain ⟨cs, fr, hh, hf, rest⟩ := still.blk j b gb hj hg
      exact ⟨cs, fr, hh, hf.imp fun _ _ h => h.app, rest⟩
    · exact hr'.blk j b gb hj hg
  · intro p q bp bq gp gq hne hp hq hrw hgp hgq
    rcases split p bp gp hp hgp with ⟨hp2, hgp2⟩ | ⟨_, hp2⟩
    · obtain ⟨_, _, _, _, _, hown, _⟩ := hr.blk p bp gp hp2 hgp2
      have := hlt p bp gp hp2 hgp2
      rcases (hown hrw).2.1 with h | h
      · simp only at h; omega
      · exact h.elim
    · rcases split q bq gq hq hgq with ⟨hq2, hgq2⟩ | ⟨_, hq2⟩
      · obtain ⟨_, _, _, _, _, hown, _⟩ := hr'.blk p bp gp hp2 hgp
        have := hlt q bq gq hq2 hgq2
        rcases (hown hrw).2.1 with h | h
        · simp only at h; omega
        · exact h.elim
      · exact hr'.inj p q bp bq gp gq hne hp2 hq2 hrw hgp hgq
theorem Quiet.of_call {T : Tab P} {o : Oper} {ρ : Operand → Value} {D : Mem} {v : Value} {nb : Option ABlk} {f : Operand} {n : FuncId} {args : Array Operand} {ts : Array TypeId} (ho : o.op = .call ⟨.value f, args, ts⟩) {fs cs : List Value} (hf : ρ f = .func (.func n) ⟨fs⟩ ⟨cs⟩)
    (hfn : T.fn n = true) (h : ACall P n (fs ++ args.toList.map ρ ++ cs) D fun v' m' => v' = v ∧ D.length ≤ m'.length ∧ m'.drop D.length = nb.toList.map some) : Quiet P o ρ D ⟨v, nb⟩ := by
  intro g W ρ' gd hr hv
  have := evOp_ok (X := propA P 0) (T := T) (o := o) (ρ := ρ) (ρ' := ρ') (m := D) (k := fun v' m' => v' = v ∧ D.length ≤ m'.length ∧ m'.drop D.length = nb.toList.map some) (by
    rw [ho]
    simp only [evOp, evCall, hf, hfn, if_true]
    exact h) (c := (quietC W gd)) (g₀ := []) (g := g) (W := W) hr hv
  unfold OpDone at this
  generalize hrun : (execOp ρ' o).run P W = r at this ⊢
  split at this
  · obtain ⟨v', m', g', ⟨rfl, h1, h2⟩, hr', hvw⟩ := this
    exact ⟨g', gd, hr.regrow hr' h1 h2, hvw⟩
  · obtain ⟨m', g', ⟨rfl, h1, h2⟩, hr'⟩ := this
    exact ⟨g', gd, hr.regrow hr' h1 h2, .undef _⟩
  · refine this.mono ?_
    rintro e W'' ⟨v', w, m', g', rfl, ⟨rfl, h1, h2⟩, hr', hvw⟩
    exact ⟨w, rfl, g', gd, hr.regrow hr' h1 h2, hvw⟩
  · exact this.elim
theorem Quiet.of_prop {T : Tab P} {o : Oper} {ρ : Operand → Value} {D : Mem} {v : Value} {nb : Option ABlk}
    (h : evOp (propA P 0).toOps T o.op ρ D fun v' m' => v' = v ∧ D.length ≤ m'.length ∧ m'.drop D.length = nb.toList.map some) : Quiet P o ρ D ⟨v, nb⟩ := by
  intro g W ρ' gd hr hv
  have := evOp_ok (X := propA P 0) (T := T) (o := o) (ρ := ρ) (ρ' := ρ') (m := D) (k := fun v' m' => v' = v ∧ D.length ≤ m'.length ∧ m'.drop D.length = nb.toList.map some) h (c := (quietC W gd)) (g₀ := []) (g := g) (W := W) hr hv
  unfold OpDone at this
  generalize hrun : (execOp ρ' o).run P W = r at this ⊢
  split at this
  · obtain ⟨v', m', g', ⟨rfl, h1, h2⟩, hr', hvw⟩ := this
    exact ⟨g', gd, hr.regrow hr' h1 h2, hvw⟩
  · obtain ⟨m', g', ⟨rfl, h1, h2⟩, hr'⟩ := this
    exact ⟨g', gd, hr.regrow hr' h1 h2, .undef _⟩
  · refine this.mono ?_
    rintro e W'' ⟨v', w, m', g', rfl, ⟨rfl, h1, h2⟩, hr', hvw⟩
    exact ⟨w, rfl, g', gd, hr.regrow hr' h1 h2, hvw⟩
  · exact this.elim
def Gle (g g' : List (Option GB)) : Prop := (∀ (j : Nat) (gb : GB), g[j]? = some (some gb) → g'[j]? = some (some gb)) ∧ g.length ≤ g'.length
theorem SR0.gle {g g' : List (Option GB)} (h : Gle g g') {v w : Value} (hv : SR0 g v w) : SR0 g' v w := by
  cases hv with
  | ptr j off gb hg => exact .ptr _ off gb (h.1 j gb hg)
  | slice j off len cap gb hg => exact .slice _ off len cap gb (h.1 j gb hg)
  | bool => exact .bool _
  | int => exact .int _ _
  | str => exact .str _
  | ptr0 => exact .ptr0
  | slice0 => exact .slice0
  | func => exact .func _
  | nilS j off _ hj => exact .nilS _ _ _ (Nat.lt_of_lt_of_le hj h.2)
theorem AR0.gle {g g' : List (Option GB)} (h : Gle g g') {v w : Value} (hv : AR0 g v w) : AR0 g' v w := by
  cases hv with
  | s hs => exact .s (hs.gle h)
  | agg hf => exact .agg (hf.imp fun _ _ h' => h'.gle h)
theorem SR.gle {g g' : List (Option GB)} (h : Gle g g') {v w : Value} (hv : SR g v w) : SR g' v w := by
  cases hv with
  | top _ h => exact .top _ h
  | ptr j off gb hg => exact .ptr _ off gb (h.1 j gb hg)
  | slice j off len cap gb hg => exact .slice _ off len cap gb (h.1 j gb hg)
  | bool => exact .bool _
  | int => exact .int _ _
  | str => exact .str _
  | ptr0 => exact .ptr0
  | slice0 => exact .slice0
  | nilFunc => exact .nilFunc
  | nilIface => exact .nilIface
  | func => exact .func _
  | nilS j off _ hj => exact .nilS _ _ _ (Nat.lt_of_lt_of_le hj h.2)
  | clo fn hf hc => exact .clo fn (hf.imp fun _ _ h' => h'.gle h) (hc.imp fun _ _ h' => h'.gle h)
theorem AR.gle {g g' : List (Option GB)} (h : Gle g g') {v w : Value} (hv : AR g v w) : AR g' v w := by
  cases hv with
  | s hs => exact .s (hs.gle h)
  | agg hf => exact .agg (hf.imp fun _ _ h' => h'.gle h)
theorem VR.gle {g g' : List (Option GB)} (h : Gle g g') {v w : Value} (hv : VR g v w) : VR g' v w := by
  cases hv with
  | a ha => exact .a (ha.gle h)
  | tup hf => exact .tup (hf.imp fun _ _ h' => h'.gle h)
  | top => exact .top _
theorem getElem?_take_of_lt {α : Type} {l : List α} {n i : Nat} (h : i < n) : (l.take n)[i]? = l[i]? := by rw [List.getElem?_take, if_pos h]
theorem F2.low {R S : Value → Value → Prop} {p : Value → Bool} (h : ∀ v w, R v w → p v = true → S v w) : ∀ {l l' : List Value}, F2 R l l' → l.all p = true → F2 S l l'
  | [], [], _, _ => .nil
  | v :: l, w :: l', .cons hr hf, hp => by
    simp only [List.all_cons, Bool.and_eq_true] at hp
    exact .cons (h v w hr hp.1) (F2.low h hf hp.2)
theorem SR0.low {g : List (Option GB)} {n : Nat} {v w : Value} (hv : SR0 g v w) (hl : low00 n v = true) : SR0 (g.take n) v w := by
  cases hv with
  | ptr j off gb hg => exact .ptr _ off gb (by rw [getElem?_take_of_lt (by simpa [low00] using hl)]; exact hg)
  | slice j off len cap gb hg => exact .slice _ off len cap gb (by rw [getElem?_take_of_lt (by simpa [low00] using hl)]; exact hg)
  | bool => exact .bool _
  | int => exact .int _ _
  | str => exact .str _
  | ptr0 => exact .ptr0
  | slice0 => exact .slice0
  | func => exact .func _
  | nilS j off _ hj => exact .nilS _ _ _ (by simp only [low00, decide_eq_true_eq] at hl; rw [List.length_take]; omega)
theorem AR0.low {g : List (Option GB)} {n : Nat} {v w : Value} (hv : AR0 g v w) (hl : low01 n v = true) : AR0 (g.take n) v w := by
  cases hv with
  | s hs =>
    refine .s (hs.low ?_)
    have := hs.scalarL
    cases v <;> first | exact hl | cases this
  | agg hf => exact .agg (F2.low (p := low00 n) (fun v w h hp => SR0.low h hp) hf hl)
theorem SR.low {g : List (Option GB)} {n : Nat} {v w : Value} (hv : SR g v w) (hl : lowS n v = true) : SR (g.take n) v w := by
  cases hv with
  | top _ h => exact .top _ h
  | ptr j off gb hg => exact .ptr _ off gb (by rw [getElem?_take_of_lt (by simpa [lowS] using hl)]; exact hg)
  | slice j off len cap gb hg => exact .slice _ off len cap gb (by rw [getElem?_take_of_lt (by simpa [lowS] using hl)]; exact hg)
  | bool => exact .bool _
  | int => exact .int _ _
  | str => exact .str _
  | ptr0 => exact .ptr0
  | slice0 => exact .slice0
  | nilFunc => exact .nilFunc
  | nilIface => exact .nilIface
  | func => exact .func _
  | nilS j off _ hj => exact .nilS _ _ _ (by simp only [lowS, decide_eq_true_eq] at hl; rw [List.length_take]; omega)
  | clo fn hf hc =>
    simp only [lowS, Bool.and_eq_true] at hl
    exact .clo fn (F2.low (p := low01 n) (fun v w h hp => AR0.low h hp) hf hl.1) (F2.low (p := low01 n) (fun v w h hp => AR0.low h hp) hc hl.2)
theorem AR.low {g : List (Option GB)} {n : Nat} {v w : Value} (hv : AR g v w) (hl : low1 n v = true) : AR (g.take n) v w := by
  cases hv with
  | s hs =>
    refine .s (hs.low ?_)
    have := hs.scalar.1
    cases v <;> first | exact hl | cases this
  | agg hf => exact .agg (F2.low (p := lowS n) (fun _ _ h hp => SR.low h hp) hf hl)
theorem VR.low {g : List (Option GB)} {n : Nat} {v w : Value} (hv : VR g v w) (hl : AE.low n v = true) : VR (g.take n) v w := by
  cases hv with
  | a ha =>
    refine .a (ha.low ?_)
    cases ha with
    | s hs =>
      have := hs.scalar.1
      cases v <;> first | exact hl | cases this
    | agg _ => exact hl
  | tup hf => exact .tup (F2.low (p := low1 n) (fun _ _ h hp => AR.low h hp) hf hl)
  | top => exact .top _
end Go.AE
end
section
namespace Go.AE
set_option linter.unusedSimpArgs false
variable {P : Program}
def waits (o : Oper) : List Nat := (o.after.toList.filter (Region.binds .any)).map (·.on)
def closures (all : List Oper) : List (List Nat) := all.foldl (fun acc o => acc ++ [(waits o).flatMap fun j => j :: acc.getD j []]) []
abbrev Slots := List (Nat × ABlk)
def memFor (cl : List Nat) (m : Mem) (sl : Slots) : Mem := roM m ++ sl.map fun p => if cl.contains p.1 then some (roBlk p.2) else none
def rhoFor (rd : List Tmp) (a : List Value) : Operand → Value
  | .tmp t => if rd.contains t then aeval a (.tmp t) else topV
  | x => aeval a x
def QtOK (P : Program) (all : List Oper) (cl : List Nat) (m : Mem) (o : Oper) (a : List Value) (sl : Slots) (d : QD) : Prop :=
  (∀ t ∈ o.looksAt all.toArray, low (m.length + sl.length) (aeval a (.tmp t)) = true) ∧
  (match o.guard with
   | none => Quiet P o (rhoFor (o.looksAt all.toArray) a) (memFor cl m sl) d
   | some (j, want) => (∃ b, ((all[j]?).bind (·.dst)).bind (a[·]?) = some (.bool b) ∧ (b = want → Quiet P o (rhoFor (o.looksAt all.toArray) a) (memFor cl m sl) d) ∧ (b ≠ want → d = ⟨undef, none⟩)) ∨
     ∃ l, ((all[j]?).bind (·.dst)).bind (a[·]?) = some (.tuple l) ∧ d = ⟨undef, none⟩)
inductive Qts (P : Program) (all : List Oper) (cls : List (List Nat)) (m : Mem) : Nat → List Oper → List Value → Slots → List QD → List Value → Slots → Prop
  | nil (i : Nat) (a : List Value) (sl : Slots) : Qts P all cls m i [] a sl [] a sl
  | cons {i : Nat} {o : Oper} {rest : List Oper} {a a' : List Value} {sl sl' : Slots} {d : QD} {ds : List QD} : (∀ b, d.nb = some b → b.rw = true) → QtOK P all (cls.getD i []) m o a sl d →
      Qts P all cls m (i + 1) rest (putA a o.dst d.v) (sl ++ d.nb.toList.map fun b => (i, b)) ds a' sl' → Qts P all cls m i (o :: rest) a sl (d :: ds) a' sl'
def quietOp : Op → Bool
  | .store _ _ _ => false
  | .call ⟨.builtin .append, _, _⟩ => false
  | .call ⟨.value _, _, _⟩ => false
  | _ => true
def evQ {R : Type} (X : Ops R) (T : Tab P) (all : List Oper) (cls : List (List Nat)) (m : Mem) : Nat → List Oper → List Value → Slots → (List Value → Slots → R) → R
  | _, [], a, sl, k => forceL a fun a => k a sl
  | i, o :: rest, a, sl, k =>
    let D := memFor (cls.getD i []) m sl
    let ρ := rhoFor (o.looksAt all.toArray) a
    let go (d : QD) : R := X.nd (match d.nb with | some b => b.rw | none => true) (forceV d.v fun v => evQ X T all cls m (i + 1) rest (putA a o.dst v) (sl ++ d.nb.toList.map fun b => (i, b)) k)
    let one : R := match o.op with
      | .call ⟨.value f, args, _⟩ =>
        match ρ f with
        | .func (.func n) ⟨fs⟩ ⟨cs⟩ => if T.fn n then X.pcall n (fs ++ args.toList.map ρ ++ cs) D fun v nb => go ⟨v, nb⟩ else X.fl
        | _ => X.fl
      | op =>
        if quietOp op then
          match evOp optO T op ρ D (fun v m => some ([], v, m)) with
          | some (cs, v, m') =>
            match m'.drop D.length with
            | [some b] => cs.foldr X.nd (go ⟨v, some b⟩)
            | _ => cs.foldr X.nd (go ⟨v, none⟩)
          | none => X.fl
        else X.fl
    if (o.looksAt all.toArray).all fun t => low (m.length + sl.length) (aeval a (.tmp t)) then
      match o.guard with
      | none => one
      | some (j, want) =>
        match ((all[j]?).bind (·.dst)).bind (a[·]?) with
        | some (.bool b) => X.br (b == want) one (go ⟨undef, none⟩)
        | _ => X.fl
    else X.fl
theorem foldr_opt : ∀ (l : List Bool) (r : Option (List Bool × Value × Mem)) {cs : List Bool} {v : Value} {m' : Mem}, l.foldr optO.nd r = some (cs, v, m') → ∃ cs', r = some (cs', v, m')
  | [], r, cs, v, m', h => ⟨cs, h⟩
  | c :: l, r, cs, v, m', h => by
    have h : (l.foldr optO.nd r).map (fun p => (c :: p.1, p.2)) = some (cs, v, m') := h
    cases hr : l.foldr optO.nd r with
    | none => rw [hr] at h; cases h
    | some p =>
      rw [hr] at h
      simp only [Option.map_some, Option.some.injEq, Prod.mk.injEq] at h
      obtain ⟨p1, p2⟩ := p
      simp only at h
      obtain ⟨_, rfl⟩ := h
      exact foldr_opt l r hr
theorem nd_opt {c : Bool} {r : Option (List Bool × Value × Mem)} {cs : List Bool} {v : Value} {m' : Mem} (h : optO.nd c r = some (cs, v, m')) : ∃ cs', r = some (cs', v, m') := foldr_opt [c] r h
theorem quiet_mem {T : Tab P} {op : Op} (hq : quietOp op = true) {ρ : Operand → Value} {D : Mem} {cs : List Bool} {v : Value} {m' : Mem} (h : evOp optO T op ρ D (fun v m => some ([], v, m)) = some (cs, v, m')) :
    m' = D ∨ ∃ b, m' = D ++ [some b] := by
  have same : ∀ {v' : Value} {m1 : Mem} {cs' : List Bool}, (some (([] : List Bool), v', m1) : Option (List Bool × Value × Mem)) = some (cs', v, m') → m' = m1 := by
    intro v' m1 cs' h
    simp only [Option.some.injEq, Prod.mk.injEq] at h
    exact h.2.2.symm
  cases op with
  | store _ _ _ => cases hq
  | pick c a b =>
    simp only [evOp, evPick, evAlloc, evOpt, evCond, evBuildSlice, evNil, evExtract, evBuiltin, evCall] at h
    split at h
    · split at h
      · exact .inl (same h)
      · split at h
        · exact .inl (same h)
        · cases h
      · exact .inl (same h)
      · simp only [optO] at h
        rename_i t _ _ _ _ _ _
        revert h
        generalize hq : (t : Bool) = tt
        intro h
        cases tt with
        | true => exact .inl (same h)
        | false => exact .inl (same h)
    · cases h
  | alloc e =>
    simp only [evOp, evPick, evAlloc, evOpt, evCond, evBuildSlice, evNil, evExtract, evBuiltin, evCall] at h
    repeat' (split at h)
    all_goals first | (cases h; done) | exact .inr ⟨_, same h⟩
  | box e x =>
    simp only [evOp, evPick, evAlloc, evOpt, evCond, evBuildSlice, evNil, evExtract, evBuiltin, evCall] at h
    split at h
    · exact .inr ⟨_, same h⟩
    · cases h
  | buildSlice t' len parts =>
    simp only [evOp, evPick, evAlloc, evOpt, evCond, evBuildSlice, evNil, evExtract, evBuiltin, evCall] at h
    split at h
    · exact .inr ⟨_, same h⟩
    · cases h
  | load t' a =>
    simp only [evOp, evLoad] at h
    split at h
    case h_2 => cases h
    split at h
    case h_2 => cases h
    split at h
    · obtain ⟨cs', h⟩ := nd_opt h
      exact .inl (same h)
    · simp only [optO] at h
      split at h
      · exact .inl (same h)
      · cases h
  | slice t' x lo hi mx =>
    cases mx with
    | some _ => cases h
    | none =>
      simp only [evOp, evSlice] at h
      split at h
      · split at h
        · obtain ⟨cs', h⟩ := foldr_opt _ _ h
          exact .inl (same h)
        · cases h
      · split at h
        case h_2 => cases h
        obtain ⟨cs', h⟩ := nd_opt h
        exact .inl (same h)
      · split at h
        case h_2 => cases h
        obtain ⟨cs', h⟩ := nd_opt h
        exact .inl (same h)
      · split at h
        case h_2 => cases h
        obtain ⟨cs', h⟩ := nd_opt h
        exact .inl (same h)
      · cases h
  | extract x i =>
    simp only [evOp, evPick, evAlloc, evOpt, evCond, evBuildSlice, evNil, evExtract, evBuiltin, evCall] at h
    split at h
    · simp only [optO] at h
      split at h
      · exact .inl (same h)
      · cases h
    · cases h
  | call cl =>
    obtain ⟨callee, args, ts⟩ := cl
    cases callee with
    | invoke _ _ => cases h
    | value f => cases hq
    | builtin b =>
      cases b with
      | append => cases hq
      | len =>
        simp only [evOp, evPick, evAlloc, evOpt, evCond, evBuildSlice, evNil, evExtract, evBuiltin, evCall] at h
        repeat' (split at h)
        all_goals first | (cases h; done) | exact .inl (same h)
      | min =>
        simp only [evOp, evPick, evAlloc, evOpt, evCond, evBuildSlice, evNil, evExtract, evBuiltin, evCall] at h
        repeat' (split at h)
        all_goals first | (cases h; done) | exact .inl (same h)
      | max =>
        simp only [evOp, evPick, evAlloc, evOpt, evCond, evBuildSlice, evNil, evExtract, evBuiltin, evCall] at h
        repeat' (split at h)
        all_goals first | (cases h; done) | exact .inl (same h)
      | _ => cases h
  | move x => exact .inl (same h)
  | assign x => exact .inl (same h)
  | build _ _ =>
    simp only [evOp, evPick, evAlloc, evOpt, evCond, evBuildSlice, evNil, evExtract, evBuiltin, evCall] at h
    split at h
    · exact .inl (same h)
    · cases h
  | nilCheck _ =>
    simp only [evOp, evPick, evAlloc, evOpt, evCond, evBuildSlice, evNil, evExtract, evBuiltin, evCall] at h
    split at h
    · exact .inl (same h)
    · cases h
  | binOp _ _ _ _ _ =>
    simp only [evOp, evPick, evAlloc, evOpt, evCond, evBuildSlice, evNil, evExtract, evBuiltin, evCall] at h
    split at h
    · obtain ⟨cs', h⟩ := foldr_opt _ _ h
      exact .inl (same h)
    · cases h
  | unOp _ _ _ =>
    simp only [evOp, evPick, evAlloc, evOpt, evCond, evBuildSlice, evNil, evExtract, evBuiltin, evCall] at h
    split at h
    · exact .inl (same h)
    · cases h
  | convert _ _ _ =>
    simp only [evOp, evConv] at h
    split at h
    · split at h
      · split at h
        · obtain ⟨cs', h⟩ := nd_opt h
          exact .inl (same h)
        · cases h
      · cases h
    · split at h
      · split at h
        · exact .inl (same h)
        · cases h
      · cases h
    · simp only [evOpt] at h
      split at h
      · exact .inl (same h)
      · cases h
  | makeSlice _ l c =>
    simp only [evOp, evMakeSlice, evBuildSlice] at h
    split at h
    · split at h
      · exact .inr ⟨_, same h⟩
      · cases h
    · cases h
  | makeFunc fn _ _ =>
    simp only [evOp, evMake] at h
    split at h
    · split at h
      · exact .inl (same h)
      · cases h
    · cases h
  | fieldAddr _ _ _ =>
    simp only [evOp, evPick, evAlloc, evOpt, evCond, evBuildSlice, evNil, evExtract, evBuiltin, evCall] at h
    split at h
    · exact .inl (same h)
    · cases h
  | field _ _ _ =>
    simp only [evOp, evPick, evAlloc, evOpt, evCond, evBuildSlice, evNil, evExtract, evBuiltin, evCall] at h
    split at h
    · exact .inl (same h)
    · cases h
  | indexAddr _ _ _ =>
    simp only [evOp, evPick, evAlloc, evOpt, evCond, evBuildSlice, evNil, evExtract, evBuiltin, evCall] at h
    split at h
    · obtain ⟨cs', h⟩ := foldr_opt _ _ h
      exact .inl (same h)
    · cases h
  | index _ _ _ =>
    simp only [evOp, evPick, evAlloc, evOpt, evCond, evBuildSlice, evNil, evExtract, evBuiltin, evCall] at h
    split at h
    · obtain ⟨cs', h⟩ := foldr_opt _ _ h
      exact .inl (same h)
    · cases h
  | _ => cases h
theorem evQ_ok {n₀ : Nat} {R : Type} {X : Ans P n₀ R} {T : Tab P} {all : List Oper} {cls : List (List Nat)} {m : Mem} : ∀ (l : List Oper) (i : Nat) (a : List Value) (sl : Slots) (k : List Value → Slots → R),
    X.holds (evQ X T all cls m i l a sl k) → ∃ ds a' sl', Qts P all cls m i l a sl ds a' sl' ∧ X.holds (k a' sl')
  | [], i, a, sl, k, h => by
    simp only [evQ, forceL_eq] at h
    exact ⟨[], a, sl, .nil i a sl, h⟩
  | o :: rest, i, a, sl, k, h => by
    simp only [evQ, forceV_eq] at h
    split at h
    case isFalse => exact absurd h X.fl_ok
    rename_i hlow
    have hlow' : ∀ t ∈ o.looksAt all.toArray, low (m.length + sl.length) (aeval a (.tmp t)) = true := fun t ht => List.all_eq_true.1 hlow t ht
    -- one operation
    have one : X.holds (match o.op with
      | .call ⟨.value f, args, _⟩ =>
        match rhoFor (o.looksAt all.toArray) a f with
        | .func (.func n) ⟨fs⟩ ⟨cs⟩ => if T.fn n then X.pcall n (fs ++ args.toList.map (rhoFor (o.looksAt all.toArray) a) ++ cs) (memFor (cls.getD i []) m sl) fun v nb => X.nd (match nb with | some b => b.rw | none => true) (evQ X T all cls m (i + 1) rest (putA a o.dst v) (sl ++ nb.toList.map fun b => (i, b)) k) else X.fl
        | _ => X.fl
      | op =>
        if quietOp op then
          match evOp optO T op (rhoFor (o.looksAt all.toArray) a) (memFor (cls.getD i []) m sl) (fun v m => some ([], v, m)) with
          | some (cs, v, m') =>
            match m'.drop (memFor (cls.getD i []) m sl).length with
            | [some b] => cs.foldr X.nd (X.nd b.rw (evQ X T all cls m (i + 1) rest (putA a o.dst v) (sl ++ (some b : Option ABlk).toList.map fun b => (i, b)) k))
            | _ => cs.foldr X.nd (X.nd true (evQ X T all cls m (i + 1) rest (putA a o.dst v) (sl ++ (none : Option ABlk).toList.map fun b => (i, b)) k))
          | none => X.fl
        else X.fl) →
        ∃ d : QD, (∀ b, d.nb = some b → b.rw = true) ∧ Quiet P o (rhoFor (o.looksAt all.toArray) a) (memFor (cls.getD i []) m sl) d ∧ X.holds (evQ X T all cls m (i + 1) rest (putA a o.dst d.v) (sl ++ d.nb.toList.map fun b => (i, b)) k) := by
      intro h
      split at h
      · rename_i f args ts hop
        split at h
        case h_2 => exact absurd h X.fl_ok
        rename_i n fs cs hf
        split at h
        case isFalse => exact absurd h X.fl_ok
        rename_i hfn
        obtain ⟨v, nb, hc, hk⟩ := X.pcall_ok _ _ _ _ h
        obtain ⟨hrw, hk⟩ := X.nd_ok _ _ hk
        exact ⟨⟨v, nb⟩, fun b hb => by have hb : nb = some b := hb; rw [hb] at hrw; exact hrw, Quiet.of_call hop hf hfn hc, hk⟩
      · split at h
        case isFalse => exact absurd h X.fl_ok
        rename_i hq
        split at h
        case h_2 => exact absurd h X.fl_ok
        rename_i cs v m' hev
        rcases quiet_mem hq hev with hm | ⟨b, hm⟩
        · have hd : m'.drop (memFor (cls.getD i []) m sl).length = [] := by rw [hm]; simp
          rw [hd] at h
          obtain ⟨hc, hk⟩ := foldr_nd _ _ h
          obtain ⟨_, hk⟩ := X.nd_ok _ _ hk
          refine ⟨⟨v, none⟩, fun b hb => (by cases hb), Quiet.of_ev (T := T) (cs := cs) ?_ hc, hk⟩
          rw [hev, hm]; simp
        · have hd : m'.drop (memFor (cls.getD i []) m sl).length = [some b] := by rw [hm]; simp
          rw [hd] at h
          obtain ⟨hc, hk⟩ := foldr_nd _ _ h
          obtain ⟨hrw, hk⟩ := X.nd_ok _ _ hk
          refine ⟨⟨v, some b⟩, fun b' hb => (by cases hb; exact hrw), Quiet.of_ev (T := T) (cs := cs) ?_ hc, hk⟩
          rw [hev, hm]; simp
    split at h
    · rename_i hg
      obtain ⟨d, hrw, hQ, hk⟩ := one h
      obtain ⟨ds, a', sl', hqs, hk'⟩ := evQ_ok rest _ _ _ k hk
      exact ⟨d :: ds, a', sl', .cons hrw ⟨hlow', by rw [hg]; exact hQ⟩ hqs, hk'⟩
    · rename_i j want hg
      split at h
      case h_2 => exact absurd h X.fl_ok
      rename_i b hb
      obtain ⟨h1, h2⟩ := X.br_ok _ _ _ h
      by_cases hbw : b = want
      · obtain ⟨d, hrw, hQ, hk⟩ := one (h1 (by simpa using hbw))
        obtain ⟨ds, a', sl', hqs, hk'⟩ := evQ_ok rest _ _ _ k hk
        exact ⟨d :: ds, a', sl', .cons hrw ⟨hlow', by rw [hg]; exact .inl ⟨b, hb, fun _ => hQ, fun h => absurd hbw h⟩⟩ hqs, hk'⟩
      · obtain ⟨_, h2⟩ := X.nd_ok _ _ (h2 (by simpa using hbw))
        obtain ⟨ds, a', sl', hqs, hk'⟩ := evQ_ok rest (i + 1) (putA a o.dst undef) (sl ++ (none : Option ABlk).toList.map fun b => (i, b)) k h2
        exact ⟨⟨undef, none⟩ :: ds, a', sl', .cons (d := ⟨undef, none⟩) (fun b hb => by cases hb) ⟨hlow', by rw [hg]; exact .inl ⟨b, hb, fun h => absurd h hbw, fun _ => rfl⟩⟩ hqs, hk'⟩
end Go.AE
end
section
namespace Go.AE
variable {P : Program}
structure RD where
  all : List Oper
  cls : List (List Nat)
  q : Nat
  m : Mem
  a : List Value
  fr : Nat → List Value
  sl : Nat → Slots
  d : Nat → QD
def RD.dst (r : RD) (k : Nat) : Option Tmp := (r.all[k]?).bind (·.dst)
structure RDOK (P : Program) (r : RD) : Prop where
  le : r.q ≤ r.all.length
  fr0 : r.fr 0 = r.a
  sl0 : r.sl 0 = []
  step : ∀ i o, i < r.q → r.all[i]? = some o → (∀ b, (r.d i).nb = some b → b.rw = true) ∧ QtOK P r.all (r.cls.getD i []) r.m o (r.fr i) (r.sl i) (r.d i) ∧
    r.fr (i + 1) = putA (r.fr i) o.dst (r.d i).v ∧ r.sl (i + 1) = r.sl i ++ (r.d i).nb.toList.map fun b => (i, b)
  early : ∀ i o, r.all[i]? = some o → ∀ j ∈ waits o, j < i
  cl : ∀ i o, r.all[i]? = some o → ∀ x ∈ r.cls.getD i [], x ∈ waits o ∨ ∃ j ∈ waits o, x ∈ r.cls.getD j []
  tail : ∀ i j, r.q ≤ i → i < r.all.length → j < i → j ∈ r.cls.getD i []
  dsts : ∀ i k t, i < r.q → k < r.q → i ≠ k → r.dst k = some t → r.dst i ≠ some t
  looks : ∀ i k oi ok t, i < r.q → k < r.q → i ≠ k → r.all[i]? = some oi → r.all[k]? = some ok → ok.dst = some t → t ∈ oi.looksAt r.all.toArray → (k < i ∧ k ∈ waits oi) ∨ (i < k ∧ i ∈ waits ok)
def RD.frE (r : RD) (E : Nat → Bool) : List Value :=
  (List.range r.a.length).map fun t => match (List.range r.q).find? (fun k => E k && r.dst k == some t) with
    | some k => (r.d k).v
    | none => (r.a[t]?).getD undef
def RD.mE (r : RD) (E : Nat → Bool) : Mem := r.m ++ (r.sl r.q).map fun p => if E p.1 then some p.2 else none
theorem find_congr {p p' : Nat → Bool} {n : Nat} (h : ∀ k, k < n → p k = p' k) : (List.range n).find? p = (List.range n).find? p' := by
  have : ∀ l : List Nat, (∀ k ∈ l, p k = p' k) → l.find? p = l.find? p' := by
    intro l
    induction l with
    | nil => intro _; rfl
    | cons x l ih =>
      intro hl
      rw [List.find?_cons, List.find?_cons, hl x (by simp), ih fun k hk => hl k (by simp [hk])]
  exact this _ fun k hk => h k (List.mem_range.1 hk)
theorem find_unique {p : Nat → Bool} {n i : Nat} (hi : i < n) (hp : p i = true) (h : ∀ k, k < n → p k = true → k = i) : (List.range n).find? p = some i := by
  cases hf : (List.range n).find? p with
  | none =>
    have := List.find?_eq_none.1 hf i (List.mem_range.2 hi)
    exact absurd hp this
  | some k =>
    have h1 := List.find?_some hf
    have h2 := List.mem_of_find?_eq_some hf
    rw [h k (List.mem_range.1 h2) h1]
variable {r : RD} {G₀ : List (Option GB)}
theorem RD.frE_get (r : RD) (E : Nat → Bool) (t : Nat) : (r.frE E)[t]? = if t < r.a.length then some (match (List.range r.q).find? (fun k => E k && r.dst k == some t) with
    | some k => (r.d k).v
    | none => (r.a[t]?).getD undef) else none := by
  unfold RD.frE
  rw [List.getElem?_map]
  split
  · rename_i h; rw [List.getElem?_range h]; rfl
  · rename_i h; rw [List.getElem?_eq_none (by simpa using Nat.le_of_not_lt h)]; rfl
theorem RD.frE_congr (r : RD) {E E' : Nat → Bool} (h : ∀ k, k < r.q → E k = E' k) : r.frE E = r.frE E' := by
  apply List.ext_getElem?
  intro t
  rw [r.frE_get, r.frE_get, find_congr (p' := fun k => E' k && r.dst k == some t)]
  intro k hk
  rw [h k hk]
theorem RD.frE_put (h : RDOK P r) {E : Nat → Bool} {i : Nat} (hi : i < r.q) (hE : E i = false) : r.frE (fun k => E k || k == i) = putA (r.frE E) (r.dst i) (r.d i).v := by
  apply List.ext_getElem?
  intro t
  rw [r.frE_get]
  have other : r.dst i ≠ some t → (List.range r.q).find? (fun k => (E k || k == i) && r.dst k == some t) = (List.range r.q).find? (fun k => E k && r.dst k == some t) := by
    intro hne
    apply find_congr
    intro k hk
    by_cases hki : k = i
    · subst hki
      have : (r.dst k == some t) = false := by simpa using hne
      rw [this]; simp
    · have : (k == i) = false := by simpa using hki
      rw [this]; simp
  cases hd : r.dst i with
  | none =>
    simp only [putA]
    rw [r.frE_get, other (by rw [hd]; simp)]
  | some u =>
    simp only [putA]
    rw [List.getElem?_set, r.frE_get]
    by_cases hut : u = t
    · subst hut
      rw [if_pos rfl]
      have hl : (r.frE E).length = r.a.length := by simp [RD.frE]
      rw [hl]
      have hf : (List.range r.q).find? (fun k => (E k || k == i) && r.dst k == some u) = some i := by
        refine find_unique hi (by simp [hd]) ?_
        intro k hk hp
        rcases Classical.em (k = i) with hki | hki
        · exact hki
        · exfalso
          simp only [Bool.and_eq_true, beq_iff_eq] at hp
          exact h.dsts k i u hk hi hki hd hp.2
      rw [hf]
    · rw [if_neg hut, other (by rw [hd]; simpa using hut)]
theorem RD.fr_lex (h : RDOK P r) : ∀ i, i ≤ r.q → r.fr i = r.frE (fun k => decide (k < i))
  | 0, _ => by
    rw [h.fr0]
    apply List.ext_getElem?
    intro t
    rw [r.frE_get]
    have : (List.range r.q).find? (fun k => decide (k < 0) && r.dst k == some t) = none := by
      rw [List.find?_eq_none]; intro k _; simp
    rw [this]
    split
    · rename_i hl; rw [List.getElem?_eq_getElem hl]; rfl
    · rename_i hl; exact List.getElem?_eq_none (Nat.le_of_not_lt hl)
  | i + 1, hi => by
    have hil : i < r.all.length := by have := h.le; omega
    obtain ⟨_, _, hf, _⟩ := h.step i r.all[i] (by omega) (List.getElem?_eq_getElem hil)
    rw [hf, RD.fr_lex h i (by omega)]
    have hd : r.dst i = r.all[i].dst := by simp [RD.dst, List.getElem?_eq_getElem hil]
    rw [← hd, ← RD.frE_put h (by omega) (by simp)]
    apply r.frE_congr
    intro k hk
    by_cases h1 : k < i
    · simp [h1]; omega
    · by_cases h2 : k = i
      · simp [h2]
      · have : ¬ k < i + 1 := by omega
        simp [h1, h2, this]
theorem RD.sl_prefix (h : RDOK P r) : ∀ n i, i + n ≤ r.q → ∃ more : Slots, r.sl (i + n) = r.sl i ++ more ∧ ∀ p ∈ more, i ≤ p.1 ∧ p.1 < i + n
  | 0, i, _ => ⟨[], by simp, by simp⟩
  | n + 1, i, hi => by
    obtain ⟨more, hm, hp⟩ := RD.sl_prefix h n i (by omega)
    have hil : i + n < r.all.length := by have := h.le; omega
    obtain ⟨_, _, _, hs⟩ := h.step (i + n) r.all[i + n] (by omega) (List.getElem?_eq_getElem hil)
    refine ⟨more ++ (r.d (i + n)).nb.toList.map fun b => (i + n, b), by rw [← Nat.add_assoc, hs, hm, List.append_assoc], ?_⟩
    intro p hp'
    rcases List.mem_append.1 hp' with hp' | hp'
    · have := hp p hp'; omega
    · obtain ⟨b, _, rfl⟩ := List.mem_map.1 hp'
      simp only; omega
theorem RD.sl_low (h : RDOK P r) {i : Nat} (hi : i ≤ r.q) : ∀ p ∈ r.sl i, p.1 < i := by
  obtain ⟨more, hm, hp⟩ := RD.sl_prefix h i 0 (by omega)
  rw [Nat.zero_add, h.sl0, List.nil_append] at hm
  intro p hp'
  rw [hm] at hp'
  have := hp p hp'
  omega
theorem RD.sl_split (h : RDOK P r) {i : Nat} (hi : i < r.q) : ∃ more : Slots, r.sl r.q = r.sl i ++ ((r.d i).nb.toList.map fun b => (i, b)) ++ more ∧ ∀ p ∈ more, i < p.1 := by
  obtain ⟨more, hm, hp⟩ := RD.sl_prefix h (r.q - (i + 1)) (i + 1) (by omega)
  rw [show i + 1 + (r.q - (i + 1)) = r.q from by omega] at hm
  have hil : i < r.all.length := by have := h.le; omega
  obtain ⟨_, _, _, hs⟩ := h.step i r.all[i] hi (List.getElem?_eq_getElem hil)
  rw [hs] at hm
  exact ⟨more, hm, fun p hp' => by have := hp p hp'; omega⟩
def RD.id (r : RD) (i : Nat) : Nat := r.m.length + (r.sl i).length
theorem RD.mE_length (r : RD) (E : Nat → Bool) : (r.mE E).length = r.m.length + (r.sl r.q).length := by simp [RD.mE]
theorem RD.mE_none (h : RDOK P r) {E : Nat → Bool} {i : Nat} (hi : i < r.q) (hn : (r.d i).nb = none) : r.mE (fun k => E k || k == i) = r.mE E := by
  obtain ⟨more, hm, hp⟩ := RD.sl_split h hi
  rw [hn] at hm
  simp only [Option.toList_none, List.map_nil, List.append_nil] at hm
  unfold RD.mE
  congr 1
  apply List.map_congr_left
  intro p hp'
  have hne : p.1 ≠ i := by
    rw [hm] at hp'
    rcases List.mem_append.1 hp' with h1 | h1
    · have := RD.sl_low h (Nat.le_of_lt hi) p h1; omega
    · have := hp p h1; omega
  simp [hne]
theorem RD.mE_some (h : RDOK P r) {E : Nat → Bool} {i : Nat} (hi : i < r.q) (hE : E i = false) {b : ABlk} (hb : (r.d i).nb = some b) :
    r.id i < (r.mE E).length ∧ (r.mE E)[r.id i]? = some none ∧ r.mE (fun k => E k || k == i) = (r.mE E).set (r.id i) (some b) := by
  obtain ⟨more, hm, hp⟩ := RD.sl_split h hi
  rw [hb] at hm
  simp only [Option.toList_some, List.map_cons, List.map_nil] at hm
  have e0 : r.mE E = (r.m ++ (r.sl i).map fun p => if E p.1 then some p.2 else none) ++ none :: more.map fun p => if E p.1 then some p.2 else none := by
    unfold RD.mE
    rw [hm]
    simp [hE]
  have e1 : r.mE (fun k => E k || k == i) = (r.m ++ (r.sl i).map fun p => if E p.1 then some p.2 else none) ++ some b :: more.map fun p => if E p.1 then some p.2 else none := by
    unfold RD.mE
    rw [hm]
    simp only [List.map_append, List.map_cons, List.append_assoc, List.singleton_append, beq_self_eq_true, Bool.or_true, if_true]
    congr 1
    have g1 : ∀ p ∈ r.sl i, (if (E p.1 || p.1 == i) = true then some p.2 else none) = if E p.1 = true then some p.2 else none := by
      intro p hp'
      have := RD.sl_low h (Nat.le_of_lt hi) p hp'
      have : (p.1 == i) = false := by simpa using Nat.ne_of_lt this
      rw [this]; simp
    have g2 : ∀ p ∈ more, (if (E p.1 || p.1 == i) = true then some p.2 else none) = if E p.1 = true then some p.2 else none := by
      intro p hp'
      have := hp p hp'
      have : (p.1 == i) = false := by simpa using Nat.ne_of_gt this
      rw [this]; simp
    rw [List.map_congr_left g1, List.map_congr_left g2]
  have hl : (r.m ++ (r.sl i).map fun p => if E p.1 then some p.2 else none).length = r.id i := by simp [RD.id]
  refine ⟨by rw [e0]; simp [RD.id], ?_, ?_⟩
  · rw [e0, List.getElem?_append_right (by rw [hl]; exact Nat.le_refl _), hl]; simp
  · rw [e1, e0, List.set_append_right _ _ (by rw [hl]; exact Nat.le_refl _), hl]; simp
theorem SR0.low00 {g : List (Option GB)} {v w : Value} (h : SR0 g v w) : AE.low00 g.length v = true := by
  cases h with
  | ptr j off gb hg => simpa [AE.low00] using lt_of_getElem? hg
  | slice j off len cap gb hg => simpa [AE.low00] using lt_of_getElem? hg
  | bool => rfl
  | int => rfl
  | str => rfl
  | ptr0 => rfl
  | slice0 => rfl
  | func => rfl
  | nilS j off _ hj => simpa [AE.low00] using hj
theorem F2.low00 {g : List (Option GB)} {l l' : List Value} (h : F2 (SR0 g) l l') : l.all (AE.low00 g.length) = true := by
  induction h with
  | nil => rfl
  | cons hr _ ih => simp only [List.all_cons, Bool.and_eq_true]; exact ⟨hr.low00, ih⟩
theorem AR0.low01 {g : List (Option GB)} {v w : Value} (h : AR0 g v w) : AE.low01 g.length v = true := by
  cases h with
  | s h =>
    have := h.scalarL
    have h' := h.low00
    cases v <;> first | exact h' | cases this
  | agg h => exact h.low00
theorem F2.low01 {g : List (Option GB)} {l l' : List Value} (h : F2 (AR0 g) l l') : l.all (AE.low01 g.length) = true := by
  induction h with
  | nil => rfl
  | cons hr _ ih => simp only [List.all_cons, Bool.and_eq_true]; exact ⟨hr.low01, ih⟩
theorem SR.lowS {g : List (Option GB)} {v w : Value} (h : SR g v w) : AE.lowS g.length v = true := by
  cases h with
  | ptr j off gb hg => simpa [AE.lowS] using lt_of_getElem? hg
  | slice j off len cap gb hg => simpa [AE.lowS] using lt_of_getElem? hg
  | top => rfl
  | bool => rfl
  | int => rfl
  | str => rfl
  | ptr0 => rfl
  | slice0 => rfl
  | nilFunc => rfl
  | nilIface => rfl
  | func => rfl
  | nilS j off _ hj => simpa [AE.lowS] using hj
  | clo fn hf hc => simp only [AE.lowS, Bool.and_eq_true]; exact ⟨hf.low01, hc.low01⟩
theorem F2.lowS {g : List (Option GB)} {l l' : List Value} (h : F2 (SR g) l l') : l.all (AE.lowS g.length) = true := by
  induction h with
  | nil => rfl
  | cons hr _ ih => simp only [List.all_cons, Bool.and_eq_true]; exact ⟨hr.lowS, ih⟩
theorem low00_le {n n' : Nat} (h : n ≤ n') {v : Value} (hl : AE.low00 n v = true) : AE.low00 n' v = true := by
  unfold AE.low00 at *
  split at hl <;> simp_all <;> omega
theorem low01_le {n n' : Nat} (h : n ≤ n') {v : Value} (hl : AE.low01 n v = true) : AE.low01 n' v = true := by
  unfold AE.low01 at *
  split at hl
  · exact List.all_eq_true.2 fun v hv => low00_le h (List.all_eq_true.1 hl v hv)
  · exact low00_le h hl
theorem lowS_le {n n' : Nat} (h : n ≤ n') {v : Value} (hl : AE.lowS n v = true) : AE.lowS n' v = true := by
  unfold AE.lowS at *
  split at hl
  · simp_all; omega
  · simp_all; omega
  · simp only [Bool.and_eq_true] at hl ⊢
    exact ⟨List.all_eq_true.2 fun v hv => low01_le h (List.all_eq_true.1 hl.1 v hv), List.all_eq_true.2 fun v hv => low01_le h (List.all_eq_true.1 hl.2 v hv)⟩
  · rfl
theorem all_lowS_le {n n' : Nat} (h : n ≤ n') {l : List Value} (hl : l.all (AE.lowS n) = true) : l.all (AE.lowS n') = true :=
  List.all_eq_true.2 fun v hv => lowS_le h (List.all_eq_true.1 hl v hv)
structure RSt (P : Program) (r : RD) (c : Ctx) (G₀ : List (Option GB)) (E : Nat → Bool) (G : List (Option GB)) (A : Act) (W : World) : Prop where
  rel : Rel P c G (r.mE E) W
  frm : ARel G (r.frE E) A
  base : ∀ j, j < r.m.length → G[j]? = G₀[j]?
  none_ : ∀ i b, i < r.q → E i = false → (r.d i).nb = some b → G[r.id i]? = some none
  low : ∀ (j : Nat) (b : ABlk) (gb : GB), (r.mE E)[j]? = some (some b) → G[j]? = some (some gb) → b.cells.all (AE.lowS (max r.m.length (j + 1))) = true
theorem Gle.refl (g : List (Option GB)) : Gle g g := ⟨fun _ _ h => h, Nat.le_refl _⟩
theorem Gle.set {g : List (Option GB)} {i : Nat} (h : g[i]? = some none) (x : Option GB) : Gle g (g.set i x) := by
  refine ⟨?_, by simp⟩
  intro j gb hj
  rw [List.getElem?_set]
  split
  · rename_i e; subst e; rw [h] at hj; simp at hj
  · exact hj
theorem Gle.take (g : List (Option GB)) (n : Nat) : Gle (g.take n) g := by
  refine ⟨?_, by simp; omega⟩
  intro j gb hj
  rw [List.getElem?_take] at hj
  split at hj
  · exact hj
  · cases hj
theorem Gle.take_set {g : List (Option GB)} {n : Nat} (x : Option GB) (hn : n < g.length) : Gle (g.take n ++ [x]) (g.set n x) := by
  refine ⟨?_, by simp; omega⟩
  intro j gb hj
  have hl : (g.take n).length = n := by simp; omega
  rcases Nat.lt_trichotomy j n with h | h | h
  · rw [List.getElem?_append_left (by rw [hl]; exact h), getElem?_take_of_lt h] at hj
    rw [List.getElem?_set, if_neg (by omega)]; exact hj
  · subst h
    rw [List.getElem?_append_right (by rw [hl]; exact Nat.le_refl _), hl] at hj
    rw [List.getElem?_set, if_pos rfl, if_pos hn]
    simpa using hj
  · rw [List.getElem?_eq_none (by simp; omega)] at hj; cases hj
theorem contains_iff {l : List Nat} {x : Nat} : l.contains x = true ↔ x ∈ l := by simp
theorem RSt.view {c : Ctx} {E : Nat → Bool} {G : List (Option GB)} {A : Act} {W : World} (h : RDOK P r) (s : RSt P r c G₀ E G A W) {i : Nat} (hi : i < r.q) (hcl : ∀ j ∈ r.cls.getD i [], E j = true) :
    Rel P (quietC W s.rel.good) (G.take (r.id i)) (memFor (r.cls.getD i []) r.m (r.sl i)) W := by
  obtain ⟨more, hm, _⟩ := RD.sl_split h hi
  have hlen : r.id i ≤ G.length := by
    rw [s.rel.len, r.mE_length, hm]; simp [RD.id]
  have see : ∀ (j : Nat) (b : ABlk), (memFor (r.cls.getD i []) r.m (r.sl i))[j]? = some (some b) → j < r.id i ∧ ∃ b0, b = roBlk b0 ∧ (r.mE E)[j]? = some (some b0) := by
    intro j b hj
    have hjl := lt_of_getElem? hj
    have hml : (memFor (r.cls.getD i []) r.m (r.sl i)).length = r.id i := by simp [memFor, roM, RD.id]
    rw [hml] at hjl
    refine ⟨hjl, ?_⟩
    unfold memFor at hj
    have hrl : (roM r.m).length = r.m.length := by simp [roM]
    rcases Nat.lt_or_ge j r.m.length with hlt | hge
    · rw [List.getElem?_append_left (by rw [hrl]; exact hlt)] at hj
      unfold roM at hj
      rw [List.getElem?_map, List.getElem?_eq_getElem hlt] at hj
      simp only [Option.map_some, Option.some.injEq] at hj
      cases hb0 : r.m[j] with
      | none => rw [hb0] at hj; cases hj
      | some b0 =>
        rw [hb0] at hj
        simp only [Option.map_some, Option.some.injEq] at hj
        refine ⟨b0, hj.symm, ?_⟩
        unfold RD.mE
        rw [List.getElem?_append_left hlt, List.getElem?_eq_getElem hlt, hb0]
    · rw [List.getElem?_append_right (by rw [hrl]; exact hge), hrl, List.getElem?_map] at hj
      cases hp : (r.sl i)[j - r.m.length]? with
      | none => rw [hp] at hj; cases hj
      | some p =>
        rw [hp] at hj
        simp only [Option.map_some, Option.some.injEq] at hj
        split at hj
        case isFalse => cases hj
        rename_i hc
        simp only [Option.some.injEq] at hj
        refine ⟨p.2, hj.symm, ?_⟩
        unfold RD.mE
        rw [List.getElem?_append_right hge, hm, List.getElem?_map, List.append_assoc, List.getElem?_append_left (lt_of_getElem? hp), hp]
        simp [hcl p.1 (contains_iff.1 hc)]
  refine ⟨?_, ?_, ?_, fun _ _ _ => rfl, Nat.le_refl _, rfl, rfl, rfl, Objs.no (fun j b _ hj _ => by obtain ⟨_, b0, rfl, _⟩ := see j b hj; rfl) (quietC W s.rel.good).rr, ?_⟩
  rotate_right
  · intro j b gb hj hg _ _
    obtain ⟨hjl, b0, rfl, hb0⟩ := see j b hj
    rw [getElem?_take_of_lt hjl] at hg
    obtain ⟨cs, fr, hh, _⟩ := s.rel.blk j b0 gb hb0 hg
    show gb.b < W.heap.size
    rcases Nat.lt_or_ge gb.b W.heap.size with h' | h'
    · exact h'
    · rw [Array.getElem?_eq_none h'] at hh; cases hh
  · rw [List.length_take, Nat.min_eq_left hlen]; simp [memFor, roM, RD.id]
  · intro j b gb hj hg
    obtain ⟨hjl, b0, rfl, hb0⟩ := see j b hj
    rw [getElem?_take_of_lt hjl] at hg
    obtain ⟨cs, fr, hh, hf, hsz, _, hex⟩ := s.rel.blk j b0 gb hb0 hg
    refine ⟨cs, fr, hh, ?_, hsz, fun h => (by cases h), hex⟩
    have hlow := s.low j b0 gb hb0 hg
    have hid : max r.m.length (j + 1) ≤ r.id i := by simp only [RD.id] at hjl ⊢; omega
    exact F2.low (p := AE.lowS (r.id i)) (fun v w hr hp => SR.low hr hp) hf (all_lowS_le hid hlow)
  · intro p q bp bq gp gq _ hp _ hrw
    obtain ⟨_, b0, rfl, _⟩ := see p bp hp
    cases hrw
theorem RD.same_looks (h : RDOK P r) {E : Nat → Bool} {i : Nat} {o : Oper} (hi : i < r.q) (ho : r.all[i]? = some o) (hE : E i = false) (hready : ∀ j ∈ waits o, E j = true) (hclosed : ∀ k ok, E k = true → r.all[k]? = some ok → ∀ j ∈ waits ok, E j = true)
    {t : Tmp} (ht : t ∈ o.looksAt r.all.toArray) : (r.frE E)[t]? = (r.fr i)[t]? := by
  rw [RD.fr_lex h i (Nat.le_of_lt hi), r.frE_get, r.frE_get]
  have : (List.range r.q).find? (fun k => E k && r.dst k == some t) = (List.range r.q).find? (fun k => decide (k < i) && r.dst k == some t) := by
    apply find_congr
    intro k hk
    cases hd : (r.dst k == some t) with
    | false => simp
    | true =>
      simp only [Bool.and_true]
      have hd : r.dst k = some t := by simpa using hd
      by_cases hki : k = i
      · subst hki; rw [hE]; simp
      · have hkl : k < r.all.length := by have := h.le; omega
        have hok : r.all[k]? = some r.all[k] := List.getElem?_eq_getElem hkl
        have hdk : r.all[k].dst = some t := by simpa [RD.dst, hok] using hd
        rcases h.looks i k o r.all[k] t hi hk (fun e => hki e.symm) ho hok hdk ht with ⟨h1, h2⟩ | ⟨h1, h2⟩
        · rw [hready k h2]; simp [h1]
        · have : E k = false := by
            cases hEk : E k with
            | false => rfl
            | true =>
              have := hclosed k r.all[k] hEk hok i h2
              rw [hE] at this; cases this
          rw [this]
          have : ¬ k < i := by omega
          simp [this]
  rw [this]
end Go.AE
end
section
namespace Go.AE
variable {P : Program} {r : RD} {G₀ : List (Option GB)}
theorem RSt.next {c : Ctx} {E : Nat → Bool} {G : List (Option GB)} {A : Act} {W W' : World} (h : RDOK P r) (s : RSt P r c G₀ E G A W) {i : Nat} {o : Oper} (hi : i < r.q) (ho : r.all[i]? = some o) (hE : E i = false) {w : Value}
    (hf : QFin P (G.take (r.id i)) (memFor (r.cls.getD i []) r.m (r.sl i)) W (r.d i) w W') (hrw : ∀ b, (r.d i).nb = some b → b.rw = true) : ∃ G', RSt P r c G₀ (fun k => E k || k == i) G' (A.put o.dst w) W' := by
  obtain ⟨g', gd, hr', hv⟩ := hf
  have hdst : r.dst i = o.dst := by simp [RD.dst, ho]
  have hold : ∀ k, k < W.heap.size → W'.heap[k]? = W.heap[k]? := fun k hk => hr'.frame k hk (fun h => h)
  have still : Rel P c G (r.mE E) W' := s.rel.still hold hr'.size hr'.os hr'.tape hr'.output
  obtain ⟨more, hm, _⟩ := RD.sl_split h hi
  have hidl : r.id i ≤ G.length := by rw [s.rel.len, r.mE_length, hm]; simp [RD.id]
  have htl : (G.take (r.id i)).length = r.id i := by rw [List.length_take, Nat.min_eq_left hidl]
  have hml : (memFor (r.cls.getD i []) r.m (r.sl i)).length = r.id i := by simp [memFor, roM, RD.id]
  cases hnb : (r.d i).nb with
  | none =>
    rw [hnb] at hr'
    have hg' : g' = [] := by
      have := hr'.len
      simp only [List.length_append, htl, hml, Option.toList_none, List.map_nil, List.length_nil] at this
      exact List.length_eq_zero_iff.1 (by omega)
    subst hg'
    rw [List.append_nil] at hv
    refine ⟨G, ?_, ?_, s.base, ?_, ?_⟩
    · rw [RD.mE_none h hi hnb]; exact still
    · rw [RD.frE_put h hi hE, hdst]; exact s.frm.putA o.dst (hv.gle (Gle.take _ _))
    · intro k b hk hEk hb
      simp only [Bool.or_eq_false_iff] at hEk
      exact s.none_ k b hk hEk.1 hb
    · intro j b gb hj hg
      rw [RD.mE_none h hi hnb] at hj
      exact s.low j b gb hj hg
  | some b =>
    rw [hnb] at hr'
    have hg' : ∃ x, g' = [x] := by
      have := hr'.len
      simp only [List.length_append, htl, hml, Option.toList_some, List.map_cons, List.map_nil, List.length_cons, List.length_nil] at this
      exact List.length_eq_one_iff.1 (by omega)
    obtain ⟨x, rfl⟩ := hg'
    obtain ⟨hlt, hnone, hset⟩ := RD.mE_some h hi hE hnb
    have hidG : r.id i < G.length := by rw [s.rel.len]; exact hlt
    have hGn : G[r.id i]? = some none := s.none_ i b hi hE hnb
    have hle : Gle G (G.set (r.id i) x) := Gle.set hGn x
    have hle2 : Gle (G.take (r.id i) ++ [x]) (G.set (r.id i) x) := Gle.take_set x hidG
    have hbrw := hrw b hnb
    have hlast : (memFor (r.cls.getD i []) r.m (r.sl i) ++ (some b : Option ABlk).toList.map some)[r.id i]? = some (some b) := by
      rw [List.getElem?_append_right (by rw [hml]; exact Nat.le_refl _), hml]; simp
    have hlastg : (G.take (r.id i) ++ [x])[r.id i]? = some x := by
      rw [List.getElem?_append_right (by rw [htl]; exact Nat.le_refl _), htl]; simp
    have newb : ∀ gb, x = some gb → ∃ (cs : Array Value) (fr : TypeId × (Nat × Nat)), W'.heap[gb.b]? = some (.cells cs fr.1 fr.2) ∧ F2 (SR (G.take (r.id i) ++ [x])) b.cells ((cs.toList.drop gb.base).take b.cells.length) ∧ gb.base + b.cells.length ≤ cs.size ∧
        (fr = (b.elem, (0, 0)) ∧ W.heap.size ≤ gb.b ∧ gb.base = 0 ∧ b.cells.length + gb.extra * P.cellsOf b.elem ≤ cs.size) ∧ (b.ex = true → gb.extra = 0) := by
      intro gb hx
      obtain ⟨cs, fr, hh, hf, hsz, hown, hex⟩ := hr'.blk (r.id i) b gb hlast (by rw [hlastg, hx])
      obtain ⟨h1, h2, h3, h4⟩ := hown hbrw
      exact ⟨cs, fr, hh, hf, hsz, ⟨h1, h2.resolve_right (fun h => h), h3, h4⟩, hex⟩
    have oldb : ∀ (j : Nat) (bj : ABlk) (gj : GB), (r.mE E)[j]? = some (some bj) → G[j]? = some (some gj) → gj.b < W.heap.size := by
      intro j bj gj hj hgj
      obtain ⟨cs, fr, hh, _⟩ := s.rel.blk j bj gj hj hgj
      rcases Nat.lt_or_ge gj.b W.heap.size with h' | h'
      · exact h'
      · rw [Array.getElem?_eq_none h'] at hh; cases hh
    have split : ∀ (j : Nat) (bj : ABlk) (gj : GB), ((r.mE E).set (r.id i) (some b))[j]? = some (some bj) → (G.set (r.id i) x)[j]? = some (some gj) →
        (j ≠ r.id i ∧ (r.mE E)[j]? = some (some bj) ∧ G[j]? = some (some gj)) ∨ (j = r.id i ∧ bj = b ∧ x = some gj) := by
      intro j bj gj hj hgj
      by_cases e : r.id i = j
      · rw [List.getElem?_set, if_pos e, if_pos hlt] at hj
        rw [List.getElem?_set, if_pos e, if_pos hidG] at hgj
        simp only [Option.some.injEq] at hj hgj
        exact .inr ⟨e.symm, hj.symm, hgj⟩
      · rw [List.getElem?_set, if_neg e] at hj hgj
        exact .inl ⟨fun h => e h.symm, hj, hgj⟩
    refine ⟨G.set (r.id i) x, ?_, ?_, fun j hj => by rw [List.getElem?_set, if_neg (by simp only [RD.id]; omega)]; exact s.base j hj, ?_, ?_⟩
    · rw [hset]
      refine ⟨by simp [still.len], ?_, ?_, still.frame, still.size, still.os, still.tape, still.output, ?_, ?_⟩
      rotate_right
      · intro j bj gj hj hgj h1 h2
        rcases split j bj gj hj hgj with ⟨_, hj, hgj⟩ | ⟨rfl, rfl, hx⟩
        · exact still.ro j bj gj hj hgj h1 h2
        · rw [hbrw] at h1; cases h1
      rotate_right
      · refine s.rel.objs.keep s.rel.size hr'.size ?_ fun k hk => .inl (hold k hk)
        intro j bj gj hj hgj
        rcases split j bj gj hj hgj with ⟨_, hj, hgj⟩ | ⟨rfl, rfl, hx⟩
        · exact .inl ⟨bj, hj, rfl, rfl, hgj⟩
        · obtain ⟨cs, fr, hh, hf, hsz, ⟨h1, h2, h3, h4⟩, hex⟩ := newb gj hx
          exact .inr ⟨hr'.noOb hlast (by rw [hlastg, hx]) hbrw, .inl h2⟩
      · intro j bj gj hj hgj
        rcases split j bj gj hj hgj with ⟨_, hj, hgj⟩ | ⟨rfl, rfl, hx⟩
        · obtain ⟨cs, fr, hh, hf, rest⟩ := still.blk j bj gj hj hgj
          exact ⟨cs, fr, hh, hf.imp fun _ _ h => h.gle hle, rest⟩
        · obtain ⟨cs, fr, hh, hf, hsz, ⟨h1, h2, h3, h4⟩, hex⟩ := newb gj hx
          exact ⟨cs, fr, hh, hf.imp fun _ _ h => h.gle hle2, hsz, fun _ => ⟨h1, .inl (Nat.le_trans s.rel.size h2), h3, h4⟩, hex⟩
      · intro p q bp bq gp gq hne hp hq hrwp hgp hgq
        rcases split p bp gp hp hgp with ⟨np, hp2, hgp2⟩ | ⟨ep, ebp, hx⟩ <;> rcases split q bq gq hq hgq with ⟨nq, hq2, hgq2⟩ | ⟨eq, ebq, hx'⟩
        · exact still.inj p q bp bq gp gq hne hp2 hq2 hrwp hgp2 hgq2
        · obtain ⟨_, _, _, _, _, ⟨_, h2, _⟩, _⟩ := newb gq hx'
          have := oldb p bp gp hp2 hgp2
          omega
        · obtain ⟨_, _, _, _, _, ⟨_, h2, _⟩, _⟩ := newb gp hx
          have := oldb q bq gq hq2 hgq2
          omega
        · exact absurd (ep.trans eq.symm) hne
    · rw [RD.frE_put h hi hE, hdst]
      exact ARel.putA ⟨s.frm.tmps.imp fun _ _ h => h.gle hle, s.frm.defers⟩ o.dst (hv.gle hle2)
    · intro k bk hk hEk hb
      simp only [Bool.or_eq_false_iff, beq_eq_false_iff_ne] at hEk
      have h1 := s.none_ k bk hk hEk.1 hb
      rw [List.getElem?_set, if_neg]
      · exact h1
      · intro e
        -- two new blocks never share a place
        have lt_id : ∀ p q, p < q → q < r.q → ∀ bb, (r.d p).nb = some bb → r.id p < r.id q := by
          intro p q hpq hq bb hbb
          obtain ⟨more, hm, _⟩ := RD.sl_prefix h (q - (p + 1)) (p + 1) (by omega)
          rw [show p + 1 + (q - (p + 1)) = q from by omega] at hm
          have hpl : p < r.all.length := by have := h.le; omega
          obtain ⟨_, _, _, hs⟩ := h.step p r.all[p] (by omega) (List.getElem?_eq_getElem hpl)
          rw [hs, hbb] at hm
          simp only [RD.id, hm]
          simp
        rcases Nat.lt_trichotomy i k with hl | hl | hl
        · have := lt_id i k hl hk b hnb; omega
        · exact hEk.2 hl.symm
        · have := lt_id k i hl hi bk hb; omega
    · intro j bj gj hj hgj
      rw [hset] at hj
      rcases split j bj gj hj hgj with ⟨_, hj2, hgj2⟩ | ⟨rfl, rfl, hx⟩
      · exact s.low j bj gj hj2 hgj2
      · obtain ⟨cs, fr, hh, hf, _⟩ := newb gj hx
        have := hf.lowS
        rw [List.length_append, htl] at this
        refine all_lowS_le ?_ this
        simp; omega
def cnt (E : Nat → Bool) (n : Nat) : Nat := ((List.range n).filter E).length
theorem cnt_succ (E : Nat → Bool) (n : Nat) : cnt E (n + 1) = cnt E n + if E n then 1 else 0 := by
  unfold cnt
  rw [List.range_succ, List.filter_append]
  cases h : E n <;> simp [h]
theorem cnt_le (E : Nat → Bool) : ∀ n, cnt E n ≤ n
  | 0 => by simp [cnt]
  | n + 1 => by rw [cnt_succ]; have := cnt_le E n; split <;> omega
theorem cnt_congr {E E' : Nat → Bool} : ∀ {n : Nat}, (∀ k, k < n → E k = E' k) → cnt E n = cnt E' n
  | 0, _ => rfl
  | n + 1, h => by rw [cnt_succ, cnt_succ, cnt_congr fun k hk => h k (by omega), h n (by omega)]
theorem cnt_or {E : Nat → Bool} {i : Nat} (hE : E i = false) : ∀ {n : Nat}, i < n → cnt (fun k => E k || k == i) n = cnt E n + 1
  | 0, h => by omega
  | n + 1, h => by
    rw [cnt_succ, cnt_succ]
    by_cases hn : i = n
    · subst hn
      have : cnt (fun k => E k || k == i) i = cnt E i := cnt_congr fun k hk => by
        have : (k == i) = false := by simpa using Nat.ne_of_lt hk
        simp [this]
      rw [this, hE]; simp
    · have : (n == i) = false := by simpa using fun e => hn e.symm
      rw [cnt_or hE (by omega), this]; simp; omega
theorem cnt_full {E : Nat → Bool} : ∀ {n : Nat}, cnt E n = n → ∀ k, k < n → E k = true
  | 0, _, k, hk => by omega
  | n + 1, h, k, hk => by
    rw [cnt_succ] at h
    have := cnt_le E n
    cases hn : E n with
    | false => rw [hn] at h; simp at h; omega
    | true =>
      rw [hn] at h
      simp at h
      by_cases e : k = n
      · subst e; exact hn
      · exact cnt_full h k (by omega)
end Go.AE
end
