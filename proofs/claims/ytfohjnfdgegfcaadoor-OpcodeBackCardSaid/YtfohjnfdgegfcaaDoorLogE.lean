/-
  An abstract logic for the model (part E): how frames and memories look, evaluated by functions. Conditions: none.
-/
import Derived.Test.YtfohjnfdgegfcaaDoorLogD
import Derived.Test.YtfohjnfdgegfcaaDoorShelf
namespace Go.AE
open Go.RowKit

theorem plainS_ne_agg {v : Value} (h : plainS v = true) : scalarV v = true := by
  unfold plainS at h
  split at h <;> first | rfl | cases h

theorem SR.plain_eq {g : List (Option GB)} {v w : Value} (h : plainS v = true) (hr : SR g v w) : w = v := by
  cases hr with
  | top _ _ => cases h
  | ptr j off gb _ => cases h
  | slice j off len cap gb _ => cases h
  | _ => rfl

theorem VR.plain_eq {g : List (Option GB)} {v w : Value} (h : plainS v = true) (hr : VR g v w) : w = v := by
  cases hr with
  | a ha => cases ha with
    | s hs => exact hs.plain_eq h
    | agg _ => cases h
  | tup _ => cases h
  | top _ => cases h

theorem VRs.plain_eq {g : List (Option GB)} : ∀ {aa ws : List Value}, aa.all plainS = true → F2 (VR g) aa ws → ws = aa
  | [], _, _, h => by cases h; rfl
  | a :: aa, _, hp, h => by
    cases h with
    | cons h1 h2 =>
      simp only [List.all_cons, Bool.and_eq_true] at hp
      rw [h1.plain_eq hp.1, VRs.plain_eq hp.2 h2]

/-- What is bigger than the world that it was made from. -/
theorem Rel.below {P : Program} {c : Ctx} {g : List (Option GB)} {m : Mem} {W W' : World} (h : Rel P c g m W) (hb : Below W.heap.size W W') : Rel P c g m W' :=
  h.still hb.block hb.size hb.os hb.tape hb.output

/-- A contract over plain arguments. -/
theorem ACall.of_shelf {P : Program} {f : FuncId} {aa : List Value} {m : Mem} {v : Value} (hp : aa.all plainS = true) (hv : ∀ g, VR g v v)
    (h : ∀ W, Good W (fun _ => False) → Calls P f ⟨aa⟩ W fun e W' => e = .returned v ∧ Below W.heap.size W W') : ACall P f aa m fun v' m' => v' = v ∧ m' = m := by
  intro c g W args' hr ha
  obtain rfl := VRs.plain_eq hp ha
  refine (h W hr.good).mono ?_
  rintro e W' ⟨rfl, hb⟩
  exact ⟨v, v, m, [], rfl, ⟨rfl, rfl⟩, by simpa using hr.below hb, hv _⟩

/-- A contract over plain arguments that leaves the world as it is. -/
theorem ACall.of_same {P : Program} {f : FuncId} {aa : List Value} {m : Mem} {v : Value} (hp : aa.all plainS = true) (hv : ∀ g, VR g v v)
    (h : ∀ W, Good W (fun _ => False) → Calls P f ⟨aa⟩ W fun e W' => e = .returned v ∧ W' = W) : ACall P f aa m fun v' m' => v' = v ∧ m' = m :=
  ACall.of_shelf hp hv fun W hg => (h W hg).mono fun _ _ ⟨h1, h2⟩ => ⟨h1, by rw [h2]; exact Below.refl _ _⟩

def beqB (a b : UInt8) : Bool := Nat.beq a.toNat b.toNat
theorem beqB_eq (a b : UInt8) : beqB a b = (a == b) := by
  unfold beqB
  rw [Bool.eq_iff_iff]
  simp [UInt8.toNat_inj]

def ixB (c : UInt8) : List UInt8 → Option Nat
  | [] => none
  | b :: l => bif beqB b c then some 0 else match ixB c l with
    | some n => some (n + 1)
    | none => none
def ixI : Option Nat → Int
  | some n => .ofNat n
  | none => .negSucc 0
theorem ixB_eq (c : UInt8) : ∀ l : List UInt8, Lib.indexByte l c = ixI (ixB c l)
  | [] => rfl
  | b :: l => by
    simp only [Lib.indexByte, ixB, beqB_eq, ixB_eq c l]
    cases b == c with
    | true => rfl
    | false =>
      cases ixB c l with
      | none => rfl
      | some n =>
        have : ((ixI (some n)) == -1) = false := rfl
        simp only [this]; rfl

def preB : List UInt8 → List UInt8 → Bool
  | [], _ => true
  | _ :: _, [] => false
  | a :: l, b :: r => bif beqB a b then preB l r else false
theorem preB_eq : ∀ l r : List UInt8, l.isPrefixOf r = preB l r
  | [], _ => rfl
  | _ :: _, [] => rfl
  | a :: l, b :: r => by
    simp only [List.isPrefixOf, preB, beqB_eq, preB_eq l r]
    cases a == b <;> rfl
def ixS (sub : List UInt8) : List UInt8 → Option Nat
  | [] => bif preB sub [] then some 0 else none
  | b :: l => bif preB sub (b :: l) then some 0 else match ixS sub l with
    | some n => some (n + 1)
    | none => none
theorem ixS_eq (sub : List UInt8) : ∀ l : List UInt8, Lib.index l sub = ixI (ixS sub l)
  | [] => by
    cases sub with
    | nil => rfl
    | cons b l => rfl
  | b :: l => by
    simp only [Lib.index, ixS, preB_eq, ixS_eq sub l]
    cases preB sub (b :: l) with
    | true => rfl
    | false =>
      cases ixS sub l with
      | none => rfl
      | some n =>
        have : ((ixI (some n)) == -1) = false := rfl
        simp only [this]; rfl

def strs : List Value → Option (List ByteArray)
  | [] => some []
  | .string s :: l => match strs l with
    | some r => some (s :: r)
    | none => none
  | _ => none
theorem strs_map : ∀ {l : List Value} {r : List ByteArray}, strs l = some r → l = r.map .string
  | [], _, h => by simp only [strs, Option.some.injEq] at h; subst h; rfl
  | x :: l, r, h => by
    unfold strs at h
    split at h
    · rename_i heq; cases heq
    · rename_i s l' heq
      split at h
      · rename_i r' hr
        simp only [Option.some.injEq] at h
        simp only [List.cons.injEq] at heq
        obtain ⟨rfl, rfl⟩ := heq
        subst h
        rw [strs_map hr]; rfl
      · cases h
    · cases h

def tup3 (a b : List UInt8) (c : Bool) : Value := .tuple ⟨[.string ⟨⟨a⟩⟩, .string ⟨⟨b⟩⟩, .bool c]⟩
def cutO (s sep : List UInt8) : Value := match ixS sep s with
  | some n => tup3 (s.take n) (s.drop (n + sep.length)) true
  | none => tup3 s [] false
theorem cutO_eq (s sep : List UInt8) : (.tuple #[.string ⟨(Lib.cut s sep).1.toArray⟩, .string ⟨(Lib.cut s sep).2.1.toArray⟩, .bool (Lib.cut s sep).2.2] : Value) = cutO s sep := by
  unfold cutO Lib.cut
  rw [ixS_eq]
  cases ixS sep s with
  | none => rfl
  | some n =>
    have : (0 : Int) ≤ ixI (some n) := by simp [ixI]
    rw [if_pos this]
    have : (ixI (some n)).toNat = n := rfl
    rw [this]; rfl

def oJoin (aa : List Value) (m : Mem) : Option (Value × Mem) := match aa with
  | [.slice none 0 _, .string _] => some (.string ⟨⟨[]⟩⟩, m)
  | [.slice (some ⟨j, o, none⟩) n c, .string sep] => match m[j]? with
    | some (some b) => match strs ((b.cells.drop o).take n) with
      | some xs => bif Nat.beq xs.length n && Nat.ble n c && Nat.ble n 140737488355328 && Nat.ble (Lib.join (xs.map (·.data.toList)) sep.data.toList).length 140737488355328 then
          some (.string ⟨⟨Lib.join (xs.map (·.data.toList)) sep.data.toList⟩⟩, m) else none
      | none => none
    | _ => none
  | _ => none

theorem oJoin_ok (aa : List Value) (m : Mem) (v : Value) (m' : Mem) (h : oJoin aa m = some (v, m')) : ACall Proofs.Tryd.prog 71 aa m fun v' m'' => v' = v ∧ m'' = m' := by
  unfold oJoin at h
  split at h
  · rename_i c sep
    simp only [Option.some.injEq, Prod.mk.injEq] at h
    obtain ⟨rfl, rfl⟩ := h
    intro cx g W args' hr ha
    cases ha with | cons h1 h2 => cases h2 with | cons h2 h3 => cases h3 with
    | nil =>
      rename_i y1 y2
      obtain rfl := h2.plain_eq rfl
      cases h1 with
      | a h1 => cases h1 with
        | s h1 => cases h1 with
          | slice0 =>
            refine (Proofs.Tryd.strings_Join_none none _ sep W).mono ?_
            rintro e W' ⟨rfl, rfl⟩
            exact ⟨_, _, m, [], rfl, ⟨rfl, rfl⟩, by simpa using hr, .s (.str _)⟩
  · rename_i j o n c sep
    split at h
    · rename_i b hb
      split at h
      · rename_i xs hxs
        cases hc : Nat.beq xs.length n && Nat.ble n c && Nat.ble n 140737488355328 && Nat.ble (Lib.join (xs.map (·.data.toList)) sep.data.toList).length 140737488355328 with
        | false => rw [hc] at h; cases h
        | true =>
          rw [hc] at h
          simp only [cond_true, Option.some.injEq, Prod.mk.injEq] at h
          obtain ⟨rfl, rfl⟩ := h
          simp only [Bool.and_eq_true, Nat.ble_eq] at hc
          obtain ⟨⟨⟨hn, hnc⟩, hN⟩, hl⟩ := hc
          obtain rfl := Nat.eq_of_beq_eq_true hn
          intro cx g W args' hr ha
          cases ha with | cons h1 h2 => cases h2 with | cons h2 h3 => cases h3 with
          | nil =>
            rename_i y1 y2
            obtain rfl := h2.plain_eq rfl
            cases h1 with
            | a h1 => cases h1 with
              | s h1 => cases h1 with
                | slice j off len cap gb hg =>
                  obtain ⟨cs, fr, hh, _⟩ := hr.blk j b gb hb hg
                  have hlt : gb.b < W.heap.size := by
                    rcases Nat.lt_or_ge gb.b W.heap.size with h' | h'
                    · exact h'
                    · rw [Array.getElem?_eq_none h'] at hh; cases hh
                  refine (Proofs.Tryd.strings_Join gb.b o (c + gb.extra) xs sep W ?_ hlt hN (by omega) hl).mono ?_
                  · intro i x hx
                    have : (xs.map Value.string)[i]? = some (.string x) := by rw [List.getElem?_map, hx]; rfl
                    rw [← strs_map hxs, List.getElem?_take] at this
                    split at this
                    · rw [List.getElem?_drop] at this
                      obtain ⟨w, hw, hs⟩ := hr.cell hb hg this
                      rw [hw, hs.plain_eq rfl]
                    · cases this
                  · rintro e W' ⟨rfl, hbl⟩
                    exact ⟨_, _, m, [], rfl, ⟨rfl, rfl⟩, by simpa using hr.below hbl, .s (.str _)⟩
      · cases h
    · cases h
  · cases h

def oIndexByte (aa : List Value) (m : Mem) : Option (Value × Mem) := match aa with
  | [.string s, .int .u8 c] => some (.int .i64 (ixI (ixB c.toNat.toUInt8 s.data.toList)), m)
  | _ => none
theorem oIndexByte_ok (aa : List Value) (m : Mem) (v : Value) (m' : Mem) (h : oIndexByte aa m = some (v, m')) : ACall Proofs.Tryd.prog 67 aa m fun v' m'' => v' = v ∧ m'' = m' := by
  unfold oIndexByte at h
  split at h
  · rename_i s c
    simp only [Option.some.injEq, Prod.mk.injEq] at h
    obtain ⟨rfl, rfl⟩ := h
    refine ACall.of_same rfl (fun g => .s (.int _ _)) fun W _ => ?_
    rw [← ixB_eq]
    exact Proofs.Tryd.strings_IndexByte s c W
  · cases h

def oIndex (aa : List Value) (m : Mem) : Option (Value × Mem) := match aa with
  | [.string s, .string t] => bif Nat.blt s.data.toList.length 4294967281 then some (.int .i64 (ixI (ixS t.data.toList s.data.toList)), m) else none
  | _ => none
theorem oIndex_ok (aa : List Value) (m : Mem) (v : Value) (m' : Mem) (h : oIndex aa m = some (v, m')) : ACall Proofs.Tryd.prog 59 aa m fun v' m'' => v' = v ∧ m'' = m' := by
  unfold oIndex at h
  split at h
  · rename_i s t
    cases hc : Nat.blt s.data.toList.length 4294967281 with
    | false => rw [hc] at h; cases h
    | true =>
      rw [hc] at h
      simp only [cond_true, Option.some.injEq, Prod.mk.injEq] at h
      obtain ⟨rfl, rfl⟩ := h
      refine ACall.of_same rfl (fun g => .s (.int _ _)) fun W hg => ?_
      obtain ⟨_, n, hn⟩ := hg
      rw [← ixS_eq]
      refine Proofs.Tryd.strings_Index s t n W ?_ hn
      have := Nat.le_of_ble_eq_true hc
      rw [Lib.size_eq]; omega
  · cases h

def oCut (aa : List Value) (m : Mem) : Option (Value × Mem) := match aa with
  | [.string s, .string t] => bif Nat.blt s.data.toList.length 4294967281 then some (cutO s.data.toList t.data.toList, m) else none
  | _ => none
theorem below_drewN (W : World) (n : Nat) : Below W.heap.size W (W.drewN n) := by
  induction n with
  | zero => exact ⟨rfl, rfl, rfl, Nat.le_refl _, fun _ _ => rfl⟩
  | succ n ih => exact ⟨ih.os, ih.tape, ih.output, ih.size, ih.block⟩
theorem oCut_ok (aa : List Value) (m : Mem) (v : Value) (m' : Mem) (h : oCut aa m = some (v, m')) : ACall Proofs.Tryd.prog 68 aa m fun v' m'' => v' = v ∧ m'' = m' := by
  unfold oCut at h
  split at h
  · rename_i s t
    cases hc : Nat.blt s.data.toList.length 4294967281 with
    | false => rw [hc] at h; cases h
    | true =>
      rw [hc] at h
      simp only [cond_true, Option.some.injEq, Prod.mk.injEq] at h
      obtain ⟨rfl, rfl⟩ := h
      refine ACall.of_shelf rfl (fun g => ?_) fun W hg => ?_
      · unfold cutO
        split
        · exact .tup (.cons (.s (.str _)) (.cons (.s (.str _)) (.cons (.s (.bool _)) .nil)))
        · exact .tup (.cons (.s (.str _)) (.cons (.s (.str _)) (.cons (.s (.bool _)) .nil)))
      obtain ⟨_, n, hn⟩ := hg
      rw [← cutO_eq]
      refine (Proofs.Tryd.strings_Cut s t n W ?_ hn).mono ?_
      · have := Nat.le_of_ble_eq_true hc
        rw [Lib.size_eq]; omega
      · rintro e W' ⟨rfl, n, rfl⟩
        exact ⟨rfl, below_drewN _ _⟩
  · cases h

def oTrimSuffix (aa : List Value) (m : Mem) : Option (Value × Mem) := match aa with
  | [.string s, .string t] => bif Nat.ble s.data.toList.length 4294967281 then some (.string ⟨⟨Lib.trimSuffix s.data.toList t.data.toList⟩⟩, m) else none
  | _ => none
theorem oTrimSuffix_ok (aa : List Value) (m : Mem) (v : Value) (m' : Mem) (h : oTrimSuffix aa m = some (v, m')) : ACall Proofs.Tryd.prog 76 aa m fun v' m'' => v' = v ∧ m'' = m' := by
  unfold oTrimSuffix at h
  split at h
  · rename_i s t
    cases hc : Nat.ble s.data.toList.length 4294967281 with
    | false => rw [hc] at h; cases h
    | true =>
      rw [hc] at h
      simp only [cond_true, Option.some.injEq, Prod.mk.injEq] at h
      obtain ⟨rfl, rfl⟩ := h
      refine ACall.of_same rfl (fun g => .s (.str _)) fun W hg => Proofs.Tryd.strings_TrimSuffix s t W ?_
      have := Nat.le_of_ble_eq_true hc
      rw [Lib.size_eq]; omega
  · cases h

def dropB (c : UInt8) : List UInt8 → List UInt8
  | [] => []
  | b :: l => bif beqB b c then dropB c l else b :: l
theorem dropB_eq (c : UInt8) : ∀ l : List UInt8, l.dropWhile (· == c) = dropB c l
  | [] => rfl
  | b :: l => by
    simp only [List.dropWhile, dropB, beqB_eq, dropB_eq c l]
    cases b == c <;> rfl
def oTrimRight (aa : List Value) (m : Mem) : Option (Value × Mem) := match aa with
  | [.string s, .string ⟨⟨[c]⟩⟩] => bif Nat.ble s.data.toList.length 4294967281 && Nat.blt c.toNat 128 then some (.string ⟨⟨(dropB c s.data.toList.reverse).reverse⟩⟩, m) else none
  | _ => none
theorem oTrimRight_ok (aa : List Value) (m : Mem) (v : Value) (m' : Mem) (h : oTrimRight aa m = some (v, m')) : ACall Proofs.Tryd.prog 94 aa m fun v' m'' => v' = v ∧ m'' = m' := by
  unfold oTrimRight at h
  split at h
  · rename_i s c
    cases hc : Nat.ble s.data.toList.length 4294967281 && Nat.blt c.toNat 128 with
    | false => rw [hc] at h; cases h
    | true =>
      rw [hc] at h
      simp only [cond_true, Option.some.injEq, Prod.mk.injEq] at h
      obtain ⟨rfl, rfl⟩ := h
      simp only [Bool.and_eq_true] at hc
      refine ACall.of_same rfl (fun g => .s (.str _)) fun W hg => ?_
      rw [← dropB_eq]
      have := Nat.le_of_ble_eq_true hc.1
      have h2 := Nat.le_of_ble_eq_true hc.2
      exact Proofs.Tryd.strings_TrimRight_one s c (by omega) W (by rw [Lib.size_eq]; omega)
  · cases h

def oRepeat (aa : List Value) (m : Mem) : Option (Value × Mem) := match aa with
  | [.string s, .int .i64 (.ofNat c)] => bif Nat.ble c 9223372036854775807 && Nat.ble (s.data.toList.length * c) 140737488355328 then some (.string ⟨⟨Lib.repeatL s.data.toList c⟩⟩, m) else none
  | _ => none
theorem oRepeat_ok (aa : List Value) (m : Mem) (v : Value) (m' : Mem) (h : oRepeat aa m = some (v, m')) : ACall Proofs.Tryd.prog 88 aa m fun v' m'' => v' = v ∧ m'' = m' := by
  unfold oRepeat at h
  split at h
  · rename_i s c
    cases hc : Nat.ble c 9223372036854775807 && Nat.ble (s.data.toList.length * c) 140737488355328 with
    | false => rw [hc] at h; cases h
    | true =>
      rw [hc] at h
      simp only [cond_true, Option.some.injEq, Prod.mk.injEq] at h
      obtain ⟨rfl, rfl⟩ := h
      simp only [Bool.and_eq_true] at hc
      exact ACall.of_shelf rfl (fun g => .s (.str _)) fun W hg => Proofs.Tryd.strings_Repeat s c W (Nat.le_of_ble_eq_true hc.1) (by rw [Lib.size_eq]; exact Nat.le_of_ble_eq_true hc.2)
  · cases h

def shelfO : Orc Proofs.Tryd.prog where
  f n := match n with
    | 59 => some oIndex
    | 67 => some oIndexByte
    | 68 => some oCut
    | 71 => some oJoin
    | 76 => some oTrimSuffix
    | 88 => some oRepeat
    | 94 => some oTrimRight
    | _ => none
  ok n s h := by
    split at h
    · cases h; exact oIndex_ok
    · cases h; exact oIndexByte_ok
    · cases h; exact oCut_ok
    · cases h; exact oJoin_ok
    · cases h; exact oTrimSuffix_ok
    · cases h; exact oRepeat_ok
    · cases h; exact oTrimRight_ok
    · cases h
end Go.AE
namespace Go.AE
variable {P : Program}

def eqBs : List UInt8 → List UInt8 → Bool
  | [], [] => true
  | a :: l, b :: r => bif beqB a b then eqBs l r else false
  | _, _ => false
theorem eqBs_eq : ∀ {l r : List UInt8}, eqBs l r = true → l = r
  | [], [], _ => rfl
  | [], _ :: _, h => by cases h
  | _ :: _, [], h => by cases h
  | a :: l, b :: r, h => by
    simp only [eqBs, beqB_eq] at h
    cases hb : a == b with
    | false => rw [hb] at h; cases h
    | true =>
      rw [hb] at h
      rw [eqBs_eq h, eq_of_beq hb]
def eqInt : Int → Int → Bool
  | .ofNat a, .ofNat b => Nat.beq a b
  | .negSucc a, .negSucc b => Nat.beq a b
  | _, _ => false
theorem eqInt_eq : ∀ {a b : Int}, eqInt a b = true → a = b
  | .ofNat _, .ofNat _, h => by rw [Nat.eq_of_beq_eq_true h]
  | .negSucc _, .negSucc _, h => by rw [Nat.eq_of_beq_eq_true h]
  | .ofNat _, .negSucc _, h => by cases h
  | .negSucc _, .ofNat _, h => by cases h
def eqBool : Bool → Bool → Bool
  | true, b => b
  | false, b => !b
theorem eqBool_eq : ∀ {a b : Bool}, eqBool a b = true → a = b
  | true, true, _ => rfl
  | false, false, _ => rfl
  | true, false, h => by cases h
  | false, true, h => by cases h

def qS : Value → Value → Bool
  | .bool a, .bool b => eqBool a b
  | .int k a, .int l b => decide (k = l) && eqInt a b
  | .string ⟨⟨a⟩⟩, .string ⟨⟨b⟩⟩ => eqBs a b
  | .pointer none, .pointer none => true
  | .slice none 0 0, .slice none 0 0 => true
  | .slice (some ⟨j, o, none⟩) n c, .slice (some ⟨i, p, none⟩) l d => Nat.beq j i && Nat.beq o p && Nat.beq n l && Nat.beq c d
  | _, _ => false
theorem qS_eq {v w : Value} (h : qS v w = true) : v = w := by
  unfold qS at h
  split at h
  · rw [eqBool_eq h]
  · simp only [Bool.and_eq_true, decide_eq_true_eq] at h
    rw [h.1, eqInt_eq h.2]
  · rw [eqBs_eq h]
  · rfl
  · rfl
  · simp only [Bool.and_eq_true] at h
    obtain ⟨⟨⟨h1, h2⟩, h3⟩, h4⟩ := h
    rw [Nat.eq_of_beq_eq_true h1, Nat.eq_of_beq_eq_true h2, Nat.eq_of_beq_eq_true h3, Nat.eq_of_beq_eq_true h4]
  · cases h
def qL (q : Value → Value → Bool) : List Value → List Value → Bool
  | [], [] => true
  | a :: l, b :: r => bif q a b then qL q l r else false
  | _, _ => false
theorem qL_eq {q : Value → Value → Bool} (hq : ∀ {v w : Value}, q v w = true → v = w) : ∀ {l r : List Value}, qL q l r = true → l = r
  | [], [], _ => rfl
  | [], _ :: _, h => by cases h
  | _ :: _, [], h => by cases h
  | a :: l, b :: r, h => by
    simp only [qL] at h
    cases hb : q a b with
    | false => rw [hb] at h; cases h
    | true =>
      rw [hb] at h
      rw [qL_eq hq h, hq hb]
def qA : Value → Value → Bool
  | .agg ⟨a⟩, .agg ⟨b⟩ => qL qS a b
  | v, w => qS v w
theorem qA_eq {v w : Value} (h : qA v w = true) : v = w := by
  unfold qA at h
  split at h
  · rw [qL_eq qS_eq h]
  · exact qS_eq h
def qV : Value → Value → Bool
  | .tuple ⟨a⟩, .tuple ⟨b⟩ => qL qA a b
  | v, w => qA v w
theorem qV_eq {v w : Value} (h : qV v w = true) : v = w := by
  unfold qV at h
  split at h
  · rw [qL_eq qA_eq h]
  · exact qA_eq h

def eqBlk (a b : ABlk) : Bool := qL qS a.cells b.cells && Nat.beq a.elem b.elem && eqBool a.rw b.rw && eqBool a.ex b.ex
theorem eqBlk_eq {a b : ABlk} (h : eqBlk a b = true) : a = b := by
  simp only [eqBlk, Bool.and_eq_true] at h
  obtain ⟨⟨⟨h1, h2⟩, h3⟩, h4⟩ := h
  cases a; cases b
  simp only [ABlk.mk.injEq]
  exact ⟨qL_eq qS_eq h1, Nat.eq_of_beq_eq_true h2, eqBool_eq h3, eqBool_eq h4⟩
def eqMem : Mem → List ABlk → Bool
  | [], [] => true
  | some a :: m, b :: l => bif eqBlk a b then eqMem m l else false
  | _, _ => false
theorem eqMem_eq : ∀ {m : Mem} {l : List ABlk}, eqMem m l = true → m = l.map some
  | [], [], _ => rfl
  | [], _ :: _, h => by cases h
  | none :: _, _, h => by cases h
  | some _ :: _, [], h => by cases h
  | some a :: m, b :: l, h => by
    simp only [eqMem] at h
    cases hb : eqBlk a b with
    | false => rw [hb] at h; cases h
    | true =>
      rw [hb] at h
      rw [eqMem_eq h, eqBlk_eq hb]; rfl

theorem map_some_inj : ∀ {a b : List ABlk}, a.map some = b.map some → a = b
  | [], [], _ => rfl
  | [], _ :: _, h => by cases h
  | _ :: _, [], h => by cases h
  | x :: a, y :: b, h => by
    simp only [List.map_cons, List.cons.injEq, Option.some.injEq] at h
    rw [h.1, map_some_inj h.2]

/-- An answer of a function: to these arguments, this value and these new blocks. -/
structure Ent where
  args : List Value
  v : Value
  nb : List ABlk

theorem renS_plain (ρ : Nat → Nat) {v : Value} (h : plainS v = true) : renS ρ v = v := by
  unfold plainS at h
  split at h <;> first | rfl | cases h
theorem ren_plain (ρ : Nat → Nat) {v : Value} (h : plainC v = true) : ren ρ v = v := by
  unfold plainC at h
  split at h
  · rename_i xs
    show Value.agg ⟨xs.map (renS ρ)⟩ = Value.agg ⟨xs⟩
    have : xs.map (renS ρ) = xs := by
      conv => rhs; rw [← List.map_id xs]
      exact List.map_congr_left fun x hx => renS_plain ρ (List.all_eq_true.1 h x hx)
    rw [this]
  · rfl
  · rename_i v _ h2
    unfold plainS at h
    split at h <;> first | rfl | cases h
theorem low_plain {v : Value} (h : plainC v = true) (n : Nat) : low n v = true := by
  unfold plainC at h
  split at h
  · rename_i xs
    show xs.all (lowS n) = true
    refine List.all_eq_true.2 fun x hx => ?_
    have := List.all_eq_true.1 h x hx
    unfold plainS at this
    split at this <;> first | rfl | cases this
  · rfl
  · unfold plainS at h
    split at h <;> first | rfl | cases h

def entO (e : Ent) (m : Mem) : Value × Mem := (ren (place [] m.length) e.v, m ++ e.nb.map fun b => some (renBlk (place [] m.length) b))

/-- The answer is the function's. -/
def EntIs (P : Program) (f : FuncId) (e : Ent) : Prop := ∀ m, ACall P f e.args m fun v m' => v = (entO e m).1 ∧ m' = (entO e m).2

noncomputable def entOk (T : Tab P) (O : Orc P) (lf cf n : Nat) (fn : Func) (c : Code) (e : Ent) : Bool :=
  forceL e.args fun args => match evF (runO T O lf cf n) T cf c fn.ntmps fn.results.toList args [] (fun v m' => some (gcR 0 v m')) with
  | some (v, m') => qV v e.v && eqMem m' e.nb && e.nb.all (·.rw) && e.args.all plainC
  | none => false

theorem entOk_ok {T : Tab P} {O : Orc P} {lf cf n : Nat} {f : FuncId} {fn : Func} {c : Code} {e : Ent} (hf : P.funcs[f]? = some fn) (hb : fn.body = some c) (h : entOk T O lf cf n fn c e = true) : EntIs P f e := by
  intro m
  unfold entOk at h
  rw [forceL_eq] at h
  split at h
  · rename_i v m' hev
    simp only [Bool.and_eq_true] at h
    obtain ⟨⟨⟨h1, h2⟩, h3⟩, h4⟩ := h
    have hv := qV_eq h1
    have hm := eqMem_eq h2
    have := ACall.of_run (O := O) (m := []) hf hb hev
    have hl : e.args.map (ren (place [] m.length)) = e.args := by
      conv => rhs; rw [← List.map_id e.args]
      exact List.map_congr_left fun x hx => ren_plain _ (List.all_eq_true.1 h4 x hx)
    have := ACall.frame (K := fun v' m'' => v' = v ∧ m'' = m') (this.mono fun v' m'' ⟨h1, h2⟩ => ⟨e.nb, by rw [h2, hm]; rfl, h3, h1, by rw [hm]⟩) m [] ⟨rfl, fun i b hb => by simp at hb⟩ (fun j hj => by cases hj)
      (List.all_eq_true.2 fun x hx => low_plain (List.all_eq_true.1 h4 x hx) _)
    rw [hl] at this
    refine this.mono ?_
    rintro v' m'' ⟨v0, nb, ⟨rfl, hnb⟩, rfl, rfl⟩
    have hnb' : nb = e.nb := by
      rw [hm] at hnb
      exact map_some_inj hnb
    rw [hv, hnb']
    exact ⟨rfl, rfl⟩
  · cases h

noncomputable def entsOk (T : Tab P) (O : Orc P) (lf cf n : Nat) (fn : Func) (c : Code) (l : List Ent) : Bool := l.all (entOk T O lf cf n fn c)
theorem entsOk_ok {T : Tab P} {O : Orc P} {lf cf n : Nat} {f : FuncId} {fn : Func} {c : Code} {l : List Ent} (hf : P.funcs[f]? = some fn) (hb : fn.body = some c) (h : entsOk T O lf cf n fn c l = true) : ∀ e ∈ l, EntIs P f e :=
  fun e he => entOk_ok hf hb (List.all_eq_true.1 h e he)

def findE : List Ent → List Value → Option Ent
  | [], _ => none
  | e :: l, aa => bif qL qA e.args aa then some e else findE l aa
theorem findE_some : ∀ {l : List Ent} {aa : List Value} {e : Ent}, findE l aa = some e → e ∈ l ∧ e.args = aa
  | [], _, _, h => by cases h
  | e' :: l, aa, e, h => by
    simp only [findE] at h
    cases hb : qL qA e'.args aa with
    | false =>
      rw [hb] at h
      obtain ⟨h1, h2⟩ := findE_some h
      exact ⟨List.mem_cons_of_mem _ h1, h2⟩
    | true =>
      rw [hb] at h
      simp only [cond_true, Option.some.injEq] at h
      subst h
      exact ⟨List.mem_cons_self, qL_eq qA_eq hb⟩

def tabO (tab : List Ent) (aa : List Value) (m : Mem) : Option (Value × Mem) := match findE tab aa with
  | some e => some (entO e m)
  | none => none

/-- An oracle more: the function's answers out of a list. -/
def Orc.more (O : Orc P) (f : FuncId) (tab : List Ent) (h : ∀ e ∈ tab, EntIs P f e) : Orc P where
  f n := bif Nat.beq n f then some (tabO tab) else O.f n
  ok n s hs := by
    cases hn : Nat.beq n f with
    | false => rw [hn] at hs; exact O.ok n s hs
    | true =>
      rw [hn] at hs
      simp only [cond_true, Option.some.injEq] at hs
      subst hs
      obtain rfl := Nat.eq_of_beq_eq_true hn
      intro aa m v m' hv
      unfold tabO at hv
      split at hv
      · rename_i e he
        obtain ⟨h1, rfl⟩ := findE_some he
        simp only [Option.some.injEq] at hv
        have := h e h1 m
        rw [hv] at this
        exact this
      · cases hv
end Go.AE
namespace Go.AE
open Go.RowKit
variable {P : Program}

/-- An answer, in the model's own words. -/
theorem EntIs.calls {f : FuncId} {e : Ent} (h : EntIs P f e) (hp : e.args.all plainS = true) (hv : plainS e.v = true) {W : World} (hg : Good W fun _ => False) :
    Calls P f ⟨e.args⟩ W fun x W' => x = .returned e.v ∧ Below W.heap.size W W' := by
  have hr : Rel P ⟨W, fun _ => False, hg⟩ [] [] W := ⟨rfl, fun j b gb hj => by simp at hj, fun i j bi bj gi gj _ hi => by simp at hi, fun _ _ _ => rfl, Nat.le_refl _, rfl, rfl, rfl⟩
  refine (h [] _ [] W e.args hr (F2.refl _ fun x hx => .s (SR.plain _ (List.all_eq_true.1 hp x hx)))).mono ?_
  rintro x W' ⟨v, v', m', g', rfl, ⟨rfl, rfl⟩, hr', hvr⟩
  have hpl : plainC e.v = true := by
    unfold plainC
    split
    · rename_i heq; rw [heq] at hv; cases hv
    · rfl
    · exact hv
  have he : (entO e []).1 = e.v := ren_plain _ hpl
  rw [he] at hvr
  rw [hvr.plain_eq hv]
  exact ⟨rfl, hr'.os, hr'.tape, hr'.output, hr'.size, fun k hk => hr'.frame k hk (fun h => h)⟩
end Go.AE
namespace Go.AE
open Go.RowKit
variable {P : Program}

/-- What a function answers to a slice of a block that holds these cells, wherever the block lies; it leaves all as it was. -/
structure EntR where
  cells : List Value
  elem : TypeId
  n : Nat
  v : Value

def ReadIs (P : Program) (f : FuncId) (e : EntR) : Prop := ∀ (m : Mem) (j : Nat) (b : ABlk), m[j]? = some (some b) → b.cells = e.cells → b.elem = e.elem → ACall P f [.slice (some ⟨j, 0, none⟩) e.n e.n] m fun v m' => v = e.v ∧ m' = m

noncomputable def readOk (T : Tab P) (O : Orc P) (lf cf n : Nat) (fn : Func) (c : Code) (e : EntR) : Bool :=
  forceM [some ⟨e.cells, e.elem, false, false⟩] fun m0 => match evF (runO T O lf cf n) T cf c fn.ntmps fn.results.toList [.slice (some ⟨0, 0, none⟩) e.n e.n] m0 (fun v m' => some (gcR m0.length v m')) with
  | some (v, m') => qV v e.v && eqMem m' [⟨e.cells, e.elem, false, false⟩] && e.cells.all plainS && plainS e.v
  | none => false

theorem lowS_plain {v : Value} (h : plainS v = true) (n : Nat) : lowS n v = true := by
  unfold plainS at h
  split at h <;> first | rfl | cases h

theorem readOk_ok {T : Tab P} {O : Orc P} {lf cf n : Nat} {f : FuncId} {fn : Func} {c : Code} {e : EntR} (hf : P.funcs[f]? = some fn) (hb : fn.body = some c) (h : readOk T O lf cf n fn c e = true) : ReadIs P f e := by
  intro m j b hj hcells helem
  unfold readOk at h
  rw [forceM_eq] at h
  split at h
  · rename_i v m' hev
    simp only [Bool.and_eq_true] at h
    obtain ⟨⟨⟨h1, h2⟩, h3⟩, h4⟩ := h
    have hv := qV_eq h1
    have hm := eqMem_eq h2
    have hrun := ACall.of_run (O := O) hf hb hev
    have hjl : j < m.length := by
      rcases Nat.lt_or_ge j m.length with h' | h'
      · exact h'
      · rw [List.getElem?_eq_none h'] at hj; cases hj
    have hren : ∀ ρ : Nat → Nat, e.cells.map (renS ρ) = e.cells := fun ρ => by
      conv => rhs; rw [← List.map_id e.cells]
      exact List.map_congr_left fun x hx => renS_plain ρ (List.all_eq_true.1 h3 x hx)
    have hsh : Shows m [j] [some ⟨e.cells, e.elem, false, false⟩] := by
      refine ⟨rfl, fun i b0 hb0 => ?_⟩
      cases i with
      | succ i => simp at hb0
      | zero =>
        simp only [List.getElem?_cons_zero, Option.some.injEq] at hb0
        subst hb0
        exact ⟨j, b, rfl, hj, by rw [hcells]; exact (hren _).symm, helem, fun h => (by cases h), rfl, List.all_eq_true.2 fun x hx => lowS_plain (List.all_eq_true.1 h3 x hx) _⟩
    have := ACall.frame (K := fun v' nb => v' = v ∧ nb = []) (hrun.mono fun v' m'' ⟨h1, h2⟩ => ⟨[], by rw [h2, hm]; rfl, rfl, h1, rfl⟩) m [j] hsh (fun j' hj' => by simp at hj'; omega) rfl
    refine this.mono ?_
    rintro v' m'' ⟨v0, nb, ⟨rfl, hnb⟩, rfl, rfl⟩
    have hnb' : nb = [] := by simpa using hnb
    subst hnb'
    have hpl : plainC e.v = true := by
      unfold plainC
      split
      · rename_i heq; rw [heq] at h4; cases h4
      · rfl
      · exact h4
    rw [hv]
    exact ⟨ren_plain _ hpl, by simp⟩
  · cases h
end Go.AE
