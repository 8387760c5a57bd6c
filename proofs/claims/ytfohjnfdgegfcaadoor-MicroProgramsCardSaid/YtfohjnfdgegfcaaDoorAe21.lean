/-
  An abstract logic for the model (part 21): how frames and memories look, evaluated by functions. Conditions: none.
-/
import Derived.Test.YtfohjnfdgegfcaaDoorAe20
import Derived.Test.YtfohjnfdgegfcaaDoorShelf
namespace Go.AE
open Go.RowKit

theorem plainS_ne_agg {v : Value} (h : plainS v = true) : scalarV v = true := by
  unfold plainS at h
  split at h <;> first | rfl | cases h

theorem SR.plain_eq {g : List (Option GB)} {v w : Value} (h : plainS v = true) (hr : SR g v w) : w = v := by
  cases hr with
  | top _ _ => cases h
  | ptr j off gb _ => cases h
  | slice j off len cap gb _ => cases h
  | _ => rfl

theorem VR.plain_eq {g : List (Option GB)} {v w : Value} (h : plainS v = true) (hr : VR g v w) : w = v := by
  cases hr with
  | a ha => cases ha with
    | s hs => exact hs.plain_eq h
    | agg _ => cases h
  | tup _ => cases h
  | top _ => cases h

theorem VRs.plain_eq {g : List (Option GB)} : ∀ {aa ws : List Value}, aa.all plainS = true → F2 (VR g) aa ws → ws = aa
  | [], _, _, h => by cases h; rfl
  | a :: aa, _, hp, h => by
    cases h with
    | cons h1 h2 =>
      simp only [List.all_cons, Bool.and_eq_true] at hp
      rw [h1.plain_eq hp.1, VRs.plain_eq hp.2 h2]

/-- What is bigger than the world that it was made from. -/
theorem Rel.below {P : Program} {c : Ctx} {g : List (Option GB)} {m : Mem} {W W' : World} (h : Rel P c g m W) (hb : Below W.heap.size W W') : Rel P c g m W' :=
  h.still hb.block hb.size hb.os hb.tape hb.output

/-- A contract over plain arguments. -/
theorem ACall.of_shelf {P : Program} {f : FuncId} {aa : List Value} {m : Mem} {v : Value} (hp : aa.all plainS = true) (hv : ∀ g, VR g v v)
    (h : ∀ W, Good W (fun _ => False) → Calls P f ⟨aa⟩ W fun e W' => e = .returned v ∧ Below W.heap.size W W') : ACall P f aa m fun v' m' => v' = v ∧ m' = m := by
  intro c g W args' hr ha
  obtain rfl := VRs.plain_eq hp ha
  refine (h W hr.good).mono ?_
  rintro e W' ⟨rfl, hb⟩
  exact ⟨v, v, m, [], rfl, ⟨rfl, rfl⟩, by simpa using hr.below hb, hv _⟩

/-- A contract over plain arguments that leaves the world as it is. -/
theorem ACall.of_same {P : Program} {f : FuncId} {aa : List Value} {m : Mem} {v : Value} (hp : aa.all plainS = true) (hv : ∀ g, VR g v v)
    (h : ∀ W, Good W (fun _ => False) → Calls P f ⟨aa⟩ W fun e W' => e = .returned v ∧ W' = W) : ACall P f aa m fun v' m' => v' = v ∧ m' = m :=
  ACall.of_shelf hp hv fun W hg => (h W hg).mono fun _ _ ⟨h1, h2⟩ => ⟨h1, by rw [h2]; exact Below.refl _ _⟩

def beqB (a b : UInt8) : Bool := Nat.beq a.toNat b.toNat
theorem beqB_eq (a b : UInt8) : beqB a b = (a == b) := by
  unfold beqB
  rw [Bool.eq_iff_iff]
  simp [UInt8.toNat_inj]

def ixB (c : UInt8) : List UInt8 → Option Nat
  | [] => none
  | b :: l => bif beqB b c then some 0 else match ixB c l with
    | some n => some (n + 1)
    | none => none
def ixI : Option Nat → Int
  | some n => .ofNat n
  | none => .negSucc 0
theorem ixB_eq (c : UInt8) : ∀ l : List UInt8, Lib.indexByte l c = ixI (ixB c l)
  | [] => rfl
  | b :: l => by
    simp only [Lib.indexByte, ixB, beqB_eq, ixB_eq c l]
    cases b == c with
    | true => rfl
    | false =>
      cases ixB c l with
      | none => rfl
      | some n =>
        have : ((ixI (some n)) == -1) = false := rfl
        simp only [this]; rfl

def preB : List UInt8 → List UInt8 → Bool
  | [], _ => true
  | _ :: _, [] => false
  | a :: l, b :: r => bif beqB a b then preB l r else false
theorem preB_eq : ∀ l r : List UInt8, l.isPrefixOf r = preB l r
  | [], _ => rfl
  | _ :: _, [] => rfl
  | a :: l, b :: r => by
    simp only [List.isPrefixOf, preB, beqB_eq, preB_eq l r]
    cases a == b <;> rfl
def ixS (sub : List UInt8) : List UInt8 → Option Nat
  | [] => bif preB sub [] then some 0 else none
  | b :: l => bif preB sub (b :: l) then some 0 else match ixS sub l with
    | some n => some (n + 1)
    | none => none
theorem ixS_eq (sub : List UInt8) : ∀ l : List UInt8, Lib.index l sub = ixI (ixS sub l)
  | [] => by
    cases sub with
    | nil => rfl
    | cons b l => rfl
  | b :: l => by
    simp only [Lib.index, ixS, preB_eq, ixS_eq sub l]
    cases preB sub (b :: l) with
    | true => rfl
    | false =>
      cases ixS sub l with
      | none => rfl
      | some n =>
        have : ((ixI (some n)) == -1) = false := rfl
        simp only [this]; rfl

def strs : List Value → Option (List ByteArray)
  | [] => some []
  | .string s :: l => match strs l with
    | some r => some (s :: r)
    | none => none
  | _ => none
theorem strs_map : ∀ {l : List Value} {r : List ByteArray}, strs l = some r → l = r.map .string
  | [], _, h => by simp only [strs, Option.some.injEq] at h; subst h; rfl
  | x :: l, r, h => by
    unfold strs at h
    split at h
    · rename_i heq; cases heq
    · rename_i s l' heq
      split at h
      · rename_i r' hr
        simp only [Option.some.injEq] at h
        simp only [List.cons.injEq] at heq
        obtain ⟨rfl, rfl⟩ := heq
        subst h
        rw [strs_map hr]; rfl
      · cases h
    · cases h

def tup3 (a b : List UInt8) (c : Bool) : Value := .tuple ⟨[.string ⟨⟨a⟩⟩, .string ⟨⟨b⟩⟩, .bool c]⟩
def cutO (s sep : List UInt8) : Value := match ixS sep s with
  | some n => tup3 (s.take n) (s.drop (n + sep.length)) true
  | none => tup3 s [] false
theorem cutO_eq (s sep : List UInt8) : (.tuple #[.string ⟨(Lib.cut s sep).1.toArray⟩, .string ⟨(Lib.cut s sep).2.1.toArray⟩, .bool (Lib.cut s sep).2.2] : Value) = cutO s sep := by
  unfold cutO Lib.cut
  rw [ixS_eq]
  cases ixS sep s with
  | none => rfl
  | some n =>
    have : (0 : Int) ≤ ixI (some n) := by simp [ixI]
    rw [if_pos this]
    have : (ixI (some n)).toNat = n := rfl
    rw [this]; rfl

def oJoin (aa : List Value) (m : Mem) : Option (Value × Mem) := match aa with
  | [.slice none 0 _, .string _] => some (.string ⟨⟨[]⟩⟩, m)
  | [.slice (some ⟨j, o, none⟩) n c, .string sep] => match m[j]? with
    | some (some b) => match strs ((b.cells.drop o).take n) with
      | some xs => bif Nat.beq xs.length n && Nat.ble n c && Nat.ble n 140737488355328 && Nat.ble (Lib.join (xs.map (·.data.toList)) sep.data.toList).length 140737488355328 then
          some (.string ⟨⟨Lib.join (xs.map (·.data.toList)) sep.data.toList⟩⟩, m) else none
      | none => none
    | _ => none
  | _ => none

theorem oJoin_ok (aa : List Value) (m : Mem) (v : Value) (m' : Mem) (h : oJoin aa m = some (v, m')) : ACall Proofs.Tryd.prog 71 aa m fun v' m'' => v' = v ∧ m'' = m' := by
  unfold oJoin at h
  split at h
  · rename_i c sep
    simp only [Option.some.injEq, Prod.mk.injEq] at h
    obtain ⟨rfl, rfl⟩ := h
    intro cx g W args' hr ha
    cases ha with | cons h1 h2 => cases h2 with | cons h2 h3 => cases h3 with
    | nil =>
      rename_i y1 y2
      obtain rfl := h2.plain_eq rfl
      cases h1 with
      | a h1 => cases h1 with
        | s h1 => cases h1 with
          | slice0 =>
            refine (Proofs.Tryd.strings_Join_none none _ sep W).mono ?_
            rintro e W' ⟨rfl, rfl⟩
            exact ⟨_, _, m, [], rfl, ⟨rfl, rfl⟩, by simpa using hr, .s (.str _)⟩
  · rename_i j o n c sep
    split at h
    · rename_i b hb
      split at h
      · rename_i xs hxs
        cases hc : Nat.beq xs.length n && Nat.ble n c && Nat.ble n 140737488355328 && Nat.ble (Lib.join (xs.map (·.data.toList)) sep.data.toList).length 140737488355328 with
        | false => rw [hc] at h; cases h
        | true =>
          rw [hc] at h
          simp only [cond_true, Option.some.injEq, Prod.mk.injEq] at h
          obtain ⟨rfl, rfl⟩ := h
          simp only [Bool.and_eq_true, Nat.ble_eq] at hc
          obtain ⟨⟨⟨hn, hnc⟩, hN⟩, hl⟩ := hc
          obtain rfl := Nat.eq_of_beq_eq_true hn
          intro cx g W args' hr ha
          cases ha with | cons h1 h2 => cases h2 with | cons h2 h3 => cases h3 with
          | nil =>
            rename_i y1 y2
            obtain rfl := h2.plain_eq rfl
            cases h1 with
            | a h1 => cases h1 with
              | s h1 => cases h1 with
                | slice j off len cap gb hg =>
                  obtain ⟨cs, fr, hh, _⟩ := hr.blk j b gb hb hg
                  have hlt : gb.b < W.heap.size := by
                    rcases Nat.lt_or_ge gb.b W.heap.size with h' | h'
                    · exact h'
                    · rw [Array.getElem?_eq_none h'] at hh; cases hh
                  refine (Proofs.Tryd.strings_Join gb.b o (c + gb.extra) xs sep W ?_ hlt hN (by omega) hl).mono ?_
                  · intro i x hx
                    have : (xs.map Value.string)[i]? = some (.string x) := by rw [List.getElem?_map, hx]; rfl
                    rw [← strs_map hxs, List.getElem?_take] at this
                    split at this
                    · rw [List.getElem?_drop] at this
                      obtain ⟨w, hw, hs⟩ := hr.cell hb hg this
                      rw [hw, hs.plain_eq rfl]
                    · cases this
                  · rintro e W' ⟨rfl, hbl⟩
                    exact ⟨_, _, m, [], rfl, ⟨rfl, rfl⟩, by simpa using hr.below hbl, .s (.str _)⟩
      · cases h
    · cases h
  · cases h

def oIndexByte (aa : List Value) (m : Mem) : Option (Value × Mem) := match aa with
  | [.string s, .int .u8 c] => some (.int .i64 (ixI (ixB c.toNat.toUInt8 s.data.toList)), m)
  | _ => none
theorem oIndexByte_ok (aa : List Value) (m : Mem) (v : Value) (m' : Mem) (h : oIndexByte aa m = some (v, m')) : ACall Proofs.Tryd.prog 67 aa m fun v' m'' => v' = v ∧ m'' = m' := by
  unfold oIndexByte at h
  split at h
  · rename_i s c
    simp only [Option.some.injEq, Prod.mk.injEq] at h
    obtain ⟨rfl, rfl⟩ := h
    refine ACall.of_same rfl (fun g => .s (.int _ _)) fun W _ => ?_
    rw [← ixB_eq]
    exact Proofs.Tryd.strings_IndexByte s c W
  · cases h

def oIndex (aa : List Value) (m : Mem) : Option (Value × Mem) := match aa with
  | [.string s, .string t] => bif Nat.blt s.data.toList.length 4294967281 then some (.int .i64 (ixI (ixS t.data.toList s.data.toList)), m) else none
  | _ => none
theorem oIndex_ok (aa : List Value) (m : Mem) (v : Value) (m' : Mem) (h : oIndex aa m = some (v, m')) : ACall Proofs.Tryd.prog 59 aa m fun v' m'' => v' = v ∧ m'' = m' := by
  unfold oIndex at h
  split at h
  · rename_i s t
    cases hc : Nat.blt s.data.toList.length 4294967281 with
    | false => rw [hc] at h; cases h
    | true =>
      rw [hc] at h
      simp only [cond_true, Option.some.injEq, Prod.mk.injEq] at h
      obtain ⟨rfl, rfl⟩ := h
      refine ACall.of_same rfl (fun g => .s (.int _ _)) fun W hg => ?_
      obtain ⟨_, n, hn⟩ := hg
      rw [← ixS_eq]
      refine Proofs.Tryd.strings_Index s t n W ?_ hn
      have := Nat.le_of_ble_eq_true hc
      rw [Lib.size_eq]; omega
  · cases h

def oCut (aa : List Value) (m : Mem) : Option (Value × Mem) := match aa with
  | [.string s, .string t] => bif Nat.blt s.data.toList.length 4294967281 then some (cutO s.data.toList t.data.toList, m) else none
  | _ => none
theorem below_drewN (W : World) (n : Nat) : Below W.heap.size W (W.drewN n) := by
  induction n with
  | zero => exact ⟨rfl, rfl, rfl, Nat.le_refl _, fun _ _ => rfl⟩
  | succ n ih => exact ⟨ih.os, ih.tape, ih.output, ih.size, ih.block⟩
theorem oCut_ok (aa : List Value) (m : Mem) (v : Value) (m' : Mem) (h : oCut aa m = some (v, m')) : ACall Proofs.Tryd.prog 68 aa m fun v' m'' => v' = v ∧ m'' = m' := by
  unfold oCut at h
  split at h
  · rename_i s t
    cases hc : Nat.blt s.data.toList.length 4294967281 with
    | false => rw [hc] at h; cases h
    | true =>
      rw [hc] at h
      simp only [cond_true, Option.some.injEq, Prod.mk.injEq] at h
      obtain ⟨rfl, rfl⟩ := h
      refine ACall.of_shelf rfl (fun g => ?_) fun W hg => ?_
      · unfold cutO
        split
        · exact .tup (.cons (.s (.str _)) (.cons (.s (.str _)) (.cons (.s (.bool _)) .nil)))
        · exact .tup (.cons (.s (.str _)) (.cons (.s (.str _)) (.cons (.s (.bool _)) .nil)))
      obtain ⟨_, n, hn⟩ := hg
      rw [← cutO_eq]
      refine (Proofs.Tryd.strings_Cut s t n W ?_ hn).mono ?_
      · have := Nat.le_of_ble_eq_true hc
        rw [Lib.size_eq]; omega
      · rintro e W' ⟨rfl, n, rfl⟩
        exact ⟨rfl, below_drewN _ _⟩
  · cases h

def oTrimSuffix (aa : List Value) (m : Mem) : Option (Value × Mem) := match aa with
  | [.string s, .string t] => bif Nat.ble s.data.toList.length 4294967281 then some (.string ⟨⟨Lib.trimSuffix s.data.toList t.data.toList⟩⟩, m) else none
  | _ => none
theorem oTrimSuffix_ok (aa : List Value) (m : Mem) (v : Value) (m' : Mem) (h : oTrimSuffix aa m = some (v, m')) : ACall Proofs.Tryd.prog 76 aa m fun v' m'' => v' = v ∧ m'' = m' := by
  unfold oTrimSuffix at h
  split at h
  · rename_i s t
    cases hc : Nat.ble s.data.toList.length 4294967281 with
    | false => rw [hc] at h; cases h
    | true =>
      rw [hc] at h
      simp only [cond_true, Option.some.injEq, Prod.mk.injEq] at h
      obtain ⟨rfl, rfl⟩ := h
      refine ACall.of_same rfl (fun g => .s (.str _)) fun W hg => Proofs.Tryd.strings_TrimSuffix s t W ?_
      have := Nat.le_of_ble_eq_true hc
      rw [Lib.size_eq]; omega
  · cases h

def dropB (c : UInt8) : List UInt8 → List UInt8
  | [] => []
  | b :: l => bif beqB b c then dropB c l else b :: l
theorem dropB_eq (c : UInt8) : ∀ l : List UInt8, l.dropWhile (· == c) = dropB c l
  | [] => rfl
  | b :: l => by
    simp only [List.dropWhile, dropB, beqB_eq, dropB_eq c l]
    cases b == c <;> rfl
def oTrimRight (aa : List Value) (m : Mem) : Option (Value × Mem) := match aa with
  | [.string s, .string ⟨⟨[c]⟩⟩] => bif Nat.ble s.data.toList.length 4294967281 && Nat.blt c.toNat 128 then some (.string ⟨⟨(dropB c s.data.toList.reverse).reverse⟩⟩, m) else none
  | _ => none
theorem oTrimRight_ok (aa : List Value) (m : Mem) (v : Value) (m' : Mem) (h : oTrimRight aa m = some (v, m')) : ACall Proofs.Tryd.prog 94 aa m fun v' m'' => v' = v ∧ m'' = m' := by
  unfold oTrimRight at h
  split at h
  · rename_i s c
    cases hc : Nat.ble s.data.toList.length 4294967281 && Nat.blt c.toNat 128 with
    | false => rw [hc] at h; cases h
    | true =>
      rw [hc] at h
      simp only [cond_true, Option.some.injEq, Prod.mk.injEq] at h
      obtain ⟨rfl, rfl⟩ := h
      simp only [Bool.and_eq_true] at hc
      refine ACall.of_same rfl (fun g => .s (.str _)) fun W hg => ?_
      rw [← dropB_eq]
      have := Nat.le_of_ble_eq_true hc.1
      have h2 := Nat.le_of_ble_eq_true hc.2
      exact Proofs.Tryd.strings_TrimRight_one s c (by omega) W (by rw [Lib.size_eq]; omega)
  · cases h

def shelfO : Orc Proofs.Tryd.prog where
  f n := match n with
    | 59 => some oIndex
    | 67 => some oIndexByte
    | 68 => some oCut
    | 71 => some oJoin
    | 76 => some oTrimSuffix
    | 94 => some oTrimRight
    | _ => none
  ok n s h := by
    split at h
    · cases h; exact oIndex_ok
    · cases h; exact oIndexByte_ok
    · cases h; exact oCut_ok
    · cases h; exact oJoin_ok
    · cases h; exact oTrimSuffix_ok
    · cases h; exact oTrimRight_ok
    · cases h
end Go.AE
