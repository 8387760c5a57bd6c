/-
  The walks of the layer 'timing' that hold for every string: kinds, Kinds, Same, all and Letters of a block, List, Count, TimingLists. Conditions: those that each names.
-/
import Derived.Test.YtfohjnfdgegfcaaDoorLogG
import Derived.Test.YtfohjnfdgegfcaaDoorTabBase
namespace Go.Proofs.YtfohjnfdgegfcaaDoor
open Go Go.AE
set_option maxRecDepth 100000
set_option linter.unusedSimpArgs false
set_option maxHeartbeats 400000
abbrev I64 (n : Int) : Value := .int .i64 n
/-- The eight letters, and their places. -/
abbrev LET : List UInt8 := [70, 79, 68, 76, 83, 80, 85, 86]
def kd (c : UInt8) : UInt8 := bif c == 70 then 0 else bif c == 79 then 1 else bif c == 68 then 2 else bif c == 76 then 3 else bif c == 83 then 4 else bif c == 80 then 5 else bif c == 85 then 6 else 7
theorem kd_at : ∀ c ∈ LET, (kd c).toNat < 8 ∧ LET.getD (kd c).toNat 0 = c := by decide
theorem kd_un : ∀ k, k < 8 → kd (LET.getD k 0) = UInt8.ofNat k := by decide
def outS (l : List UInt8) : Value := match l with | [] => .slice none 0 0 | l => .slice (some ⟨0, 0, none⟩) l.length l.length
def outM (l : List UInt8) : Mem := match l with | [] => [] | l => [grownBlk 5 (l.map Byt)]
theorem sz5 (h : 5 < Tryd.prog.types.size) : (Tryd.prog.types[5]'h).size = 1 := by kernel_rfl
theorem by5 (h : 5 < Tryd.prog.types.size) : (Tryd.prog.types[5]'h).bytes = 1 := by kernel_rfl
theorem lt5 : 5 < Tryd.prog.types.size := of_decide_eq_true (by kernel_rfl)
theorem outS0 : outS [] = .slice none 0 0 := rfl
theorem outM0 : outM [] = [] := rfl
theorem outS1 (x : UInt8) (l : List UInt8) : outS (x :: l) = .slice (some ⟨0, 0, none⟩) (l.length + 1) (l.length + 1) := rfl
theorem outM1 (x : UInt8) (l : List UInt8) : outM (x :: l) = [some ⟨(x :: l).map Byt, 5, true, false⟩] := rfl
theorem outS_snoc (x : UInt8) (l : List UInt8) (c : UInt8) : outS (x :: l ++ [c]) = .slice (some ⟨0, 0, none⟩) (l.length + 1 + 1) (l.length + 1 + 1) := by
  show Value.slice _ (l ++ [c]).length.succ (l ++ [c]).length.succ = _
  simp
theorem app_cells {sz : Nat} (h : sz = 1) (l : List UInt8) (n : Nat) (hn : n = l.length) (c : UInt8) (r : List Value) (v : Int) (hr : r = [.int .u8 v]) (hv : v = (c.toNat : Nat)) :
    List.take (n * sz) (l.map Byt) ++ List.take (1 * sz) (List.drop 0 r) = (l ++ [c]).map Byt := by
  subst h hn hr hv
  rw [Nat.mul_one, List.take_of_length_le (by simp)]
  simp
theorem app_cell0 {sz : Nat} (h : sz = 1) (c : UInt8) (r : List Value) (v : Int) (hr : r = [.int .u8 v]) (hv : v = (c.toNat : Nat)) : List.take (1 * sz) (List.drop 0 r) = [c].map Byt := by
  subst h hr hv
  simp
def frA (s : List UInt8) (i : Nat) (o : Value) : List Value := [S s, topV, topV, o, topV, topV, I64 s.length, I64 i, topV, topV, topV, topV, topV, topV, topV, topV, topV, topV, topV, topV]
theorem f51 (s : List UInt8) (hs : s.length < 2 ^ 40) (hl : ∀ c ∈ s, c ∈ LET)
    (h67 : ∀ m (c : UInt8), c ∈ LET → ACall Tryd.prog 67 [S [70, 79, 68, 76, 83, 80, 85, 86], Byt c] m fun v m' => v = I64 (kd c).toNat ∧ m' = m) :
    ACall Tryd.prog 51 [S s] [] fun v m' => v = outS (s.map kd) ∧ m' = outM (s.map kd) := by
  refine ACall.of_evP T 100 Tryd.func51 rfl ?_
  refine AWp.loopP T 100 (fun k a m' => ∃ i, k = s.length - i ∧ i ≤ s.length ∧ a = frA s i (outS ((s.take i).map kd)) ∧ m' = outM ((s.take i).map kd)) s.length ⟨frA s 0 (.slice none 0 0), [], Sees.to ?_, 0, rfl, by omega, rfl, rfl⟩ ?_
  · repeat (first | exact F2.nil | refine F2.cons (Or.inr rfl) ?_ | refine F2.cons (Or.inl rfl) ?_)
  · rintro k a m' ⟨i, rfl, hi, rfl, rfl⟩
    have hcl : i < s.length → s.getD i 0 ∈ LET := by
      intro h
      rw [List.getD_eq_getElem?_getD, List.getElem?_eq_getElem h]
      exact hl _ (List.getElem_mem h)
    have e1 : i < s.length → (s.take (i + 1)).map kd = (s.take i).map kd ++ [kd (s.getD i 0)] := by
      intro h
      rw [List.take_add_one, List.map_append, List.getElem?_eq_getElem h, List.getD_eq_getElem?_getD, List.getElem?_eq_getElem h]
      rfl
    have e2 : ¬ i < s.length → s.take i = s := fun h => List.take_of_length_le (by omega)
    rcases h : (s.take i).map kd with _ | ⟨x, l⟩
    · simp only [outS0, outM0, frA]
      refine And.intro (fun hc => ?_) (fun hc => ?_)
      · have hi' : i < s.length := by simpa using hc
        refine And.intro (by simp; omega) ?_
        refine (h67 _ _ (hcl hi')).mono ?_
        rintro v m' ⟨rfl, rfl⟩
        refine And.intro rfl ?_
        refine br_f rfl ?_
        refine And.intro rfl ?_
        have hw : IntKind.i64.wrap ((i : Int) + 1) = ((i + 1 : Nat) : Int) := wrap_i64 (by omega) (by omega)
        refine ⟨s.length - (i + 1), frA s (i + 1) (outS ((s.take (i + 1)).map kd)), _, by omega, Sees.packL [1] 2 rfl rfl rfl ?_, i + 1, rfl, by omega, rfl, ?_⟩
        · rw [e1 hi', h]
          repeat (first | exact F2.nil | refine F2.cons (Or.inl rfl) ?_ | refine F2.cons (Or.inr rfl) ?_ | refine F2.cons (Or.inr (congrArg (Value.int .i64) hw.symm)) ?_)
        · rw [e1 hi', h]
          refine congrArg (fun c => [some (ABlk.mk c 5 true false)]) (?_ : (List.take (1 * _) (List.drop 0 _)).map (reS _) = _)
          exact (congrArg (List.map (reS _)) (app_cell0 (sz5 lt5) (kd (s.getD i 0)) _ _ rfl (wrap_u8 _))).trans (re_bys _ _)
      · rw [e2 (by simpa using hc)] at h
        refine ⟨_, rfl, ?_⟩
        rw [h]; exact ⟨rfl, rfl⟩
    · simp only [outS1, outM1, frA]
      refine And.intro (fun hc => ?_) (fun hc => ?_)
      · have hi' : i < s.length := by simpa using hc
        refine And.intro (by simp; omega) ?_
        refine (h67 _ _ (hcl hi')).mono ?_
        rintro v m' ⟨rfl, rfl⟩
        refine And.intro rfl ?_
        have hll : l.length + 1 ≤ s.length := by
          have := congrArg List.length h
          simp at this; omega
        refine br_f (by simp) ?_
        refine And.intro (by simp [sz5, by5]; omega) ?_
        have hw : IntKind.i64.wrap ((i : Int) + 1) = ((i + 1 : Nat) : Int) := wrap_i64 (by omega) (by omega)
        refine ⟨s.length - (i + 1), frA s (i + 1) (outS ((s.take (i + 1)).map kd)), _, by omega, Sees.packL [2] 3 rfl rfl rfl ?_, i + 1, rfl, by omega, rfl, ?_⟩
        · rw [e1 hi', h, outS_snoc]
          repeat (first | exact F2.nil | refine F2.cons (Or.inl rfl) ?_ | refine F2.cons (Or.inr rfl) ?_ | refine F2.cons (Or.inr (congrArg (Value.int .i64) hw.symm)) ?_)
        · rw [e1 hi', h]
          refine congrArg (fun c => [some (ABlk.mk c 5 true false)]) (?_ : (List.take ((l.length + 1) * _) (List.map Byt (x :: l)) ++ List.take (1 * _) (List.drop 0 _)).map (reS _) = _)
          refine (congrArg (List.map (reS _)) (app_cells (sz5 lt5) (x :: l) (l.length + 1) rfl (kd (s.getD i 0)) _ _ rfl (wrap_u8 _))).trans (re_bys _ _)
      · rw [e2 (by simpa using hc)] at h
        refine ⟨_, rfl, ?_⟩
        rw [h]; exact ⟨rfl, rfl⟩
theorem f24_frame (l : List UInt8) (hl : l.length < 2 ^ 40) : ACall Tryd.prog 24 [.slice (some ⟨0, 0, none⟩) l.length l.length, .slice (some ⟨1, 0, none⟩) l.length l.length] [some ⟨l.map Byt, 5, false, false⟩, some ⟨l.map Byt, 5, false, false⟩] fun v m' => v = .bool true ∧ m' = [some ⟨l.map Byt, 5, false, false⟩, some ⟨l.map Byt, 5, false, false⟩] := by
  refine ACall.of_evP T 100 Tryd.func24 rfl ?_
  refine br_f (by simp) ?_
  refine AWp.loopP T 100 (fun k a m' => ∃ i : Nat, k = l.length - i ∧ i ≤ l.length ∧ a = [.slice (some ⟨0, 0, none⟩) l.length l.length, .slice (some ⟨1, 0, none⟩) l.length l.length, topV, topV, topV, I64 i, topV, topV, topV, topV, topV, topV, topV, topV, topV, topV, topV, topV, topV, topV, topV, topV, topV, topV, topV, topV] ∧ m' = [some ⟨l.map Byt, 5, false, false⟩, some ⟨l.map Byt, 5, false, false⟩]) l.length ⟨_, _, Sees.to ?_, 0, rfl, by omega, rfl, rfl⟩ ?_
  · repeat (first | exact F2.nil | refine F2.cons (Or.inr rfl) ?_ | refine F2.cons (Or.inl rfl) ?_)
  · rintro k a m' ⟨i, rfl, hi, rfl, rfl⟩
    refine And.intro (fun hc => ?_) (fun hc => ?_)
    · have hi' : i < l.length := by simpa using hc
      have hx : (l.map Byt)[0 + ((i : Int)).toNat * (Tryd.prog.types[5]'lt5).size]? = some (Byt (l.getD i 0)) := by
        simp [sz5, List.getD_eq_getElem?_getD, List.getElem?_eq_getElem hi']
      refine And.intro rfl (And.intro rfl (And.intro rfl (And.intro ?_ (And.intro rfl ⟨_, hx, And.intro rfl (And.intro rfl (And.intro rfl (And.intro ?_ (And.intro rfl ⟨_, hx, And.intro rfl (And.intro rfl ?_)⟩))))⟩))))
      · simp; omega
      · simp; omega
      refine br_f (by simp) ?_
      have hw : IntKind.i64.wrap ((i : Int) + 1) = ((i + 1 : Nat) : Int) := wrap_i64 (by omega) (by omega)
      refine ⟨l.length - (i + 1), _, _, by omega, Sees.to ?_, i + 1, rfl, by omega, rfl, rfl⟩
      repeat (first | exact F2.nil | refine F2.cons (Or.inl rfl) ?_ | refine F2.cons (Or.inr rfl) ?_ | refine F2.cons (Or.inr (congrArg (Value.int .i64) hw.symm)) ?_)
    · exact ⟨_, rfl, rfl, rfl⟩
abbrev frB (s : List UInt8) (i : Nat) (o : Value) : List Value := [S s, topV, topV, o, I64 i, topV, topV, topV, topV, topV, topV, topV, topV, topV, topV, topV, topV, topV, topV, topV, topV, topV, topV, topV, topV, topV, topV, topV]
abbrev frC (s : List UInt8) (i k : Nat) (o : Value) : List Value := [S s, topV, topV, o, I64 i, I64 k, topV, topV, topV, topV, topV, topV, topV, topV, topV, topV, topV, topV, topV, topV, topV, topV, topV, topV, topV, topV, topV, topV]
def plus (l : List UInt8) (c : UInt8) (k : Nat) : List UInt8 := l ++ (if (kd c).toNat < k then [kd c] else [])
theorem plus0 (l : List UInt8) (c : UInt8) : plus l c 0 = l := by simp [plus]
theorem plus8 (l : List UInt8) (c : UInt8) (hc : c ∈ LET) : plus l c 8 = l ++ [kd c] := by
  have := (kd_at c hc).1
  simp [plus, this]
theorem plusY {l : List UInt8} {c : UInt8} {k : Nat} (hk : k < 8) (h : LET.getD k 0 = c) : plus l c k = l ∧ plus l c (k + 1) = l ++ [kd c] ∧ (kd c).toNat = k := by
  have := kd_un k hk
  rw [h] at this
  have e : (kd c).toNat = k := by rw [this]; simp; omega
  simp [plus, e]
theorem plusN {l : List UInt8} {c : UInt8} {k : Nat} (hc : c ∈ LET) (h : ¬ LET.getD k 0 = c) : plus l c (k + 1) = plus l c k := by
  have h1 := kd_at c hc
  have : (kd c).toNat ≠ k := fun e => h (e ▸ h1.2)
  unfold plus
  congr 1
  by_cases h' : (kd c).toNat < k
  · rw [if_pos h', if_pos (by omega)]
  · rw [if_neg h', if_neg (by omega)]
theorem f25 (s : List UInt8) (hs : s.length < 2 ^ 40) (hl : ∀ c ∈ s, c ∈ LET) :
    ACall Tryd.prog 25 [S s] [] fun v m' => v = outS (s.map kd) ∧ m' = outM (s.map kd) := by
  refine ACall.of_evP T 100 Tryd.func25 rfl ?_
  refine AWp.loopP T 100 (fun k a m' => ∃ i, k = s.length - i ∧ i ≤ s.length ∧ a = frB s i (outS ((s.take i).map kd)) ∧ m' = outM ((s.take i).map kd)) s.length ⟨frB s 0 (.slice none 0 0), [], Sees.to ?_, 0, rfl, by omega, rfl, rfl⟩ ?_
  · repeat (first | exact F2.nil | refine F2.cons (Or.inr rfl) ?_ | refine F2.cons (Or.inl rfl) ?_)
  · rintro k a m' ⟨i, rfl, hi, rfl, rfl⟩
    have e2 : ¬ i < s.length → s.take i = s := fun h => List.take_of_length_le (by omega)
    refine And.intro (fun hc => ?_) (fun hc => ?_)
    · have hi' : i < s.length := by simpa using hc
      have e1 : (s.take (i + 1)).map kd = (s.take i).map kd ++ [kd (s.getD i 0)] := by
        rw [List.take_add_one, List.map_append, List.getElem?_eq_getElem hi', List.getD_eq_getElem?_getD, List.getElem?_eq_getElem hi']
        rfl
      have hcl : s.getD i 0 ∈ LET := by
        rw [List.getD_eq_getElem?_getD, List.getElem?_eq_getElem hi']
        exact hl _ (List.getElem_mem hi')
      generalize hcd : s.getD i 0 = c at e1 hcl
      refine AWp.loopP T 100 (fun k' a m' => ∃ k, k' = 8 - k ∧ k ≤ 8 ∧ a = frC s i k (outS (plus ((s.take i).map kd) c k)) ∧ m' = outM (plus ((s.take i).map kd) c k)) 8 ⟨frC s i 0 (outS (plus ((s.take i).map kd) c 0)), _, Sees.to ?_, 0, rfl, by omega, rfl, by rw [plus0]⟩ ?_
      · rw [plus0]
        repeat (first | exact F2.nil | refine F2.cons (Or.inr rfl) ?_ | refine F2.cons (Or.inl rfl) ?_)
      rintro k' a m' ⟨k, rfl, hk, rfl, rfl⟩
      rcases h : plus ((s.take i).map kd) c k with _ | ⟨x, l⟩
      · simp only [outS0, outM0]
        refine And.intro (fun hc => ?_) (fun hc => ?_)
        · have hk' : k < 8 := by
            have := of_decide_eq_true hc
            omega
          have hw : IntKind.i64.wrap ((k : Int) + 1) = ((k + 1 : Nat) : Int) := wrap_i64 (by omega) (by omega)
          refine And.intro (by kernel_rfl) (And.intro rfl (And.intro ?_ (And.intro rfl (And.intro rfl (And.intro rfl (And.intro ?_ (And.intro rfl (And.intro rfl ?_))))))))
          · simp; omega
          · simp; omega
          refine And.intro (fun heq => ?_) (fun hne => ?_)
          · have heq' : LET.getD k 0 = c := by
              have : (LET.getD k 0).toNat = (s.getD i 0).toNat := Int.ofNat.inj (eq_of_beq heq)
              rw [hcd] at this
              exact UInt8.toNat_inj.1 this
            obtain ⟨hp1, hp2, hpk⟩ := plusY (l := (s.take i).map kd) hk' heq'
            have hk8 : IntKind.u8.wrap (k : Int) = ((kd c).toNat : Nat) := by rw [hpk]; exact IntWalk.u8_in _ (by omega)
            have hp2 := hp2.trans (congrArg (· ++ [kd c]) (hp1.symm.trans h))
            refine And.intro rfl ?_
            refine br_f rfl ?_
            refine And.intro rfl ?_
            refine ⟨8 - (k + 1), frC s i (k + 1) (outS (plus ((s.take i).map kd) c (k + 1))), _, by omega, Sees.packL [1] 2 rfl rfl rfl ?_, k + 1, rfl, by omega, rfl, ?_⟩
            · rw [hp2]
              repeat (first | exact F2.nil | refine F2.cons (Or.inl rfl) ?_ | refine F2.cons (Or.inr rfl) ?_ | refine F2.cons (Or.inr (congrArg (Value.int .i64) hw.symm)) ?_)
            · rw [hp2]
              refine congrArg (fun c => [some (ABlk.mk c 5 true false)]) (?_ : (List.take (1 * _) (List.drop 0 _)).map (reS _) = _)
              exact (congrArg (List.map (reS _)) (app_cell0 (sz5 lt5) (kd c) _ _ rfl hk8)).trans (re_bys _ _)
          · have hne' : ¬ LET.getD k 0 = c := by
              intro e
              rw [← hcd] at e
              have hx : (LET.getD k 0).toNat = (s.getD i 0).toNat := by rw [e]
              exact ne_of_beq_false hne (congrArg Int.ofNat hx)
            have hp := plusN (l := (s.take i).map kd) hcl hne'
            rw [h] at hp
            refine ⟨8 - (k + 1), frC s i (k + 1) (outS (plus ((s.take i).map kd) c (k + 1))), _, by omega, Sees.to ?_, k + 1, rfl, by omega, rfl, ?_⟩
            · rw [hp]
              repeat (first | exact F2.nil | refine F2.cons (Or.inl rfl) ?_ | refine F2.cons (Or.inr rfl) ?_ | refine F2.cons (Or.inr (congrArg (Value.int .i64) hw.symm)) ?_)
            · rw [hp]; rfl
        · have hk' : k = 8 := by
            have := of_decide_eq_false hc
            omega
          subst hk'
          rw [plus8 _ _ hcl] at h
          have hw : IntKind.i64.wrap ((i : Int) + 1) = ((i + 1 : Nat) : Int) := wrap_i64 (by omega) (by omega)
          refine ⟨s.length - (i + 1), frB s (i + 1) (outS ((s.take (i + 1)).map kd)), _, by omega, Sees.to ?_, i + 1, rfl, by omega, rfl, ?_⟩
          · rw [e1, h]
            repeat (first | exact F2.nil | refine F2.cons (Or.inl rfl) ?_ | refine F2.cons (Or.inr rfl) ?_ | refine F2.cons (Or.inr (congrArg (Value.int .i64) hw.symm)) ?_)
          · rw [e1, h]; rfl
      · simp only [outS1, outM1]
        refine And.intro (fun hc => ?_) (fun hc => ?_)
        · have hk' : k < 8 := by
            have := of_decide_eq_true hc
            omega
          have hw : IntKind.i64.wrap ((k : Int) + 1) = ((k + 1 : Nat) : Int) := wrap_i64 (by omega) (by omega)
          refine And.intro (by kernel_rfl) (And.intro rfl (And.intro ?_ (And.intro rfl (And.intro rfl (And.intro rfl (And.intro ?_ (And.intro rfl (And.intro rfl ?_))))))))
          · simp; omega
          · simp; omega
          refine And.intro (fun heq => ?_) (fun hne => ?_)
          · have heq' : LET.getD k 0 = c := by
              have : (LET.getD k 0).toNat = (s.getD i 0).toNat := Int.ofNat.inj (eq_of_beq heq)
              rw [hcd] at this
              exact UInt8.toNat_inj.1 this
            obtain ⟨hp1, hp2, hpk⟩ := plusY (l := (s.take i).map kd) hk' heq'
            have hk8 : IntKind.u8.wrap (k : Int) = ((kd c).toNat : Nat) := by rw [hpk]; exact IntWalk.u8_in _ (by omega)
            have hp2 := hp2.trans (congrArg (· ++ [kd c]) (hp1.symm.trans h))
            have hll : l.length + 1 ≤ s.length := by
              have := congrArg List.length (hp1.symm.trans h)
              simp at this; omega
            refine And.intro rfl ?_
            refine br_f (by simp) ?_
            refine And.intro (by simp [sz5, by5]; omega) ?_
            refine ⟨8 - (k + 1), frC s i (k + 1) (outS (plus ((s.take i).map kd) c (k + 1))), _, by omega, Sees.packL [2] 3 rfl rfl rfl ?_, k + 1, rfl, by omega, rfl, ?_⟩
            · rw [hp2, outS_snoc]
              repeat (first | exact F2.nil | refine F2.cons (Or.inl rfl) ?_ | refine F2.cons (Or.inr rfl) ?_ | refine F2.cons (Or.inr (congrArg (Value.int .i64) hw.symm)) ?_)
            · rw [hp2]
              refine congrArg (fun c => [some (ABlk.mk c 5 true false)]) (?_ : (List.take ((l.length + 1) * _) (List.map Byt (x :: l)) ++ List.take (1 * _) (List.drop 0 _)).map (reS _) = _)
              exact (congrArg (List.map (reS _)) (app_cells (sz5 lt5) (x :: l) (l.length + 1) rfl (kd c) _ _ rfl hk8)).trans (re_bys _ _)
          · have hne' : ¬ LET.getD k 0 = c := by
              intro e
              rw [← hcd] at e
              have hx : (LET.getD k 0).toNat = (s.getD i 0).toNat := by rw [e]
              exact ne_of_beq_false hne (congrArg Int.ofNat hx)
            have hp := plusN (l := (s.take i).map kd) hcl hne'
            rw [h] at hp
            refine ⟨8 - (k + 1), frC s i (k + 1) (outS (plus ((s.take i).map kd) c (k + 1))), _, by omega, Sees.to ?_, k + 1, rfl, by omega, rfl, ?_⟩
            · rw [hp]
              repeat (first | exact F2.nil | refine F2.cons (Or.inl rfl) ?_ | refine F2.cons (Or.inr rfl) ?_ | refine F2.cons (Or.inr (congrArg (Value.int .i64) hw.symm)) ?_)
            · rw [hp]; rfl
        · have hk' : k = 8 := by
            have := of_decide_eq_false hc
            omega
          subst hk'
          rw [plus8 _ _ hcl] at h
          have hw : IntKind.i64.wrap ((i : Int) + 1) = ((i + 1 : Nat) : Int) := wrap_i64 (by omega) (by omega)
          refine ⟨s.length - (i + 1), frB s (i + 1) (outS ((s.take (i + 1)).map kd)), _, by omega, Sees.to ?_, i + 1, rfl, by omega, rfl, ?_⟩
          · rw [e1, h]
            repeat (first | exact F2.nil | refine F2.cons (Or.inl rfl) ?_ | refine F2.cons (Or.inr rfl) ?_ | refine F2.cons (Or.inr (congrArg (Value.int .i64) hw.symm)) ?_)
          · rw [e1, h]; rfl
    · have := e2 (by simpa using hc)
      rw [this]
      rcases s.map kd with _ | ⟨x, l⟩
      · exact ⟨_, rfl, rfl, rfl⟩
      · exact ⟨_, rfl, rfl, rfl⟩

abbrev HEADS : List UInt8 := [70, 80, 80, 80, 79, 79, 79, 79, 79, 79, 68]
abbrev UNIT : List UInt8 := [68, 76, 68, 68, 83, 68]
abbrev ENDS : List UInt8 := [68, 85, 85, 85, 68, 68]
def reps : Nat → List UInt8
  | 0 => []
  | n + 1 => reps n ++ UNIT
theorem reps_len (n : Nat) : (reps n).length = 6 * n := by
  induction n with
  | zero => rfl
  | succ n ih => simp only [reps, List.length_append, ih]; simp; omega
def blkW (n : Int) : List UInt8 := HEADS ++ reps (min n.toNat 65536) ++ ENDS
abbrev frL (b : Nat) (t d k : Bool) (n : Int) (s : List UInt8) (i : Nat) : List Value := [By b, .bool t, .bool d, .bool k, I64 n, topV, topV, topV, topV, topV, topV, topV, S s, I64 i] ++ List.replicate 58 topV
theorem strApp (l r : List UInt8) : Value.string ⟨(⟨l⟩ : Array UInt8) ++ ⟨r⟩⟩ = S (l ++ r) := by
  congr 2
  apply Array.ext'
  simp
theorem f26b (b : Nat) (t d k : Bool) (n : Int) (nm : List UInt8) (z c : Nat) (kn : Bool)
    (h20 : ∀ m, ACall Tryd.prog 20 [By b] m fun v m' => v = .agg ⟨[St nm, By 19, In z, In c, .bool kn]⟩ ∧ m' = m)
    (h53 : ∀ m, ACall Tryd.prog 53 [By b] m fun v m' => v = St (HEADS ++ ENDS) ∧ m' = m) :
    ACall Tryd.prog 26 [By b, .bool t, .bool d, .bool k, I64 n] [] fun v m' => v = St (blkW n) ∧ m' = [] := by
  refine ACall.of_evP T 100 Tryd.func26 rfl ?_
  refine (h20 _).mono ?_
  rintro v m' ⟨rfl, rfl⟩
  refine And.intro rfl ?_
  refine (h53 _).mono ?_
  rintro v m' ⟨rfl, rfl⟩
  refine ⟨_, rfl, ?_⟩
  refine br_t rfl ?_
  refine And.intro rfl (And.intro rfl ?_)
  refine AWp.loopP T 100 (fun q a m' => ∃ i, q = min n.toNat 65536 - i ∧ i ≤ min n.toNat 65536 ∧ a = frL b t d k n (HEADS ++ reps i) i ∧ m' = []) (min n.toNat 65536) ⟨frL b t d k n (HEADS ++ reps 0) 0, [], Sees.packL [] 1 rfl rfl rfl ?_, 0, rfl, by omega, rfl, rfl⟩ ?_
  · repeat (first | exact F2.nil | refine F2.cons (Or.inl rfl) ?_ | refine F2.cons (Or.inr rfl) ?_)
  rintro q a m' ⟨i, rfl, hi, rfl, rfl⟩
  have hw : IntKind.i64.wrap ((i : Int) + 1) = ((i + 1 : Nat) : Int) := wrap_i64 (by omega) (by omega)
  have hl : (HEADS ++ reps i).length = 11 + 6 * i := by rw [List.length_append, reps_len]; rfl
  have step : i < min n.toNat 65536 → ∀ a m', F2 Less (a.map (re (packN 0 []))) (frL b t d k n (HEADS ++ reps (i + 1)) (i + 1)) → m' = [] → ∃ q a'' m'', q < min n.toNat 65536 - i ∧ Sees 0 a m' a'' m'' ∧ ∃ i, q = min n.toNat 65536 - i ∧ i ≤ min n.toNat 65536 ∧ a'' = frL b t d k n (HEADS ++ reps i) i ∧ m'' = [] := by
    rintro hlt a m' hf rfl
    exact ⟨min n.toNat 65536 - (i + 1), _, _, by omega, Sees.packL [] 0 rfl rfl rfl hf, i + 1, rfl, by omega, rfl, rfl⟩
  have last : ¬ i < min n.toNat 65536 → HEADS ++ reps i ++ ENDS = blkW n := fun h => by
    have : i = min n.toNat 65536 := by omega
    subst this; rfl
  refine And.intro (fun h1 => ?_) (fun h1 => ?_)
  · have h1' : (i : Int) < n := by simpa using h1
    refine br_t h1 ?_
    refine And.intro (fun h2 => ?_) (fun h2 => ?_)
    · have h2' : (i : Int) < 65536 := by
        have : decide ((i : Int) < 65536) = true := by
          simpa [h1'] using h2
        exact of_decide_eq_true this
      refine And.intro (by
        refine decide_eq_true ?_
        show (HEADS ++ reps i).length + 6 ≤ 9223372036854775807
        omega) ?_
      refine step (by omega) _ _ ?_ rfl
      have hs : S (HEADS ++ reps (i + 1)) = Value.string ⟨(⟨HEADS ++ reps i⟩ : Array UInt8) ++ ⟨UNIT⟩⟩ := by
        rw [strApp]; simp [reps]
      repeat (first | exact F2.nil | refine F2.cons (Or.inl rfl) ?_ | refine F2.cons (Or.inr rfl) ?_ | refine F2.cons (Or.inr (congrArg (Value.int .i64) hw.symm)) ?_ | refine F2.cons (Or.inr hs) ?_)
    · have h2' : ¬ (i : Int) < 65536 := by
        have : decide ((i : Int) < 65536) = false := by
          simpa [h1'] using h2
        exact of_decide_eq_false this
      refine And.intro (by
        refine decide_eq_true ?_
        show (HEADS ++ reps i).length + 6 ≤ 9223372036854775807
        omega) ?_
      exact ⟨_, rfl, by rw [← last (by omega)]; exact strApp _ _, rfl⟩
  · have h1' : ¬ (i : Int) < n := by simpa using h1
    refine br_f h1 ?_
    refine And.intro (fun h => absurd h (by simpa using h1')) (fun _ => ?_)
    refine br_f rfl ?_
    refine And.intro (by
      refine decide_eq_true ?_
      show (HEADS ++ reps i).length + 6 ≤ 9223372036854775807
      omega) ?_
    exact ⟨_, rfl, by rw [← last (by omega)]; exact strApp _ _, rfl⟩

/-- A slice of three strings, joined. -/
theorem f56 (m : Mem) (j : Nat) (w : List UInt8) (n c : Nat) (h71 : ACall Tryd.prog 71 [.slice (some ⟨j, 0, none⟩) n c, S []] m fun v m' => v = S w ∧ m' = m) : ACall Tryd.prog 56 [.slice (some ⟨j, 0, none⟩) n c] m fun v m' => v = S w ∧ m' = m := by
  refine ACall.of_evP T 100 Tryd.func56 rfl ?_
  refine h71.mono ?_
  rintro v m' ⟨rfl, rfl⟩
  exact ⟨_, rfl, rfl, rfl⟩
theorem f52b (b : Nat) (t d k : Bool) (n : Int) (nm : List UInt8) (z c : Nat)
    (h34 : ∀ m, ACall Tryd.prog 34 [By b] m fun v m' => v = .agg ⟨[St nm, By 19, In z, In c]⟩ ∧ m' = m)
    (h88 : ∀ m e, e = ((min n.toNat 65536 : Nat) : Int) → ACall Tryd.prog 88 [S UNIT, I64 e] m fun v m' => v = S (reps (min n.toNat 65536)) ∧ m' = m)
    (h71 : ∀ (m : Mem) (j : Nat) (b : ABlk), m[j]? = some (some b) → b.cells = [S HEADS, S (reps (min n.toNat 65536)), S ENDS] → ACall Tryd.prog 71 [.slice (some ⟨j, 0, none⟩) 3 3, S []] m fun v m' => v = S (blkW n) ∧ m' = m) :
    ACall Tryd.prog 52 [By b, .agg ⟨[.bool t, .bool d, .bool k, I64 n]⟩] [] fun v m' => v = S (blkW n) ∧ m' = [] := by
  refine ACall.gc ?_
  refine ACall.of_evP T 100 Tryd.func52 rfl ?_
  refine (h34 _).mono ?_
  rintro v m' ⟨rfl, rfl⟩
  refine And.intro rfl ?_
  refine ⟨_, rfl, ?_⟩
  refine br_t rfl ?_
  refine ⟨_, rfl, ?_⟩
  refine (h88 _ _ ?_).mono ?_
  · show (if _ then _ else _) = _
    split <;> split <;> omega
  rintro v m' ⟨rfl, rfl⟩
  refine (f56 _ _ (blkW n) _ _ (h71 _ _ _ rfl rfl)).mono ?_
  rintro v m' ⟨rfl, rfl⟩
  exact ⟨_, rfl, rfl, rfl⟩
theorem f22 (b : Nat) (t d k : Bool) (n : Int) (w : List UInt8)
    (h52 : ∀ m, ACall Tryd.prog 52 [By b, .agg ⟨[.bool t, .bool d, .bool k, I64 n]⟩] m fun v m' => v = S w ∧ m' = m)
    (h51 : ∀ m : Mem, ACall Tryd.prog 51 [S w] m fun v m' => v = .slice (some ⟨m.length, 0, none⟩) w.length w.length ∧ m' = m ++ [some ⟨(w.map kd).map Byt, 5, true, false⟩]) :
    ACall Tryd.prog 22 [By b, .agg ⟨[.bool t, .bool d, .bool k, I64 n]⟩] [] fun v m' => v = .slice (some ⟨1, 0, none⟩) w.length w.length ∧ m' = [some ⟨[.bool t, .bool d, .bool k, I64 n], 35, true, true⟩, some ⟨(w.map kd).map Byt, 5, true, false⟩] := by
  refine ACall.of_evP T 100 Tryd.func22 rfl ?_
  refine And.intro rfl ?_
  refine (h52 _).mono ?_
  rintro v m' ⟨rfl, rfl⟩
  refine (h51 _).mono ?_
  rintro v m' ⟨rfl, rfl⟩
  exact ⟨_, rfl, rfl, rfl⟩
theorem f23 (b : Nat) (t d k : Bool) (n : Int) (w : List UInt8)
    (h52 : ∀ m, ACall Tryd.prog 52 [By b, .agg ⟨[.bool t, .bool d, .bool k, I64 n]⟩] m fun v m' => v = S w ∧ m' = m) :
    ACall Tryd.prog 23 [By b, .agg ⟨[.bool t, .bool d, .bool k, I64 n]⟩] [] fun v m' => v = I64 w.length ∧ m' = [some ⟨[.bool t, .bool d, .bool k, I64 n], 35, true, true⟩] := by
  refine ACall.of_evP T 100 Tryd.func23 rfl ?_
  refine And.intro rfl ?_
  refine (h52 _).mono ?_
  rintro v m' ⟨rfl, rfl⟩
  exact ⟨_, rfl, rfl, rfl⟩

theorem f5 (b md z c : Nat) (t d k kn : Bool) (n : Int) (nm w : List UInt8) (bx : ABlk) (hB : n = 65536 → md = 19 → w.length = 393233)
    (h20 : ∀ m, ACall Tryd.prog 20 [By b] m fun v m' => v = .agg ⟨[St nm, By md, In z, In c, .bool kn]⟩ ∧ m' = m)
    (h21 : ∀ m, ACall Tryd.prog 21 [] m fun v m' => v = .bool true ∧ m' = m)
    (h22 : ∀ m : Mem, ACall Tryd.prog 22 [By b, .agg ⟨[.bool t, .bool d, .bool k, I64 n]⟩] m fun v m' => v = .slice (some ⟨m.length + 1, 0, none⟩) w.length w.length ∧ m' = m ++ [some bx, some ⟨(w.map kd).map Byt, 5, true, false⟩])
    (h23 : ∀ m : Mem, ACall Tryd.prog 23 [By b, .agg ⟨[.bool t, .bool d, .bool k, I64 n]⟩] m fun v m' => v = I64 w.length ∧ m' = m ++ [some bx])
    (h24 : ∀ (m : Mem) (i j : Nat) (b1 b2 : ABlk), m[i]? = some (some b1) → m[j]? = some (some b2) → b1.cells = (w.map kd).map Byt → b2.cells = (w.map kd).map Byt → b1.elem = 5 → b2.elem = 5 →
      ACall Tryd.prog 24 [.slice (some ⟨i, 0, none⟩) w.length w.length, .slice (some ⟨j, 0, none⟩) w.length w.length] m fun v m' => v = .bool true ∧ m' = m)
    (h25 : ∀ m : Mem, ACall Tryd.prog 25 [S w] m fun v m' => v = .slice (some ⟨m.length, 0, none⟩) w.length w.length ∧ m' = m ++ [some ⟨(w.map kd).map Byt, 5, true, false⟩])
    (h26 : ∀ m, ACall Tryd.prog 26 [By b, .bool t, .bool d, .bool k, I64 n] m fun v m' => v = S w ∧ m' = m) :
    ACall Tryd.prog 5 [By b, .agg ⟨[.bool t, .bool d, .bool k, I64 n]⟩] [] fun v _ => v = .bool true := by
  refine ACall.of_evP T 100 Tryd.func5 rfl ?_
  refine (h21 _).mono ?_
  rintro v m' ⟨rfl, rfl⟩
  refine br_f rfl ?_
  refine ⟨_, rfl, ?_⟩
  refine And.intro (fun h1 => ?_) (fun h1 => ?_)
  · have h1' : n > 1000 := by simpa using h1
    refine br_t h1 ⟨_, rfl, br_t h1 ?_⟩
    refine And.intro (fun h2 => ?_) (fun h2 => ?_)
    · exact ⟨_, rfl, rfl⟩
    refine And.intro rfl ?_
    refine (h22 _).mono ?_
    rintro v m' ⟨rfl, rfl⟩
    refine ⟨_, rfl, ?_⟩
    refine br_t h1 (br_t h1 ?_)
    refine (h20 _).mono ?_
    rintro v m' ⟨rfl, rfl⟩
    refine br_t h1 (br_t h1 ?_)
    refine And.intro (fun h3 => ?_) (fun h3 => ?_)
    · have h3' : md = 19 := by
        have : (Int.ofNat md == 19) = true := by simpa [h1'] using h3
        exact Int.ofNat.inj (eq_of_beq this)
      have h2' : n = 65536 := by
        have : (n != 65536) = false := by simpa [h1'] using h2
        simpa using this
      have hL := hB h2' h3'
      have hg : (((w.length : Int) == 393233) == true) = true := by rw [hL]; rfl
      refine br_t hg (br_t hg ?_)
      refine And.intro rfl (br_t hg ?_)
      refine (h23 _).mono ?_
      rintro v m' ⟨rfl, rfl⟩
      refine br_t hg ?_
      exact ⟨_, rfl, by simp [hL]⟩
    · refine ⟨_, rfl, ⟨_, rfl, ⟨_, rfl, ?_⟩⟩⟩
      refine (h26 _).mono ?_
      rintro v m' ⟨rfl, rfl⟩
      refine (h25 _).mono ?_
      rintro v m' ⟨rfl, rfl⟩
      refine (h24 _ _ _ _ _ rfl rfl rfl rfl rfl rfl).mono ?_
      rintro v m' ⟨rfl, rfl⟩
      refine br_t rfl (br_t rfl ?_)
      refine And.intro rfl ?_
      refine br_t rfl ?_
      refine (h23 _).mono ?_
      rintro v m' ⟨rfl, rfl⟩
      refine br_t rfl (br_t rfl (br_t rfl ?_))
      exact ⟨_, rfl, by simp⟩
  · have h1' : ¬ n > 1000 := by simpa using h1
    refine br_f h1 (br_f h1 ?_)
    refine And.intro (fun h => absurd h (by simpa using h1')) (fun _ => ?_)
    refine br_f rfl ?_
    refine And.intro rfl ?_
    refine (h22 _).mono ?_
    rintro v m' ⟨rfl, rfl⟩
    refine ⟨_, rfl, ?_⟩
    refine br_f h1 (br_f h1 (br_f h1 (br_f h1 ?_)))
    refine And.intro (fun h => absurd h (by simpa using h1')) (fun _ => ?_)
    refine br_f rfl ?_
    refine ⟨_, rfl, ⟨_, rfl, ⟨_, rfl, ?_⟩⟩⟩
    refine (h26 _).mono ?_
    rintro v m' ⟨rfl, rfl⟩
    refine (h25 _).mono ?_
    rintro v m' ⟨rfl, rfl⟩
    refine (h24 _ _ _ _ _ rfl rfl rfl rfl rfl rfl).mono ?_
    rintro v m' ⟨rfl, rfl⟩
    refine br_t rfl (br_t rfl ?_)
    refine And.intro rfl ?_
    refine br_t rfl ?_
    refine (h23 _).mono ?_
    rintro v m' ⟨rfl, rfl⟩
    refine br_t rfl (br_t rfl (br_t rfl ?_))
    exact ⟨_, rfl, by simp⟩

/-- The library's search, at the eight letters. -/
theorem f67 (m : Mem) (c : UInt8) (hc : c ∈ LET) : ACall Tryd.prog 67 [S [70, 79, 68, 76, 83, 80, 85, 86], Byt c] m fun v m' => v = I64 (kd c).toNat ∧ m' = m := by
  have e : ixI (ixB (((c.toNat : Nat) : Int).toNat.toUInt8) LET) = (((kd c).toNat : Nat) : Int) := by
    have h1 : (((c.toNat : Nat) : Int).toNat.toUInt8) = c := by simp
    rw [h1]
    have h2 : ∀ c ∈ LET, ixI (ixB c LET) = (((kd c).toNat : Nat) : Int) := by decide
    exact h2 c hc
  refine (oIndexByte_ok [S LET, Byt c] m (I64 (ixI (ixB (((c.toNat : Nat) : Int).toNat.toUInt8) LET))) m rfl).mono ?_
  rintro v m' ⟨rfl, rfl⟩
  exact ⟨by rw [e], rfl⟩
theorem outS_ne {w : List UInt8} (h : w ≠ []) : outS w = .slice (some ⟨0, 0, none⟩) w.length w.length := by
  cases w with
  | nil => exact absurd rfl h
  | cons x l => rfl
theorem outM_ne {w : List UInt8} (h : w ≠ []) : outM w = [some ⟨w.map Byt, 5, true, false⟩] := by
  cases w with
  | nil => exact absurd rfl h
  | cons x l => rfl
theorem kinds_lift {f : FuncId} {w : List UInt8} (hw : w ≠ []) (h : ACall Tryd.prog f [S w] [] fun v m' => v = outS (w.map kd) ∧ m' = outM (w.map kd)) (m : Mem) :
    ACall Tryd.prog f [S w] m fun v m' => v = .slice (some ⟨m.length, 0, none⟩) w.length w.length ∧ m' = m ++ [some ⟨(w.map kd).map Byt, 5, true, false⟩] := by
  have hk : w.map kd ≠ [] := by simpa using hw
  have := ACall.lift (v := .slice (some ⟨0, 0, none⟩) w.length w.length) (nb := [⟨(w.map kd).map Byt, 5, true, false⟩]) (h.mono fun v m' ⟨h1, h2⟩ => by
    rw [outS_ne hk] at h1
    rw [outM_ne hk] at h2
    exact ⟨by rw [h1]; simp, h2⟩) rfl rfl m
  refine this.mono ?_
  rintro v m' ⟨rfl, rfl⟩
  refine ⟨rfl, ?_⟩
  simp only [List.map_cons, List.map_nil, renBlk, ren_bys]
theorem f24 (w : List UInt8) (hw : w.length < 2 ^ 40) (m : Mem) (i j : Nat) (b1 b2 : ABlk) (hi : m[i]? = some (some b1)) (hj : m[j]? = some (some b2)) (h1 : b1.cells = (w.map kd).map Byt) (h2 : b2.cells = (w.map kd).map Byt) (e1 : b1.elem = 5) (e2 : b2.elem = 5) :
    ACall Tryd.prog 24 [.slice (some ⟨i, 0, none⟩) w.length w.length, .slice (some ⟨j, 0, none⟩) w.length w.length] m fun v m' => v = .bool true ∧ m' = m := by
  have base := f24_frame (w.map kd) (by simpa using hw)
  rw [List.length_map] at base
  have lowB : ∀ n, ((w.map kd).map Byt).all (lowS n) = true := fun n => List.all_eq_true.2 fun x hx => by
    obtain ⟨c, _, rfl⟩ := List.mem_map.1 hx
    rfl
  have := ACall.frame (K := fun v l => v = .bool true ∧ l = []) (base.mono fun v m' ⟨h1, h2⟩ => ⟨[], by rw [h2]; rfl, rfl, h1, rfl⟩) m [i, j] (by
    refine ⟨rfl, fun q b hb => ?_⟩
    match q, hb with
    | 0, hb =>
      simp only [List.getElem?_cons_zero, Option.some.injEq] at hb
      subst hb
      exact ⟨i, b1, rfl, hi, by rw [h1]; exact (ren_bys _ _).symm, e1, fun h => (by cases h), rfl, lowB _⟩
    | 1, hb =>
      simp only [List.getElem?_cons_succ, List.getElem?_cons_zero, Option.some.injEq] at hb
      subst hb
      exact ⟨j, b2, rfl, hj, by rw [h2]; exact (ren_bys _ _).symm, e2, fun h => (by cases h), rfl, lowB _⟩
    | q + 2, hb => simp at hb) (fun q hq => by
      simp only [List.mem_cons, List.not_mem_nil, or_false] at hq
      rcases hq with rfl | rfl
      · exact lt_of_getElem? hi
      · exact lt_of_getElem? hj) rfl
  refine ACall.mono this ?_
  rintro v m' ⟨v0, nb, ⟨rfl, hnb⟩, rfl, rfl⟩
  have : nb = [] := by simpa using hnb
  subst this
  exact ⟨rfl, by simp⟩
theorem f22' (b : Nat) (t d k : Bool) (n : Int) (w : List UInt8) (hw : w ≠ []) (hs : w.length < 2 ^ 40) (hl : ∀ c ∈ w, c ∈ LET)
    (h52 : ∀ m, ACall Tryd.prog 52 [By b, .agg ⟨[.bool t, .bool d, .bool k, I64 n]⟩] m fun v m' => v = S w ∧ m' = m) (m : Mem) :
    ACall Tryd.prog 22 [By b, .agg ⟨[.bool t, .bool d, .bool k, I64 n]⟩] m fun v m' => v = .slice (some ⟨m.length + 1, 0, none⟩) w.length w.length ∧ m' = m ++ [some ⟨[.bool t, .bool d, .bool k, I64 n], 35, true, true⟩, some ⟨(w.map kd).map Byt, 5, true, false⟩] := by
  refine (ACall.lift (nb := [⟨[.bool t, .bool d, .bool k, I64 n], 35, true, true⟩, ⟨(w.map kd).map Byt, 5, true, false⟩]) (f22 b t d k n w h52 (kinds_lift hw (f51 w hs hl f67))) rfl rfl m).mono ?_
  rintro v m' ⟨rfl, rfl⟩
  refine ⟨rfl, ?_⟩
  simp only [List.map_cons, List.map_nil, renBlk, ren_bys]
  rfl
theorem f23' (b : Nat) (t d k : Bool) (n : Int) (w : List UInt8)
    (h52 : ∀ m, ACall Tryd.prog 52 [By b, .agg ⟨[.bool t, .bool d, .bool k, I64 n]⟩] m fun v m' => v = S w ∧ m' = m) (m : Mem) :
    ACall Tryd.prog 23 [By b, .agg ⟨[.bool t, .bool d, .bool k, I64 n]⟩] m fun v m' => v = I64 w.length ∧ m' = m ++ [some ⟨[.bool t, .bool d, .bool k, I64 n], 35, true, true⟩] := by
  refine (ACall.lift (nb := [⟨[.bool t, .bool d, .bool k, I64 n], 35, true, true⟩]) (f23 b t d k n w h52) rfl rfl m).mono ?_
  rintro v m' ⟨rfl, rfl⟩
  exact ⟨rfl, rfl⟩
/-- A contract without memory of its own. -/
theorem lift0 {f : FuncId} {aa : List Value} {v : Value} (h : ACall Tryd.prog f aa [] fun x m' => x = v ∧ m' = []) (ha : aa.all plainC = true) (hv : plainC v = true) (m : Mem) : ACall Tryd.prog f aa m fun x m' => x = v ∧ m' = m := by
  refine (ACall.lift (nb := []) h rfl ha m).mono ?_
  rintro x m' ⟨rfl, rfl⟩
  exact ⟨ren_plain _ hv, by simp⟩
theorem repeatL_reps (n : Nat) : Lib.repeatL UNIT n = reps n := by
  induction n with
  | zero => rfl
  | succ n ih =>
    rw [Lib.repeatL_add, ih]
    rfl
theorem f52b' (b : Nat) (t d k : Bool) (n : Int) (nm : List UInt8) (z c : Nat)
    (h34 : ∀ m, ACall Tryd.prog 34 [By b] m fun v m' => v = .agg ⟨[St nm, By 19, In z, In c]⟩ ∧ m' = m) :
    ACall Tryd.prog 52 [By b, .agg ⟨[.bool t, .bool d, .bool k, I64 n]⟩] [] fun v m' => v = S (blkW n) ∧ m' = [] := by
  refine f52b b t d k n nm z c h34 ?_ ?_
  · rintro m e rfl
    have h : oRepeat [S UNIT, I64 ((min n.toNat 65536 : Nat) : Int)] m = some (S (reps (min n.toNat 65536)), m) := by
      show (bif Nat.ble (min n.toNat 65536) 9223372036854775807 && Nat.ble (6 * min n.toNat 65536) 140737488355328 then some (Value.string ⟨⟨Lib.repeatL UNIT (min n.toNat 65536)⟩⟩, m) else none) = _
      rw [repeatL_reps, Nat.ble_eq_true_of_le (by omega), Nat.ble_eq_true_of_le (by omega)]
      rfl
    refine (oRepeat_ok _ _ _ _ h).mono ?_
    rintro v m' ⟨rfl, rfl⟩
    exact ⟨rfl, rfl⟩
  · intro m j b0 hj hb0
    have h : oJoin [.slice (some ⟨j, 0, none⟩) 3 3, S []] m = some (S (blkW n), m) := by
      have hl := reps_len (min n.toNat 65536)
      have hw : Lib.join [HEADS, reps (min n.toNat 65536), ENDS] [] = blkW n := by
        simp [Lib.join, List.intercalate, blkW]
      have e : oJoin [.slice (some ⟨j, 0, none⟩) 3 3, S []] m = bif Nat.ble (Lib.join [HEADS, reps (min n.toNat 65536), ENDS] []).length 140737488355328 then some (S (Lib.join [HEADS, reps (min n.toNat 65536), ENDS] []), m) else none := by
        simp only [oJoin, hj, hb0]
        rfl
      rw [e, hw, Nat.ble_eq_true_of_le]
      · rfl
      · have : (blkW n).length = 11 + 6 * min n.toNat 65536 + 6 := by
          simp only [blkW, List.length_append, hl]
          rfl
        omega
    refine (oJoin_ok _ _ _ _ h).mono ?_
    rintro v m' ⟨rfl, rfl⟩
    exact ⟨rfl, rfl⟩
end Go.Proofs.YtfohjnfdgegfcaaDoor
