/-
  slices.Backward over accesses, as an iterator that bears a slice. Conditions: none.
-/
import Derived.RangeFuncNested
import Derived.RangeFuncBound
import Derived.RangeFuncCalls
import Derived.RangeFuncLeaves
import Derived.RangeFuncBox
import Derived.Shelf.Abstract
import Derived.Shelf.RegionOpen
import Derived.WalkKit
import Derived.OwnWalkIn
import Derived.TacticsInMore
import Derived.LoopNIn
import Derived.LoopIn
import Derived.Maps.AppendAt
import Derived.Test.YtciemdpcllpdkaaDoorBase
namespace Go.Proofs.YtciemdpcllpdkaaDoor
open Go Go.RowKit Go.Shelf Go.AE Go.SX
set_option maxRecDepth 100000
set_option linter.unusedVariables false
attribute [local go_sem] Oper.semAt_some
@[reducible] def fam00 : Fam := ⟨fun _ _ => .u, fun _ _ => noOb, fun _ _ => .top, fun _ _ _ => hasT _, fun _ => false, fun _ _ h => (by cases h), fun _ => [], fun _ => .x, fun _ _ _ _ => rfl⟩
structure BoxRows (box : Addr) (a : Option Addr) (bb off len cap : Nat) (row : Nat → List Value) (W : World) : Prop where
  cell : W.cell? box = some (.slice a len cap)
  adr : 0 < len → a = some ⟨bb, off, none⟩
  rows : ∀ i, i < len → (row i).length = 5 ∧ ∀ k, k < 5 → W.cell? ⟨bb, off + i * 5 + k, none⟩ = (row i)[k]?
def bkL (len : Nat) (row : Nat → List Value) : List (List Value) := (List.range len).map fun k => [.int .i64 ((len - 1 - k : Nat) : Int), .agg ⟨row (len - 1 - k)⟩]
theorem bkL_at {len : Nat} {row : Nat → List Value} {k : Nat} (h : k < len) : (bkL len row)[k]? = some [.int .i64 ((len - 1 - k : Nat) : Int), .agg ⟨row (len - 1 - k)⟩] := by
  unfold bkL
  rw [List.getElem?_map, List.getElem?_range h]; rfl
set_option maxHeartbeats 1000000 in
theorem bkw_in (len : Nat) (hmx : ((len : Nat) : Int) ≤ 9223372036854775807) (m l : Nat) (box : Addr) (a : Option Addr) (bb off cap : Nat) (row : Nat → List Value) (J : Nat → World → Prop) (Jx : World → Prop) (W : World) (hJ : ∀ k W W', J k W → W.grownBy W' none → J k W') (hP : ∀ k W, J k W → BoxRows box a bb off len cap row W)
    (hY : ∀ k v W1, (bkL len row)[k]? = some v → J k W1 → ∀ m', YieldAt Fence.wide m' Tryd.prog l ⟨v⟩ W1 fun e W' => (e = .returned (.bool true) ∧ J (k + 1) W') ∨ (e = .returned (.bool false) ∧ Jx W'))
    (h0 : J 0 W) :
    CallsIn Fence.wide m Tryd.prog 86 #[.func (.yield l) #[] #[], .pointer (some box)] W fun e W' => (∃ v, e = .returned v) ∧ (J len W' ∨ Jx W') := by
  refine callsIn_of_wp Tryd.func86 rfl trivial ?_ rfl
  simp only [Tryd.ntmps86, List.size_toArray, List.length_cons, List.length_nil, Nat.reduceAdd, Nat.reduceSub, Array.replicate_succ, Array.replicate_zero, List.push_toArray, List.append_toArray, List.nil_append, List.cons_append]
  have hc0 := (hP 0 W h0).cell
  have hw0 : wrap64 ((len : Int) - 1) = (len : Int) - 1 := by
    unfold wrap64
    omega
  gi_wp2
  gi_loopw [3] (fun p wr => ∃ k : Nat, k ≤ len ∧ p = .int .i64 ((len : Int) - 1 - k) ∧ J k wr)
    (fun p wr => (intOf p + 1).toNat)
  case atStart =>
    exact ⟨0, by omega, by simp, h0⟩
  case round =>
    obtain ⟨k, hk, rfl, hJs⟩ := hrel
    by_cases hk' : k < len
    · have hadr := (hP k wr hJs).adr (by omega)
      subst hadr
      have hcw := (hP k wr hJs).cell
      have hrw := (hP k wr hJs).rows (len - 1 - k) (by omega)
      have hge : (0 : Int) ≤ (len : Int) - 1 - k := by omega
      have hcast : ((len : Int) - 1 - k) = ((len - 1 - k : Nat) : Int) := by omega
      obtain ⟨i, hi⟩ : ∃ i, i = len - 1 - k := ⟨_, rfl⟩
      rw [← hi] at hcast hrw
      rw [hcast]
      have hil : i < len := by omega
      have hvk := bkL_at (row := row) hk'
      rw [← hi] at hvk
      clear hi
      obtain ⟨hl5, hcells⟩ := hrw
      obtain ⟨c0, c1, c2, c3, c4, hrow⟩ : ∃ c0 c1 c2 c3 c4, row i = [c0, c1, c2, c3, c4] := by
        match row i, hl5 with
        | [c0, c1, c2, c3, c4], _ => exact ⟨c0, c1, c2, c3, c4, rfl⟩
      have e0 := hcells 0 (by omega)
      have e1 := hcells 1 (by omega)
      have e2 := hcells 2 (by omega)
      have e3 := hcells 3 (by omega)
      have e4 := hcells 4 (by omega)
      rw [hrow] at e0 e1 e2 e3 e4
      have e0 : wr.cell? ⟨bb, off + i * 5, none⟩ = some c0 := e0
      have e1 : wr.cell? ⟨bb, off + i * 5 + 1, none⟩ = some c1 := e1
      have e2 : wr.cell? ⟨bb, off + i * 5 + 2, none⟩ = some c2 := e2
      have e3 : wr.cell? ⟨bb, off + i * 5 + 3, none⟩ = some c3 := e3
      have e4 : wr.cell? ⟨bb, off + i * 5 + 4, none⟩ = some c4 := e4
      rw [hrow] at hvk
      obtain ⟨fn, tmps, assign, body, hy, hR⟩ := hY k _ wr hvk hJs (m - 1)
      have hw1 : wrap64 ((i : Int) - 1) = (i : Int) - 1 := by
        unfold wrap64
        omega
      gi_wp2
      refine ⟨fun h => (by cases h), hR.mono ?_⟩
      rintro e w3 (⟨rfl, hJ3⟩ | ⟨rfl, hJx3⟩)
      · gi_wp2
        go_roundw
        case rel => exact ⟨k + 1, by omega, by congr 1; omega, hJ3⟩
        case measure => simp [intOf]
      · gi_wp2
        refine bodyPost_ret (results_none rfl _ _ _) rfl ?_
        exact ⟨⟨_, rfl⟩, .inr hJx3⟩
    · obtain rfl : k = len := by omega
      have hneg : ((k : Int) - 1 - k) = -1 := by omega
      rw [hneg]
      gi_wp2
      go_end0
      exact ⟨⟨_, rfl⟩, .inl hJs⟩
theorem bkw_zero (m l : Nat) (box : Addr) (a : Option Addr) (cap : Nat) (J : Nat → World → Prop) (Jx : World → Prop) (W : World) (hc : W.cell? box = some (.slice a 0 cap)) (h0 : J 0 W) :
    CallsIn Fence.wide m Tryd.prog 86 #[.func (.yield l) #[] #[], .pointer (some box)] W fun e W' => (∃ v, e = .returned v) ∧ (J 0 W' ∨ Jx W') := by
  refine callsIn_of_wp Tryd.func86 rfl trivial ?_ rfl
  simp only [Tryd.ntmps86, List.size_toArray, List.length_cons, List.length_nil, Nat.reduceAdd, Nat.reduceSub, Array.replicate_succ, Array.replicate_zero, List.push_toArray, List.append_toArray, List.nil_append, List.cons_append]
  gi_wp2
  gi_loopw [3] (fun p wr => p = .int .i64 (-1) ∧ J 0 wr)
    (fun p wr => (intOf p + 1).toNat)
  case atStart => exact ⟨rfl, h0⟩
  case round =>
    obtain ⟨rfl, hJs⟩ := hrel
    gi_wp2
    go_end0
    exact ⟨⟨_, rfl⟩, .inl hJs⟩
theorem box_rows {P : Program} {c : Ctx} {g : List (Option GB)} {m : Mem} {W : World} {j o j2 len cap0 : Nat} {bj b2 : ABlk} {gb gb2 : GB} {row : Nat → List Value} (hr : Rel P c g m W) (hg : g[j]? = some (some gb)) (hg2 : g[j2]? = some (some gb2)) (hj : m[j]? = some (some bj)) (hj2 : m[j2]? = some (some b2))
    (h1 : bj.cells[o]? = some (.slice (some ⟨j2, 0, none⟩) len cap0)) (hlen : 0 < len) (hrow : ∀ i, i < len → (row i).length = 5 ∧ ∀ k, k < 5 → b2.cells[i * 5 + k]? = (row i)[k]? ∧ ∀ v, (row i)[k]? = some v → plainS v = true) :
    BoxRows ⟨gb.b, gb.base + o, none⟩ (some ⟨gb2.b, gb2.base, none⟩) gb2.b gb2.base len (cap0 + gb2.extra) row W := by
  letI := fam00
  obtain ⟨cs, fr, hh, hf, _⟩ := hr.blk j bj gb hj hg
  obtain ⟨cs2, fr2, hh2, hf2, _⟩ := hr.blk j2 b2 gb2 hj2 hg2
  refine ⟨?_, fun _ => rfl, fun i hi => ⟨(hrow i hi).1, fun k hk => ?_⟩⟩
  · obtain ⟨w, hw, hv⟩ := hf.get o _ h1
    rw [List.getElem?_take_of_lt (lt_of_getElem? h1), List.getElem?_drop, Array.getElem?_toList] at hw
    have : W.cell? ⟨gb.b, gb.base + o, none⟩ = some w := by simp only [World.cell?, hh]; simpa using hw
    rw [this]
    cases hv with
    | slice _ _ _ _ gb3 hg3 =>
      rw [hg2] at hg3
      cases hg3
      rfl
    | nilS _ _ _ _ => omega
  · obtain ⟨q1, q2⟩ := (hrow i hi).2 k hk
    have hkl : k < (row i).length := by rw [(hrow i hi).1]; exact hk
    have hx : (row i)[k]? = some (row i)[k] := List.getElem?_eq_getElem hkl
    rw [hx] at q1 ⊢
    obtain ⟨w, hw, hv⟩ := hf2.get _ _ q1
    obtain rfl := SR.plain_eq (q2 _ hx) hv
    rw [List.getElem?_take_of_lt (lt_of_getElem? q1), List.getElem?_drop, Array.getElem?_toList] at hw
    have : W.cell? ⟨gb2.b, gb2.base + i * 5 + k, none⟩ = cs2[gb2.base + i * 5 + k]? := by simp [World.cell?, hh2]
    rw [this, ← hw, Nat.add_assoc]
theorem bkw_ab {j o j2 len cap0 : Nat} {bj b2 : ABlk} {row : Nat → List Value} (hmx : ((len : Nat) : Int) ≤ 9223372036854775807) (h1 : bj.cells[o]? = some (.slice (some ⟨j2, 0, none⟩) len cap0)) (hrow : ∀ i, i < len → (row i).length = 5 ∧ ∀ k, k < 5 → b2.cells[i * 5 + k]? = (row i)[k]? ∧ ∀ v, (row i)[k]? = some v → plainS v = true) :
    IterAb Tryd.prog 86 [.pointer (some ⟨j, o, none⟩)] [(j, bj), (j2, b2)] (bkL len row) := by
  intro c g m W rc hr hrc hk
  have hj := hk (j, bj) (.head _)
  have hj2 := hk (j2, b2) (.tail _ (.head _))
  cases hrc with
  | cons hw hnil =>
  cases hnil
  cases hw with
  | s hw =>
  cases hw with
  | ptr _ _ gb hg =>
  have hl : (bkL len row).length = len := by simp [bkL]
  obtain ⟨cs, fr, hh, hf, _⟩ := hr.blk j bj gb hj hg
  obtain ⟨w, hw, hv⟩ := hf.get o _ h1
  refine ⟨enters_of Tryd.func86 (by kernel_rfl) rfl, fun m' l J Jx W0 hJ _ _ hPre hY h0 => ?_⟩
  rw [hl]
  rcases Nat.eq_zero_or_pos len with rfl | hp
  · -- nothing there
    obtain ⟨c', m1, gx, hr1, hk1⟩ := hPre 0 W0 h0
    have hg1 : (g ++ gx)[j]? = some (some gb) := AE.getElem?_app hg
    obtain ⟨cs1, fr1, hh1, hf1, _⟩ := hr1.blk j bj gb (hk1 (j, bj) (.head _)) hg1
    obtain ⟨w1, hw1, hv1⟩ := hf1.get o _ h1
    rw [List.getElem?_take_of_lt (lt_of_getElem? h1), List.getElem?_drop, Array.getElem?_toList] at hw1
    have hc : W0.cell? ⟨gb.b, gb.base + o, none⟩ = some w1 := by simp only [World.cell?, hh1]; simpa using hw1
    cases hv1 with
    | slice _ _ _ _ gb3 hg3 => exact bkw_zero m' l _ _ _ J Jx W0 hc h0
    | nilS _ _ a _ => exact bkw_zero m' l _ _ _ J Jx W0 hc h0
  · cases hv with
    | slice _ _ _ _ gb2 hg2 =>
      exact bkw_in len hmx m' l _ _ gb2.b gb2.base _ row J Jx W0 hJ (fun k W1 h => by
        obtain ⟨c', m1, gx, hr1, hk1⟩ := hPre k W1 h
        exact box_rows hr1 (AE.getElem?_app hg) (AE.getElem?_app hg2) (hk1 (j, bj) (.head _)) (hk1 (j2, b2) (.tail _ (.head _))) h1 hp hrow) hY h0
    | nilS _ _ _ _ => omega
theorem rowV_plain : ∀ (ks : List CK) (l : List A) (k : Nat) (v : Value), (rowV ks l)[k]? = some v → plainS v = true := by
  intro ks l k v h
  have := List.mem_of_getElem? h
  clear h
  induction ks generalizing l with
  | nil => simp [rowV] at this
  | cons c ks ih =>
    cases l with
    | nil =>
      rcases List.mem_cons.1 this with rfl | h
      · cases c <;> rfl
      · exact ih [] h
    | cons a l =>
      rcases List.mem_cons.1 this with rfl | h
      · cases c <;> rfl
      · exact ih l h
section
variable [Fam]
def bkIx (len i : X) : X := .o .sub (.o .sub len (.i 1)) i
def bkRow (ks : List CK) (r len : X) (i : X) : List SV := [.z (.i .i64 (bkIx len i)), .a (.ag (rowX ks r (bkIx len i) 0))]
def bkPick (g : Gm) (cs : List Go.SX.C0) (m : SMem) : Option (List Nat × X × (X → List SV)) := match cs with
  | [.z (.p j (.i x) w c)] => (match m[j]? with
    | some (some b) => (match b.c with
      | .cs l => (match l[x.toNat * w + c]? with
        | some (.z (.sl j2 (.i y) w2 c2 len _)) => (match m[j2]? with
          | some (some b2) => (match b2.c with
            | .rw ks r => bif Nat.beq (y.toNat * w2 + c2) 0 && (Nat.beq ks.length 5 && (eqX len (.u .rlen r) && (r.sc g.nv && within (rng g.fs len) 0 9223372036854775807))) then some ([j, j2], len, bkRow ks r len) else none
            | _ => none)
          | _ => none)
        | _ => none)
      | _ => none)
    | _ => none)
  | _ => none
theorem rowV_at (ks : List CK) (R : List (List A)) {i : Nat} (hi : i < R.length) (k : Nat) (hk : k < ks.length) : (R.flatMap (rowV ks))[i * ks.length + k]? = (rowV ks (R.getD i []))[k]? := by
  have h1 : (R.flatMap (rowV ks))[i * ks.length + k]? = ((R.flatMap (rowV ks)).drop (i * ks.length))[k]? := by rw [List.getElem?_drop]
  rw [h1, rows_drop, List.drop_eq_getElem_cons hi, List.flatMap_cons, List.getElem?_append_left (by rw [rowV_len]; exact hk)]
  congr 2
  rw [List.getD_eq_getElem?_getD, List.getElem?_eq_getElem hi]; rfl
def bkX : RangeX Tryd.prog where
  gf := 86
  n := 2
  pick := bkPick
  ok := by
    intro g cs m js len f e hg hp
    unfold bkPick at hp
    split at hp
    case h_2 => cases hp
    rename_i j x w c
    split at hp
    case h_2 => cases hp
    rename_i b hb
    split at hp
    case h_2 => cases hp
    rename_i l hl
    split at hp
    case h_2 => cases hp
    rename_i j2 y w2 c2 len0 cap0 hs
    split at hp
    case h_2 => cases hp
    rename_i b2 hb2
    split at hp
    case h_2 => cases hp
    rename_i ks r hr
    cases hq : Nat.beq (y.toNat * w2 + c2) 0 && (Nat.beq ks.length 5 && (eqX len0 (.u .rlen r) && (r.sc g.nv && within (rng g.fs len0) 0 9223372036854775807))) with
    | false => rw [hq] at hp; cases hp
    | true =>
    rw [hq] at hp
    cases hp
    simp only [Bool.and_eq_true] at hq
    obtain ⟨q1, q2, q3, q4, q5⟩ := hq
    have q1 := Nat.eq_of_beq_eq_true q1
    have q2 := Nat.eq_of_beq_eq_true q2
    have q3 := eqX_eq q3
    obtain ⟨r1, r2⟩ := within_ok q5 (rng_ok hg.fs _)
    have hlen : len.I e = ((r.R e).length : Nat) := by rw [q3]; rfl
    let row : Nat → List Value := fun i => rowV ks ((r.R e).getD i [])
    refine ⟨bkL (r.R e).length row, by simp [bkL, hlen], fun v hv => ?_, fun v hv x hx => ?_, ?_, fun e' i k v hag hi hv => ?_⟩
    · obtain ⟨k, _, rfl⟩ := List.mem_map.1 hv
      rfl
    · obtain ⟨k, _, rfl⟩ := List.mem_map.1 hv
      rcases List.mem_cons.1 hx with rfl | hx
      · rfl
      · obtain rfl := List.mem_singleton.1 hx
        show plainC (.agg ⟨row _⟩) = true
        exact List.all_eq_true.2 fun u hu => by
          obtain ⟨k', hk'⟩ := List.getElem?_of_mem hu
          exact rowV_plain ks _ k' u hk'
    · have hbl : blkE e m [j, j2] = [(j, b.den e), (j2, b2.den e)] := by
        simp [blkE, hb, hb2]
      rw [hbl]
      have hcell : (b.den e).cells[x.toNat * w + c]? = some (.slice (some ⟨j2, 0, none⟩) (r.R e).length (cap0.I e).toNat) := by
        show (b.c.den e)[x.toNat * w + c]? = _
        rw [hl]
        show (l.map (SS.den e))[x.toNat * w + c]? = _
        rw [List.getElem?_map, hs]
        show some (Value.slice (some ⟨j2, y.toNat * w2 + c2, none⟩) (len.I e).toNat (cap0.I e).toNat) = _
        rw [q1, hlen]; rfl
      exact bkw_ab (by omega) hcell fun i hi => ⟨by show (rowV ks _).length = 5; rw [rowV_len, q2], fun k hk => ⟨by
        show (b2.c.den e)[i * 5 + k]? = (rowV ks _)[k]?
        rw [hr]
        show ((r.R e).flatMap (rowV ks))[i * 5 + k]? = _
        have := rowV_at ks (r.R e) hi k (by omega)
        rw [q2] at this
        exact this, fun v hv => rowV_plain ks _ k v hv⟩⟩
    · have hkl : k < (r.R e).length := by
        have := lt_of_getElem? hv
        simpa [bkL] using this
      rw [bkL_at hkl] at hv
      cases hv
      have hr' : r.R e' = r.R e := by simp only [X.R, X.sc_den hag q4]
      have hl' : len.I e' = ((r.R e).length : Nat) := by rw [q3]; show (((r.R e').length : Nat) : Int) = _; rw [hr']
      have hix : (bkIx len i).I e' = (((r.R e).length - 1 - k : Nat) : Int) := by
        show len.I e' - 1 - i.I e' = _
        rw [hl', hi]; omega
      show [Value.int .i64 ((bkIx len i).I e'), Value.agg ⟨(rowX ks r (bkIx len i) 0).map (SS.den e')⟩] = _
      rw [rowX_den, hix, hr']
      simp [row]
def plainZ : SS → Bool
  | .z (.i _ _) => true
  | .z (.b _) => true
  | .z (.s _) => true
  | _ => false
theorem plainZ_ok {x : SS} (h : plainZ x = true) (e : En) : plainS (x.den e) = true := by
  unfold plainZ at h
  split at h <;> first | rfl | cases h
def bkPick1 (g : Gm) (cs : List Go.SX.C0) (m : SMem) : Option (List Nat × X × (X → List SV)) := match cs with
  | [.z (.p j (.i x) w c)] => (match m[j]? with
    | some (some b) => (match b.c with
      | .cs l => (match l[x.toNat * w + c]? with
        | some (.z (.sl j2 (.i y) w2 c2 (.i 1) _)) => (match m[j2]? with
          | some (some b2) => (match b2.c with
            | .cs l2 => bif Nat.beq (y.toNat * w2 + c2) 0 && (Nat.ble 5 l2.length && ((l2.take 5).all plainZ && (l2.take 5).all (SS.sc g.nv))) then some ([j, j2], .i 1, fun _ => [.z (.i .i64 (.i 0)), .a (.ag (l2.take 5))]) else none
            | _ => none)
          | _ => none)
        | _ => none)
      | _ => none)
    | _ => none)
  | _ => none
def bkX1 : RangeX Tryd.prog where
  gf := 86
  n := 2
  pick := bkPick1
  ok := by
    intro g cs m js len f e hg hp
    unfold bkPick1 at hp
    split at hp
    case h_2 => cases hp
    rename_i j x w c
    split at hp
    case h_2 => cases hp
    rename_i b hb
    split at hp
    case h_2 => cases hp
    rename_i l hl
    split at hp
    case h_2 => cases hp
    rename_i j2 y w2 c2 cap0 hs
    split at hp
    case h_2 => cases hp
    rename_i b2 hb2
    split at hp
    case h_2 => cases hp
    rename_i l2 hr
    cases hq : Nat.beq (y.toNat * w2 + c2) 0 && (Nat.ble 5 l2.length && ((l2.take 5).all plainZ && (l2.take 5).all (SS.sc g.nv))) with
    | false => rw [hq] at hp; cases hp
    | true =>
    rw [hq] at hp
    cases hp
    simp only [Bool.and_eq_true] at hq
    obtain ⟨q1, q2, q3, q4⟩ := hq
    have q1 := Nat.eq_of_beq_eq_true q1
    have q2 := Nat.le_of_ble_eq_true q2
    let row : Nat → List Value := fun _ => (l2.take 5).map (SS.den e)
    refine ⟨bkL 1 row, rfl, fun v hv => ?_, fun v hv x hx => ?_, ?_, fun e' i k v hag hi hv => ?_⟩
    · obtain ⟨k, _, rfl⟩ := List.mem_map.1 hv
      rfl
    · obtain ⟨k, _, rfl⟩ := List.mem_map.1 hv
      rcases List.mem_cons.1 hx with rfl | hx
      · rfl
      · obtain rfl := List.mem_singleton.1 hx
        show plainC (.agg ⟨(l2.take 5).map (SS.den e)⟩) = true
        exact List.all_eq_true.2 fun u hu => by
          obtain ⟨z, hz, rfl⟩ := List.mem_map.1 hu
          exact plainZ_ok (List.all_eq_true.1 q3 z hz) e
    · have hbl : blkE e m [j, j2] = [(j, b.den e), (j2, b2.den e)] := by
        simp [blkE, hb, hb2]
      rw [hbl]
      have hcell : (b.den e).cells[x.toNat * w + c]? = some (.slice (some ⟨j2, 0, none⟩) 1 (cap0.I e).toNat) := by
        show (b.c.den e)[x.toNat * w + c]? = _
        rw [hl]
        show (l.map (SS.den e))[x.toNat * w + c]? = _
        rw [List.getElem?_map, hs]
        show some (Value.slice (some ⟨j2, y.toNat * w2 + c2, none⟩) (1 : Int).toNat (cap0.I e).toNat) = _
        rw [q1]; rfl
      refine bkw_ab (by omega) hcell fun i hi => ⟨by show ((l2.take 5).map (SS.den e)).length = 5; rw [List.length_map, List.length_take]; omega, fun k hk => ⟨?_, fun v hv => ?_⟩⟩
      · obtain rfl : i = 0 := by omega
        show (b2.c.den e)[0 * 5 + k]? = ((l2.take 5).map (SS.den e))[k]?
        rw [hr, Nat.zero_mul, Nat.zero_add]
        show (l2.map (SS.den e))[k]? = _
        rw [List.getElem?_map, List.getElem?_map, List.getElem?_take_of_lt hk]
      · obtain ⟨z, hz, rfl⟩ := List.mem_map.1 (List.mem_of_getElem? hv)
        exact plainZ_ok (List.all_eq_true.1 q3 z hz) e
    · have hkl : k < 1 := by
        have := lt_of_getElem? hv
        simpa [bkL] using this
      obtain rfl : k = 0 := by omega
      rw [bkL_at (by omega)] at hv
      cases hv
      show [Value.int .i64 0, Value.agg ⟨(l2.take 5).map (SS.den e')⟩] = [Value.int .i64 0, Value.agg ⟨(l2.take 5).map (SS.den e)⟩]
      rw [map_sc (fun x hx => SS.sc_den hag x hx) q4]
def altX {P : Program} (R R' : RangeX P) (h1 : R'.gf = R.gf) (h2 : R'.n = R.n) : RangeX P where
  gf := R.gf
  n := R.n
  pick g cs m := match R.pick g cs m with
    | some r => some r
    | none => R'.pick g cs m
  ok := by
    intro g cs m js len f e hg hp
    split at hp
    · rename_i r hr
      cases hp
      exact R.ok hg hr
    · rw [← h1, ← h2]
      exact R'.ok hg hp
def bkXX : RangeX Tryd.prog := altX bkX bkX1 rfl rfl
end
end Go.Proofs.YtciemdpcllpdkaaDoor
