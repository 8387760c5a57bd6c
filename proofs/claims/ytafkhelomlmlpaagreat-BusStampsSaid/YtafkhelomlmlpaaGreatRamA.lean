/-
  A map of blocks of 64 bytes: what it says, read, written, struck; for objects that own a map. Conditions: none.
-/
import Derived.Maps.OwnSet
import Derived.Maps.Views
import Derived.Maps.Ext
namespace Go.Ram
open Go Go.RowKit Go.Maps Go.WideElems Go.ChangeMaps Go.MapKept Go.WideShapes
/-! Plain: bytes in blocks of 64. -/
def chunk (l : List UInt8) (k : Nat) : List UInt8 := (l.drop (64 * k)).take 64
def putC (l : List UInt8) (k : Nat) (c : List UInt8) : List UInt8 := l.take (64 * k) ++ (c ++ l.drop (64 * k + 64))
theorem chunk_len {l : List UInt8} {k : Nat} (hl : l.length = 8192) (hk : k < 128) : (chunk l k).length = 64 := by
  unfold chunk
  rw [List.length_take, List.length_drop]; omega
theorem putC_len {l c : List UInt8} {k : Nat} (hl : l.length = 8192) (hk : k < 128) (hc : c.length = 64) : (putC l k c).length = 8192 := by
  unfold putC
  rw [List.length_append, List.length_append, List.length_take, List.length_drop]; omega
theorem putC_get {l c : List UInt8} {k : Nat} (hl : l.length = 8192) (hk : k < 128) (hc : c.length = 64) (j : Nat) : (putC l k c)[j]? = if 64 * k ≤ j ∧ j < 64 * k + 64 then c[j - 64 * k]? else l[j]? := by
  unfold putC
  have h1 : (l.take (64 * k)).length = 64 * k := by rw [List.length_take]; omega
  by_cases h : j < 64 * k
  · rw [List.getElem?_append_left (by omega), List.getElem?_take_of_lt h, if_neg (by omega)]
  · rw [List.getElem?_append_right (by omega), h1]
    by_cases h2 : j < 64 * k + 64
    · rw [List.getElem?_append_left (by omega), if_pos (by omega)]
    · rw [List.getElem?_append_right (by omega), if_neg (by omega), List.getElem?_drop, hc]
      congr 1; omega
theorem chunk_get (l : List UInt8) (k j : Nat) : (chunk l k)[j]? = if j < 64 then l[64 * k + j]? else none := by
  unfold chunk
  by_cases h : j < 64
  · rw [List.getElem?_take_of_lt h, List.getElem?_drop, if_pos h]
  · rw [if_neg h, List.getElem?_take, if_neg h]
theorem chunk_put {l c : List UInt8} {k : Nat} (hl : l.length = 8192) (hk : k < 128) (hc : c.length = 64) (k' : Nat) : chunk (putC l k c) k' = if k' = k then c else chunk l k' := by
  apply List.ext_getElem?
  intro j
  rw [chunk_get]
  by_cases h : k' = k
  · subst h
    rw [if_pos rfl]
    by_cases hj : j < 64
    · rw [if_pos hj, putC_get hl hk hc, if_pos (by omega)]
      congr 1; omega
    · rw [if_neg hj, List.getElem?_eq_none (by omega)]
  · rw [if_neg h, chunk_get]
    by_cases hj : j < 64
    · rw [if_pos hj, if_pos hj, putC_get hl hk hc, if_neg (by omega)]
    · rw [if_neg hj, if_neg hj]
theorem put_set {l : List UInt8} {k i : Nat} (hl : l.length = 8192) (hk : k < 128) (hi : i < 64) (b : UInt8) : putC l k ((chunk l k).set i b) = l.set (64 * k + i) b := by
  apply List.ext_getElem?
  intro j
  rw [putC_get hl hk (by rw [List.length_set]; exact chunk_len hl hk), List.getElem?_set, List.getElem?_set, chunk_get]
  by_cases h : 64 * k ≤ j ∧ j < 64 * k + 64
  · rw [if_pos h]
    have e : 64 * k + (j - 64 * k) = j := by omega
    rw [if_pos (by omega : j - 64 * k < 64), e]
    by_cases h2 : i = j - 64 * k
    · rw [if_pos h2, if_pos (by rw [chunk_len hl hk]; omega), if_pos (by omega), if_pos (by omega)]
    · rw [if_neg h2, if_neg (by omega)]
  · rw [if_neg h, if_neg (by omega)]
/-- So many apart below n are at most n. -/
theorem apart_le : ∀ (n : Nat) (l : List Nat), l.Pairwise (fun a b => a ≠ b) → (∀ a ∈ l, a < n) → l.length ≤ n
  | 0, [], _, _ => Nat.le_refl _
  | 0, a :: l, _, h => absurd (h a List.mem_cons_self) (by omega)
  | n + 1, l, hp, h => by
    have h1 := apart_le n (l.filter fun a => decide (a ≠ n)) (hp.filter _) fun a ha => by
      rw [List.mem_filter] at ha
      have := h a ha.1
      have := of_decide_eq_true ha.2
      omega
    have h2 : l.length ≤ (l.filter fun a => decide (a ≠ n)).length + 1 := by
      clear h h1
      induction l with
      | nil => exact Nat.zero_le _
      | cons a l ih =>
        rw [List.pairwise_cons] at hp
        by_cases ha : a = n
        · subst ha
          have e : (l.filter fun b => decide (b ≠ a)) = l := List.filter_eq_self.2 fun b hb => decide_eq_true (fun e => hp.1 b hb e.symm)
          rw [List.filter_cons_of_neg (by simp), e]
          exact Nat.le_refl _
        · rw [List.filter_cons_of_pos (by simpa using ha)]
          have := ih hp.2
          simp only [List.length_cons]
          omega
    omega
/-! A map of blocks. -/
def blockV (c : List UInt8) : Value := .agg ⟨c.map fun b => .int .u8 (b.toNat : Nat)⟩
def dat (c : List UInt8) : DataW Unit := .agg (c.map fun b => .lit (.int .u8 (b.toNat : Nat)))
theorem map_inj {α β : Type} {f : α → β} (hf : ∀ a b, f a = f b → a = b) : ∀ {l l' : List α}, l.map f = l'.map f → l = l'
  | [], [], _ => rfl
  | [], _ :: _, h => by simp at h
  | _ :: _, [], h => by simp at h
  | a :: l, b :: l', h => by
    rw [List.map_cons, List.map_cons, List.cons.injEq] at h
    rw [hf a b h.1, map_inj hf h.2]
theorem toNat_inj {a b : UInt8} (h : ((a.toNat : Nat) : Int) = (b.toNat : Nat)) : a = b := UInt8.toNat_inj.1 (by omega)
theorem dat_inj {c c' : List UInt8} (h : dat c = dat c') : c = c' := by
  unfold dat at h
  rw [DataW.agg.injEq] at h
  exact map_inj (fun a b h => by simp only [DataW.lit.injEq, Lit.int.injEq, true_and] at h; exact toNat_inj h) h
theorem blockV_inj {c c' : List UInt8} (h : blockV c = blockV c') : c = c' := by
  unfold blockV at h
  simp only [Value.agg.injEq, Array.mk.injEq] at h
  exact map_inj (fun a b h => by simp only [Value.int.injEq, true_and] at h; exact toNat_inj h) h
open Classical in
noncomputable def rdB (v : Value) : Option (DataW Unit × List MemPlace) := if h : ∃ c : List UInt8, c.length = 64 ∧ v = blockV c then some (dat h.choose, []) else none
theorem rdB_mk {c : List UInt8} (hc : c.length = 64) : rdB (blockV c) = some (dat c, []) := by
  have h : ∃ c' : List UInt8, c'.length = 64 ∧ blockV c = blockV c' := ⟨c, hc, rfl⟩
  unfold rdB
  rw [dif_pos h, ← blockV_inj h.choose_spec.2]
theorem rdB_inv {v : Value} {y : DataW Unit × List MemPlace} (h : rdB v = some y) : ∃ c : List UInt8, c.length = 64 ∧ v = blockV c ∧ y = (dat c, []) := by
  unfold rdB at h
  split at h
  · rename_i hx
    cases h
    exact ⟨hx.choose, hx.choose_spec.1, hx.choose_spec.2, rfl⟩
  · cases h
def zeros : List UInt8 := List.replicate 64 0
def ky (k : Nat) : Value := .int .u16 (k : Nat)
def kl (k : Nat) : Lit := .int .u16 (k : Nat)
variable {P : Program} {kT eT mT : TypeId}
/-- The map's entries say the bytes. -/
structure IsRam (P : Program) (kT : TypeId) (W : World) (mb : Nat) (l : List UInt8) : Prop where
  len : l.length = 8192
  own : ∃ es clock, W.heap[mb]? = some (.map es clock) ∧ Fit P kT rdB es clock ∧ (∀ x ∈ es.toList, ∃ k, k < 128 ∧ x.key = ky k) ∧ ∀ k, k < 128 → (DataW.map ((es.toList.map (rg P kT rdB)).foldr DataW.insert [])).atKey (kl k) (dat zeros) = dat (chunk l k)
variable (hk : P.underlying kT = some (.int .u16)) (hm : P.underlying mT = some (.map kT eT))
include hk in
theorem ky_of {k : Nat} (h : k < 128) : keyOf P kT (ky k) = some (kl k) := keyOf_int_mk hk (by
  show (decide (IntKind.u16.min ≤ ((k : Nat) : Int)) && decide (((k : Nat) : Int) ≤ IntKind.u16.max)) = true
  have h1 : IntKind.u16.min = 0 := by decide
  have h2 : IntKind.u16.max = 65535 := by decide
  rw [h1, h2, decide_eq_true (by omega), decide_eq_true (by omega)]; rfl)
include hk hm in
theorem ram_look {W : World} {mb : Nat} {l : List UInt8} (h : IsRam P kT W mb l) (hz : (zeroValue eT).run P W = .ok (blockV zeros) W) {k : Nat} (hk1 : k < 128) : (Instr.lookup mT (.map (some mb)) (ky k) false).run P W = .ok (blockV (chunk l k)) W := by
  obtain ⟨es, clock, hb, F, hks, hc⟩ := h.own
  have hc := hc k hk1
  rcases Maps.fit_look false (int_keyed hk) hm hz hb F (ky_of hk hk1) with ⟨h1, _, h3⟩ | ⟨e0, y, _, _, h1, h2, h3, _⟩
  · rw [h3] at hc
    rw [← dat_inj hc]; exact h1
  · obtain ⟨c, _, h5, h6⟩ := rdB_inv h2
    rw [h3, h6] at hc
    rw [← dat_inj hc, ← h5]; exact h1
theorem kl_ne {k k' : Nat} (h : k' ≠ k) : kl k' ≠ kl k := fun e => h (by
  unfold kl at e
  simp only [Lit.int.injEq, true_and] at e
  omega)
def natOf : Value → Nat
  | .int _ n => n.toNat
  | _ => 0
include hk in
theorem ram_room {es : Array MapEntry} {clock : Nat} (F : Fit P kT rdB es clock) (hks : ∀ x ∈ es.toList, ∃ k, k < 128 ∧ x.key = ky k) : es.size < maxLen := by
  have h1 := fit_apart (int_keyed hk) F
  rw [List.pairwise_map] at h1
  have h2 : (es.toList.map fun x => natOf x.key).Pairwise (fun a b => a ≠ b) := by
    rw [List.pairwise_map]
    refine h1.imp_of_mem ?_
    intro x x' hx hx' h e
    obtain ⟨k, hk1, e1⟩ := hks x hx
    obtain ⟨k', hk2, e2⟩ := hks x' hx'
    obtain ⟨y, hy⟩ := F.reads x hx
    obtain ⟨y', hy'⟩ := F.reads x' hx'
    rw [rg_of hy, rg_of hy'] at h
    have m1 := rd_key hy
    have m2 := rd_key hy'
    rw [e1, ky_of hk hk1] at m1
    rw [e2, ky_of hk hk2] at m2
    rw [e1, e2] at e
    have e : k = k' := by
      have e : ((k : Nat) : Int).toNat = ((k' : Nat) : Int).toNat := e
      omega
    subst e
    exact h ((Option.some.inj m1).symm.trans (Option.some.inj m2))
  have h3 := apart_le 128 _ h2 fun a ha => by
    obtain ⟨x, hx, rfl⟩ := List.mem_map.1 ha
    obtain ⟨k, hk1, e1⟩ := hks x hx
    rw [e1]
    show ((k : Nat) : Int).toNat < 128
    omega
  rw [List.length_map, Array.length_toList] at h3
  exact Nat.lt_of_le_of_lt h3 (by decide)
include hk hm in
theorem ram_store {W : World} {mb : Nat} {l c : List UInt8} (h : IsRam P kT W mb l) {k : Nat} (hk1 : k < 128) (hc : c.length = 64) : ∃ es' clock', (Instr.mapUpdate mT (.map (some mb)) (ky k) (blockV c)).run P W = .ok () (setBlock W mb (.map es' clock')) ∧ IsRam P kT (setBlock W mb (.map es' clock')) mb (putC l k c) := by
  obtain ⟨es, clock, hb, F, hks, hat⟩ := h.own
  obtain ⟨es', clock', hrun, F', hput, _, _, hwho⟩ := Maps.fit_store (R' := rdB) (int_keyed hk) hm hb F (ram_room hk F hks) (fun _ _ _ _ hz => hz) (ky_of hk hk1) (rdB_mk hc)
  refine ⟨es', clock', hrun, putC_len h.len hk1 hc, es', clock', heap_setBlock_same hb _, F', fun x hx => ?_, fun k' hk' => ?_⟩
  · rcases hwho x hx with h1 | h1
    · exact hks x h1.1
    · exact ⟨k, hk1, h1.1⟩
  · rw [hput, ← DataW.put_eq, chunk_put h.len hk1 hc]
    by_cases e : k' = k
    · subst e
      rw [if_pos rfl]
      exact atKey_put_same ⟨_, rfl⟩ ((int_keyed hk).key (ky_of hk hk1)) _ _
    · rw [if_neg e, atKey_put_other (kl_ne e)]
      exact hat k' hk'
include hk hm in
theorem ram_drop {W : World} {mb : Nat} {l : List UInt8} (h : IsRam P kT W mb l) {k : Nat} (hk1 : k < 128) (ty : TypeId) : ∃ es' clock', (Builtin.delete_ #[mT, kT] ty #[.map (some mb), ky k]).run P W = .ok (.tuple #[]) (setBlock W mb (.map es' clock')) ∧ IsRam P kT (setBlock W mb (.map es' clock')) mb (putC l k zeros) := by
  obtain ⟨es, clock, hb, F, hks, hat⟩ := h.own
  obtain ⟨es', hrun, F', _, hdel, _⟩ := Maps.fit_drop (ty := ty) (int_keyed hk) hm hb F (ky_of hk hk1)
  have hz : zeros.length = 64 := rfl
  refine ⟨es', clock, hrun, putC_len h.len hk1 hz, es', clock, heap_setBlock_same hb _, F', fun x hx => ?_, fun k' hk' => ?_⟩
  · have h1 : rg P kT rdB x ∈ (es'.toList.map (rg P kT rdB)).foldr DataW.insert [] := (sorted_perm _).mem_iff.2 (List.mem_map.2 ⟨x, hx, rfl⟩)
    rw [hdel] at h1
    have h2 := (sorted_perm _).mem_iff.1 (List.mem_filter.1 h1).1
    obtain ⟨x0, hx0, e⟩ := List.mem_map.1 h2
    obtain ⟨k0, hk0, e0⟩ := hks x0 hx0
    refine ⟨k0, hk0, ?_⟩
    obtain ⟨y, hy⟩ := F'.reads x hx
    obtain ⟨y0, hy0⟩ := F.reads x0 hx0
    rw [rg_of hy, rg_of hy0] at e
    have m1 := rd_key hy
    have m2 := rd_key hy0
    rw [← e] at m1
    rw [← e0]
    exact (int_keyed hk).inj m1 m2
  · rw [hdel, ← DataW.del_eq, chunk_put h.len hk1 hz]
    by_cases e : k' = k
    · subst e
      rw [if_pos rfl, atKey_del_same]
    · rw [if_neg e, atKey_del_other (kl_ne e)]
      exact hat k' hk'
/-- A new map: all is 0. -/
theorem ram_new (W : World) : IsRam P kT (W.alloc (.map #[] 0)) W.heap.size (List.replicate 8192 0) := by
  obtain ⟨es, clock, hb, F, hs, hD⟩ := World.ownsMap_made (H := Unit) W P kT rdB
  have he : es.toList = [] := by
    have : es.size = 0 := by omega
    rw [Array.eq_empty_of_size_eq_zero this]
  refine ⟨List.length_replicate, es, clock, hb, F, fun x hx => ?_, fun k hk' => ?_⟩
  · rw [he] at hx; cases hx
  · rw [he]
    have e : chunk (List.replicate 8192 0) k = zeros := by
      unfold chunk zeros
      rw [List.drop_replicate, List.take_replicate]
      congr 1
      omega
    rw [e]; rfl
/-- The same map at another place, or in another world. -/
theorem IsRam.move {W W' : World} {mb mb' : Nat} {l : List UInt8} (h : IsRam P kT W mb l) (he : W'.heap[mb']? = W.heap[mb]?) : IsRam P kT W' mb' l := by
  obtain ⟨es, clock, hb, F, hks, hat⟩ := h.own
  exact ⟨h.len, es, clock, he.trans hb, F, hks, hat⟩
/-! The same, of a byte. -/
end Go.Ram
