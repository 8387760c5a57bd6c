/-
  The walks of ram.place, Read and New, told of the bytes. Conditions: none. 
-/
import Derived.Test.YtafkhelomlmlpaaGreatRamA
import Derived.Test.YtafkhelomlmlpaaGreatClo
set_option linter.unusedVariables false
namespace Go.Proofs.YtafkhelomlmlpaaGreat
open Go Go.RowKit Go.Ram
open Go.Proofs
set_option maxRecDepth 1000000
theorem wrap_u16 {n : Int} (h0 : 0 ≤ n) (h1 : n ≤ 65535) : IntKind.u16.wrap n = n := by
  show n % 65536 = n
  omega
set_option maxHeartbeats 2000000 in
theorem place_ok (a : Int) (h0 : 0 ≤ a) (h1 : a ≤ 65535) (w : World) : Calls Tryz.prog 107 #[.int .u16 a] w fun e w' => e = .returned (.tuple #[.int .u16 (a % 8192 / 64), .int .u16 (a % 8192 % 64)]) ∧ w' = w := by
  go_enter Tryz.func107, Tryz.ntmps107
  go_wp2
  have e : IntKind.u16.wrap ((a % 8192).tdiv 64) = a % 8192 / 64 := by
    rw [Int.tdiv_eq_ediv_of_nonneg (by omega)]
    exact wrap_u16 (by omega) (by omega)
  rw [e]
  go_ret2
  exact ⟨rfl, rfl⟩
theorem idx_ok {c : List UInt8} (hc : c.length = 64) {i : Int} (h0 : 0 ≤ i) (h1 : i < 64) (w : World) : (Instr.index 196 (blockV c) (.int .u16 i)).run Tryz.prog w = .ok (.int .u8 ((c.getD i.toNat 0).toNat : Nat)) w := by
  have ht : Tryz.prog.underlying 196 = some (.array 64 5) := rfl
  obtain ⟨n, rfl⟩ : ∃ n : Nat, i = n := ⟨i.toNat, by omega⟩
  have h3 : n < 64 := by omega
  unfold blockV
  simp [Instr.index, run_underlying ht, Result.andThen, go_sem]
  rw [if_pos h3, List.getElem?_eq_getElem (by omega)]
  rfl
theorem chunk_at {l : List UInt8} {a : Int} {k : Nat} (h0 : 0 ≤ a) (hk : a % 8192 / 64 = (k : Int)) : (chunk l k).getD (a % 64).toNat 0 = l.getD (a % 8192).toNat 0 := by
  rw [List.getD_eq_getElem?_getD, List.getD_eq_getElem?_getD, chunk_get, if_pos (by omega)]
  congr 2
  omega
set_option maxHeartbeats 4000000 in
theorem read_ok (b base mb : Nat) (cs : Array Value) (el : TypeId) (fr : Nat × Nat) (l : List UInt8) (a : Int) (h0 : 0 ≤ a) (h1 : a ≤ 65535) (w : World) (hb : w.heap[b]? = some (.cells cs el fr)) (hc : cs[base]? = some (.map (some mb))) (hr : IsRam Tryz.prog 68 w mb l) :
    Calls Tryz.prog 96 #[.pointer (some ⟨b, base, none⟩), .int .u16 a] w fun e w' => e = .returned (.int .u8 ((l.getD (a % 8192).toNat 0).toNat : Nat)) ∧ w' = w := by
  have hcell : w.cell? ⟨b, base, none⟩ = some (.map (some mb)) := by
    simp [World.cell?, hb, hc]
  have hk : a % 8192 / 64 < 128 := by omega
  obtain ⟨k, hk1, hk2⟩ : ∃ k : Nat, k < 128 ∧ a % 8192 / 64 = (k : Int) := ⟨(a % 8192 / 64).toNat, by omega, by omega⟩
  have hz : ∀ w, (zeroValue 196).run Tryz.prog w = .ok (blockV zeros) w := fun w => by kernel_rfl
  have hlook := ram_look (mT := 182) (eT := 196) rfl rfl hr (hz w) hk1
  have hlook : (Instr.lookup 182 (.map (some mb)) (.int .u16 (k : Int)) false).run Tryz.prog w = .ok (blockV (chunk l k)) w := hlook
  have hidx := idx_ok (chunk_len hr.len hk1) (i := a % 64) (by omega) (by omega) w
  rw [chunk_at h0 hk2] at hidx
  go_enter Tryz.func96, Tryz.ntmps96
  go_wp2_with (go_at_call 107; refine (place_ok a h0 h1 _).mono ?_; rintro e w' ⟨rfl, rfl⟩)
  go_ret
  exact ⟨rfl, rfl⟩
set_option maxHeartbeats 4000000 in
theorem new_ok (w : World) : Calls Tryz.prog 48 #[] w fun e w' => ∃ b mb, e = .returned (.pointer (some ⟨b, 0, none⟩)) ∧ w'.heap[b]? = some (.cells #[.map (some mb)] 184 (0, 0)) ∧ w.heap.size ≤ b ∧ w.heap.size ≤ mb ∧ b ≠ mb ∧ IsRam Tryz.prog 68 w' mb (List.replicate 8192 0) ∧ Below w.heap.size w w' := by
  go_enter Tryz.func48, Tryz.ntmps48
  have hmk : ∀ w, (Instr.makeMap 182 none).run Tryz.prog w = .ok (.map (some w.heap.size)) (w.alloc (.map #[] 0)) := fun w => by
    simp [Instr.makeMap, go_sem, Result.andThen]
  go_wp2
  go_ret
  have s1 : (w.alloc (Obj.map #[] 0)).heap.size = w.heap.size + 1 := Array.size_push _
  have g1 : ((w.alloc (Obj.map #[] 0)).alloc (Obj.cells #[Value.map (some w.heap.size)] 184)).heap[w.heap.size]? = (w.alloc (Obj.map #[] 0)).heap[w.heap.size]? := Below.heap_alloc _ _ _ (by rw [s1]; omega)
  have g2 : ((w.alloc (Obj.map #[] 0)).alloc (Obj.cells #[Value.map (some w.heap.size)] 184)).heap[w.heap.size + 1]? = some (Obj.cells #[Value.map (some w.heap.size)] 184) := by
    have := World.alloc_heap_new (w.alloc (Obj.map #[] 0)) (Obj.cells #[Value.map (some w.heap.size)] 184)
    rwa [s1] at this
  exact ⟨w.heap.size + 1, w.heap.size, rfl, g2, by omega, Nat.le_refl _, by omega, (ram_new w).move g1, ((Below.refl _ w).alloc (Nat.le_refl _) _).alloc (by omega) _⟩
end Go.Proofs.YtafkhelomlmlpaaGreat
