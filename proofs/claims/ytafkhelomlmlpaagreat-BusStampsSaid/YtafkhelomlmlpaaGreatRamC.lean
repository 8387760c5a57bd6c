/-
  The walk of ram.Write, told of the bytes. Conditions: none.
-/
import Derived.Test.YtafkhelomlmlpaaGreatRamB
import Derived.Deep.WholeRow
import Derived.Stop.BytesEq
import Derived.RegionTactic
import Derived.ChangeAlike
import Derived.StillTailTactics
set_option linter.unusedVariables false
namespace Go.Proofs.YtafkhelomlmlpaaGreat
open Go Go.RowKit Go.Ram Go.MapKept Go.ChangeMaps
open Go.Proofs
set_option maxRecDepth 1000000
def arr (c : List UInt8) : Array Value := ⟨c.map fun b => .int .u8 (b.toNat : Nat)⟩
def Sm (a b : Array Value) : Prop := a = b
theorem arr_size (c : List UInt8) : (arr c).size = c.length := by simp [arr]
theorem arr_one (c : List UInt8) : (arr c).all (·.oneCell') = true := by
  rw [Array.all_eq_true]
  intro i hi
  simp [arr, Value.oneCell']
theorem set_at {l : List UInt8} {a : Int} {k : Nat} (hl : l.length = 8192) (h0 : 0 ≤ a) (hk1 : k < 128) (hk : a % 8192 / 64 = (k : Int)) (x : UInt8) : putC l k ((chunk l k).set (a % 64).toNat x) = l.set (a % 8192).toNat x := by
  rw [put_set hl hk1 (by omega)]
  congr 1
  omega
theorem fin_world {w : World} {o o' : Obj} {mb : Nat} : w.heap.size ≤ (setBlock (w.alloc o) mb o').heap.size ∧ (∀ k, k < w.heap.size → k ≠ mb → (setBlock (w.alloc o) mb o').heap[k]? = w.heap[k]?) ∧ (setBlock (w.alloc o) mb o').os = w.os ∧ (setBlock (w.alloc o) mb o').tape = w.tape ∧ (setBlock (w.alloc o) mb o').output = w.output := by
  refine ⟨?_, fun k hk hne => ?_, rfl, rfl, rfl⟩
  · show w.heap.size ≤ ((w.heap.push o).setIfInBounds mb o').size
    rw [Array.size_setIfInBounds, Array.size_push]; omega
  · show ((w.heap.push o).setIfInBounds mb o')[k]? = _
    rw [Array.getElem?_setIfInBounds_ne (fun e => hne e.symm), Array.getElem?_push, if_neg (by omega)]
theorem fin_drew {w : World} {o o' : Obj} {mb : Nat} : w.heap.size ≤ (setBlock (w.alloc o).drew mb o').heap.size ∧ (∀ k, k < w.heap.size → k ≠ mb → (setBlock (w.alloc o).drew mb o').heap[k]? = w.heap[k]?) ∧ (setBlock (w.alloc o).drew mb o').os = w.os ∧ (setBlock (w.alloc o).drew mb o').tape = w.tape ∧ (setBlock (w.alloc o).drew mb o').output = w.output :=
  fin_world (w := w) (o := o) (o' := o') (mb := mb)
theorem wpStill_load_row {P : Program} {ops : Array Oper} {rest : List Oper} {o : Oper} {a : Act} {w : World} {Q : Act → Prop} (hgd : o.guard = none) (ty : TypeId) (x : Operand) (ho : o.op = .load ty x) (p v : Value) (hx : a.eval x = p) (hr : (Instr.loadAt ty p).run P w = .ok v w)
    (h : wpStill P ops w Q rest (a.put o.dst v)) : wpStill P ops w Q (o :: rest) a := by
  refine wpStill_step fun K hK => ?_
  rw [if_pos (by simp [Region.wanted, hgd])]
  have e : (execOp a.eval o).run P w = .ok (.value v) w := by
    unfold execOp
    rw [ho]
    simp only [hx, Sem.run_bind, hr, Result.andThen, Sem.run_pure]
  unfold Oper.still
  rw [e]
  exact ⟨rfl, hK _ h⟩
set_option maxHeartbeats 4000000 in
theorem write_ok (b base mb : Nat) (cs : Array Value) (el : TypeId) (fr : Nat × Nat) (l : List UInt8) (a : Int) (h0 : 0 ≤ a) (h1 : a ≤ 65535) (x : UInt8) (w : World) (hb : w.heap[b]? = some (.cells cs el fr)) (hc : cs[base]? = some (.map (some mb))) (hr : IsRam Tryz.prog 68 w mb l) :
    Calls Tryz.prog 65 #[.pointer (some ⟨b, base, none⟩), .int .u16 a, .int .u8 (x.toNat : Nat)] w fun e w' => e = .returned (.tuple #[]) ∧ IsRam Tryz.prog 68 w' mb (l.set (a % 8192).toNat x) ∧ w.heap.size ≤ w'.heap.size ∧ (∀ k, k < w.heap.size → k ≠ mb → w'.heap[k]? = w.heap[k]?) ∧ w'.os = w.os ∧ w'.tape = w.tape ∧ w'.output = w.output := by
  have hcell : w.cell? ⟨b, base, none⟩ = some (.map (some mb)) := by
    simp [World.cell?, hb, hc]
  obtain ⟨k, hk1, hk2⟩ : ∃ k : Nat, k < 128 ∧ a % 8192 / 64 = (k : Int) := ⟨(a % 8192 / 64).toNat, by omega, by omega⟩
  have hz0 : ∀ w, (zeroValue 196).run Tryz.prog w = .ok (blockV zeros) w := fun w => by kernel_rfl
  have hlook0 := ram_look (mT := 182) (eT := 196) rfl rfl hr (hz0 w) hk1
  have hlen := chunk_len hr.len hk1
  obtain ⟨Z, hZ⟩ : ∃ Z, Z = arr zeros := ⟨_, rfl⟩
  obtain ⟨C, hC⟩ : ∃ C, C = arr (chunk l k) := ⟨_, rfl⟩
  have hZs : Z.size = 64 := by rw [hZ, arr_size]; rfl
  have hCs : C.size = 64 := by rw [hC, arr_size]; exact hlen
  have hz : ∀ w, (zeroValue 196).run Tryz.prog w = .ok (.agg Z) w := fun w => by rw [hz0, hZ]; rfl
  have hlook : (Instr.lookup 182 (.map (some mb)) (.int .u16 (k : Int)) false).run Tryz.prog w = .ok (.agg C) w := by rw [hC]; exact hlook0
  clear hz0 hlook0
  have hi : (Tryz.prog.info? 196).map (·.size) = some 64 := by kernel_rfl
  have hst := run_storeAt_new (P := Tryz.prog) w 196 Z C (by rw [hCs]; exact hi) (by rw [hZs, hCs]) (by rw [hC]; exact arr_one _)
  have hst2 := run_storeCells_new (P := Tryz.prog) w 196 Z C (by rw [hCs]; exact hi) (by rw [hZs, hCs]) (by rw [hC]; exact arr_one _)
  have hDs : (C.setIfInBounds (a % 64).toNat (Value.int .u8 (x.toNat : Nat))).size = 64 := by rw [Array.size_setIfInBounds, hCs]
  have hDarr : C.setIfInBounds (a % 64).toNat (Value.int .u8 (x.toNat : Nat)) = arr ((chunk l k).set (a % 64).toNat x) := by
    rw [hC]; unfold arr
    simp [List.map_set]
  have hclen : ((chunk l k).set (a % 64).toNat x).length = 64 := by rw [List.length_set]; exact hlen
  have heq : ∀ w, (Op.equalIn 10000 196 (.agg (C.setIfInBounds (a % 64).toNat (Value.int .u8 (x.toNat : Nat)))) (.agg Z)).run Tryz.prog w = .ok ((chunk l k).set (a % 64).toNat x == zeros) w := fun w => by
    rw [hDarr, hZ]
    exact run_equalIn_bytes w 9998 196 5 64 rfl rfl (fun w => by kernel_rfl) _ _ hclen rfl
  have hmb : mb < w.heap.size := by
    obtain ⟨es, clock, hm, _⟩ := hr.own
    exact (Array.getElem?_eq_some_iff.1 hm).1
  have hbl : b < w.heap.size := (Array.getElem?_eq_some_iff.1 hb).1
  have hr1 : IsRam Tryz.prog 68 (w.alloc (Obj.cells (C.setIfInBounds (a % 64).toNat (Value.int .u8 (x.toNat : Nat))) 196)) mb l := hr.move (Below.heap_alloc _ _ _ hmb)
  have hr1d : IsRam Tryz.prog 68 (w.alloc (Obj.cells (C.setIfInBounds (a % 64).toNat (Value.int .u8 (x.toNat : Nat))) 196)).drew mb l := hr1.move rfl
  obtain ⟨es1, ck1, hst1, hre1⟩ := ram_store (mT := 182) (eT := 196) rfl rfl hr1d hk1 hclen
  obtain ⟨es2, ck2, hdl1, hre2⟩ := ram_drop (mT := 182) (eT := 196) rfl rfl hr1 hk1 0
  have hst1 : (Instr.mapUpdate 182 (.map (some mb)) (.int .u16 (k : Int)) (.agg (C.setIfInBounds (a % 64).toNat (Value.int .u8 (x.toNat : Nat))))).run Tryz.prog (w.alloc (Obj.cells (C.setIfInBounds (a % 64).toNat (Value.int .u8 (x.toNat : Nat))) 196)).drew = .ok () (setBlock (w.alloc (Obj.cells (C.setIfInBounds (a % 64).toNat (Value.int .u8 (x.toNat : Nat))) 196)).drew mb (.map es1 ck1)) := by
    refine Eq.trans ?_ hst1
    show _ = (Instr.mapUpdate 182 (.map (some mb)) (.int .u16 (k : Int)) (.agg (arr _))).run Tryz.prog _
    rw [← hDarr]
  have hdl1 : (Builtin.delete_ #[182, 68] 0 #[.map (some mb), .int .u16 (k : Int)]).run Tryz.prog (w.alloc (Obj.cells (C.setIfInBounds (a % 64).toNat (Value.int .u8 (x.toNat : Nat))) 196)) = .ok (.tuple #[]) (setBlock (w.alloc (Obj.cells (C.setIfInBounds (a % 64).toNat (Value.int .u8 (x.toNat : Nat))) 196)) mb (.map es2 ck2)) := hdl1
  have hcell1 : (w.alloc (Obj.cells (C.setIfInBounds (a % 64).toNat (Value.int .u8 (x.toNat : Nat))) 196)).cell? ⟨b, base, none⟩ = some (.map (some mb)) := by
    simp only [World.cell?, Below.heap_alloc _ _ _ hbl, hb, hc]
    rfl
  obtain ⟨v0, hv0⟩ : ∃ v, C[(a % 64).toNat]? = some v := ⟨_, Array.getElem?_eq_getElem (by rw [hCs]; omega)⟩
  have hcx : (w.alloc (Obj.cells C 196)).cell? ⟨w.heap.size, (a % 64).toNat, none⟩ = some v0 := by
    simp only [World.cell?, World.alloc_heap_new]
    simpa using hv0
  replace hDarr : Sm _ _ := hDarr
  generalize hbe : ((chunk l k).set (a % 64).toNat x == zeros) = be at heq
  replace hZ : Sm Z (arr zeros) := hZ
  replace hC : Sm C (arr (chunk l k)) := hC
  cases be
  all_goals
   go_enter Tryz.func65, Tryz.ntmps65
   go_wp2_with (first | (go_at_call 107; refine (place_ok a h0 h1 _).mono ?_; rintro e w' ⟨rfl, rfl⟩) | (refine wpList_load_row rfl 196 _ rfl _ rfl 196 (C.setIfInBounds (a % 64).toNat (Value.int .u8 (x.toNat : Nat))) (0, 0) (.array 64 5) (heap_alloc_last _ _) rfl rfl (by rw [hDs]; exact hi) ?_))
  · have hz0 := hz
    have hd1 : (Instr.loadAt 196 (.pointer (some ⟨w'.heap.size, 0, none⟩))).run Tryz.prog (w'.alloc (Obj.cells (C.setIfInBounds (a % 64).toNat (Value.int .u8 (x.toNat : Nat))) 196)).drew = .ok (.agg (C.setIfInBounds (a % 64).toNat (Value.int .u8 (x.toNat : Nat)))) (w'.alloc (Obj.cells (C.setIfInBounds (a % 64).toNat (Value.int .u8 (x.toNat : Nat))) 196)).drew := run_loadAt_new (P := Tryz.prog) w'.drew 196 (C.setIfInBounds (a % 64).toNat (Value.int .u8 (x.toNat : Nat))) 64 5 rfl (by rw [hDs]; exact hi)
    have hcd : (w'.alloc (Obj.cells (C.setIfInBounds (a % 64).toNat (Value.int .u8 (x.toNat : Nat))) 196)).drew.cell? ⟨b, base, none⟩ = some (.map (some mb)) := hcell1
    have hfin := fin_drew (w := w') (o := Obj.cells (C.setIfInBounds (a % 64).toNat (Value.int .u8 (x.toNat : Nat))) 196) (o' := .map es1 ck1) (mb := mb)
    rw [set_at hr.len h0 hk1 hk2] at hre1
    generalize hDD : C.setIfInBounds (a % 64).toNat (Value.int .u8 (x.toNat : Nat)) = DD at *
    refine wp_region_still_tail 6 (by kernel_rfl) (by kernel_rfl) ?_
    simp only [List.take_succ_cons, List.take_zero, List.drop_succ_cons, List.drop_zero]
    change wpStill _ _ (World.drew _) _ _ _
    generalize hWd : (w'.alloc (Obj.cells DD 196)).drew = Wd at *
    still_step
    still_step
    still_step
    still_step
    still_step
    refine wpStill_load_row rfl _ _ rfl _ _ (by simp [Act.eval]) hd1 ?_
    refine wpStill_nil ?_
    change wpList _ _ _ _ _ (World.drew (w'.alloc (Obj.cells DD 196)))
    rw [hWd]
    clear hWd
    go_wp2
    refine bodyPost_end (results_none rfl _ _ _) rfl ?_
    exact ⟨rfl, hre1, hfin⟩
  · refine bodyPost_ret (results_none rfl _ _ _) rfl ?_
    rw [← eq_of_beq hbe, set_at hr.len h0 hk1 hk2] at hre2
    exact ⟨rfl, hre2, fin_world⟩
end Go.Proofs.YtafkhelomlmlpaaGreat
