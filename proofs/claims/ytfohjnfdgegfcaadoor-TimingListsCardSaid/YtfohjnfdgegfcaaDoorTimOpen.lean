/-
  A value of the type Facts, opened: three flags and a number; and every call met at plain arguments, in the model's own words. Conditions: none.
-/
import Derived.Test.YtfohjnfdgegfcaaDoorTimWord
import Derived.Test.YtfohjnfdgegfcaaDoorTimLive
import Derived.ProofKit
import Derived.SizedLaws
import Derived.OpenShut
namespace Go.Proofs.YtfohjnfdgegfcaaDoor
open Go Go.Shelf Go.ChangeShapes Go.WideShapes Go.ChangeAt Go.RowKit Go.Lib
set_option maxRecDepth 100000
theorem laidB : laidOutB Tryd.prog = true := by kernel_rfl
theorem facts_open {H : Type} {enc : TypeId × Value → H} {W : World} {r : Reach} {base b0 : Nat} {sp : Nat → Bool} {hd : Bool} {v : Value} {x : DataW H} {ps : List MemPlace} (hval : Value.okWide Tryd.prog W r b0 35 v) (h : DataW.Trod enc Tryd.prog W base sp hd 35 v x ps) :
    ∃ (t d k : Bool) (n : Int), v = .agg ⟨[.bool t, .bool d, .bool k, .int .i64 n]⟩ := by
  obtain ⟨cs, rfl, hcs⟩ := okWide_struct Tryd.underlying35 hval
  obtain ⟨fuel, hf⟩ := h
  have hc4 : Tryd.prog.cellsOf 35 = 4 := by kernel_rfl
  rw [hc4] at hcs
  obtain ⟨l⟩ := cs
  obtain ⟨xs, n, _, _, hl, hlen, hfs⟩ := DataW.trod_struct Tryd.underlying35 hf
  match l, hcs, xs, hlen with
  | [c0, c1, c2, c3], _, [y0, y1, y2, y3], _ =>
    have f0 := hfs 0 _ rfl
    have f1 := hfs 1 _ rfl
    have f2 := hfs 2 _ rfl
    have f3 := hfs 3 _ rfl
    have hb : Tryd.prog.cellsOf 4 = 1 := by kernel_rfl
    have hi : Tryd.prog.cellsOf 3 = 1 := by kernel_rfl
    obtain ⟨x0, e0, _⟩ := DataW.trod_bool Tryd.underlying4 f0
    obtain ⟨x1, e1, _⟩ := DataW.trod_bool Tryd.underlying4 f1
    obtain ⟨x2, e2, _⟩ := DataW.trod_bool Tryd.underlying4 f2
    obtain ⟨x3, e3, _⟩ := DataW.trod_int Tryd.underlying3 f3
    simp [Value.cells, hb, hi] at e0 e1 e2 e3
    subst e0 e1 e2 e3
    exact ⟨x0, x1, x2, x3, rfl⟩
theorem u8_wf {a : Int} (w : (Lit.int .u8 a).wf = true) : ∃ n : Nat, n < 256 ∧ a = .ofNat n := by
  have h : 0 ≤ a ∧ a ≤ 255 := by
    have e1 : IntKind.u8.min = 0 := by decide
    have e2 : IntKind.u8.max = 255 := by decide
    simpa [Lit.wf, e1, e2] using w
  exact ⟨a.toNat, by omega, by show a = (a.toNat : Int); omega⟩
theorem met {f : FuncId} {aa : List Value} {v : Value} (h : Go.AE.ACall Tryd.prog f aa [] fun x _ => x = v) (hp : aa.all Go.AE.plainC = true) (hv : Go.AE.plainS v = true) {W : World} (hg : Go.AE.Good W fun _ => False) :
    Calls Tryd.prog f ⟨aa⟩ W fun x W' => x = .returned v ∧ Below W.heap.size W W' := by
  have hr : Go.AE.Rel Tryd.prog ⟨W, fun _ => False, hg⟩ [] [] W := ⟨rfl, fun j b gb hj => by simp at hj, fun i j bi bj gi gj _ hi => by simp at hi, fun _ _ _ => rfl, Nat.le_refl _, rfl, rfl, rfl⟩
  refine (h _ [] W aa hr (Go.AE.F2.refl _ fun x hx => Go.AE.VR.plain _ (List.all_eq_true.1 hp x hx))).mono ?_
  rintro x W' ⟨u, v', m', g', rfl, rfl, hr', hvr⟩
  rw [hvr.plain_eq hv]
  exact ⟨rfl, hr'.os, hr'.tape, hr'.output, hr'.size, fun k hk => hr'.frame k hk (fun h => h)⟩
theorem live (m : Go.AE.Mem) : Go.AE.ACall Tryd.prog 21 [] m fun v m' => v = .bool true ∧ m' = m := at0 (ok21 _ List.mem_cons_self) rfl m
end Go.Proofs.YtfohjnfdgegfcaaDoor
