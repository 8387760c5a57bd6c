/-
  The named functions of the flags' laws. Conditions: none.
-/
import Derived.Test.YtdfcddldjeohaaaLog8
import Derived.Test.YtdfcddldjeohaaaRows
import Derived.ProofKit
set_option linter.unusedVariables false
set_option linter.unusedSimpArgs false
namespace Go.Proofs.Ytdfcddldjeohaaa
open Go Go.AE Go.SX Go.RowKit
theorem own : ownKnob Try.prog.godebug = none := by kernel_rfl
theorem laidOut : laidOutB Try.prog = true := by kernel_rfl
theorem noNum : Try.prog.funcs.toList.all (fun d => !(d.name == "runtime.NumGoroutine")) = true := by kernel_rfl
theorem mixd : Try.prog.follows .mixedOrders = true := by kernel_rfl
noncomputable def T : Tab Try.prog := tabOf Try.prog noNum mixd
def bI (n : Nat) : Int := .ofNat n
def fPushed (p : Int) (b : Bool) : Nat := (p.toNat &&& 0xCF) + bif b then 16 else 0
def fEnt (p : Int) : Nat := (p.toNat &&& 0xC3) + 4
def ofBits (a b c d e f g h : Bool) : Nat := (bif a then 1 else 0) + ((bif b then 2 else 0) + ((bif c then 4 else 0) + ((bif d then 8 else 0) + ((bif e then 16 else 0) + ((bif f then 32 else 0) + ((bif g then 64 else 0) + (bif h then 128 else 0)))))))
def phi : Nat → D → D
  | 1, d => .i (fPushed d.fst.toI d.snd.toB : Nat)
  | 2, d => .i (fEnt d.toI : Nat)
  | 3, d => .i (ofBits d.fst.toB d.snd.fst.toB d.snd.snd.fst.toB d.snd.snd.snd.fst.toB d.snd.snd.snd.snd.fst.toB d.snd.snd.snd.snd.snd.fst.toB d.snd.snd.snd.snd.snd.snd.fst.toB d.snd.snd.snd.snd.snd.snd.snd.toB : Nat)
  | _, _ => .u
def phR : Nat → List Bool → Rg
  | 1, [] => ⟨some 0, some 255⟩
  | 2, [] => ⟨some 0, some 255⟩
  | 3, [] => ⟨some 0, some 255⟩
  | _, _ => .top
theorem hasM {a b n : Int} (h1 : a ≤ n) (h2 : n ≤ b) : (Rg.mk (some a) (some b)).has n := ⟨fun x hx => by cases hx; exact h1, fun x hx => by cases hx; exact h2⟩
theorem hasT (n : Int) : Rg.top.has n := ⟨fun x hx => (by cases hx), fun x hx => (by cases hx)⟩
theorem phR_ok : ∀ f p d, (phR f p).has ((phi f d).proj p).toI := by
  intro f p d
  unfold phR
  split
  · show Rg.has _ ((fPushed _ _ : Nat) : Int)
    refine hasM (by omega) ?_
    have : ∀ n : Nat, n &&& 0xCF ≤ 0xCF := fun n => Nat.and_le_right
    unfold fPushed
    have := this d.fst.toI.toNat
    cases d.snd.toB <;> simp only [cond_true, cond_false] <;> omega
  · show Rg.has _ ((fEnt _ : Nat) : Int)
    refine hasM (by omega) ?_
    have : d.toI.toNat &&& 0xC3 ≤ 0xC3 := Nat.and_le_right
    unfold fEnt; omega
  · show Rg.has _ ((ofBits _ _ _ _ _ _ _ _ : Nat) : Int)
    refine hasM (by omega) ?_
    have h : ∀ (b : Bool) (n : Nat), (bif b then n else 0) ≤ n := fun b n => by cases b <;> simp
    unfold ofBits
    have h1 := h d.fst.toB 1
    have h2 := h d.snd.fst.toB 2
    have h3 := h d.snd.snd.fst.toB 4
    have h4 := h d.snd.snd.snd.fst.toB 8
    have h5 := h d.snd.snd.snd.snd.fst.toB 16
    have h6 := h d.snd.snd.snd.snd.snd.fst.toB 32
    have h7 := h d.snd.snd.snd.snd.snd.snd.fst.toB 64
    have h8 := h d.snd.snd.snd.snd.snd.snd.snd.toB 128
    omega
  · exact hasT _
def noOb : Ob := ⟨fun _ _ _ _ => False, fun h => h.elim, fun h => h.elim⟩
instance : Fam := ⟨phi, fun _ _ => noOb, phR, phR_ok⟩
abbrev W0 : FuncId → Nat → List Hint := fun _ _ => []
abbrev C0 : FuncId → Option CallF := fun _ => none
theorem C0_ok : ∀ n c, C0 n = some c → ConOk T n c := fun _ _ h => by cases h
def g8b : Gm := gI 2 [255]
def aP : List SV := [.z (.i .u8 (.v 0)), .z (.b (.v 1))]
def sPush : SV := .z (.i .u8 (.ap 1 (.o .pair (.v 0) (.v 1))))
def sEnt : SV := .z (.i .u8 (.ap 2 (.v 0)))
def cPush : ConF := con1b .u8 fun x c => .z (.i .u8 (.ap 1 (.o .pair x c)))
def cEnt : ConF := con1 .u8 fun x => .z (.i .u8 (.ap 2 x))
theorem g8b_ok {i : Int} {b : D} (h0 : 0 ≤ i) (h1 : i ≤ 255) : (gI 2 [255]).ok (envOf [.i i, b]) := gI_ok fun p hp => by
  obtain rfl := List.mem_singleton.1 hp
  exact ⟨h0, h1⟩
theorem g8_ok {i : Int} (h0 : 0 ≤ i) (h1 : i ≤ 255) : (gI 1 [255]).ok (envOf [.i i]) := gI_ok fun p hp => by
  obtain rfl := List.mem_singleton.1 hp
  exact ⟨h0, h1⟩
/-- A function of a byte and a word, met at every value. -/
theorem push_con {n : FuncId} (hfn : T.fn n = true) {C : FuncId → Option CallF} (hC : ∀ n c, C n = some c → ConOk T n c) (h : tryAll sPush (treeOf T (fun _ _ => []) C 300 20 n (gI 2 [255]) aP []) (cross (allI 256) allB2) = true) : Con Try.prog n cPush :=
  con1b_ok (F := fun i b => .int .u8 (fPushed i b)) (fun _ _ _ => rfl) fun i h0 h1 b m => ACall.of_fin (e := envOf [.i i, .b b]) hC hfn (g8b_ok h0 h1) rfl (tryAll_ok h (cross_mem (allI_mem h0 (Int.lt_add_one_of_le h1)) (allB2_mem b))) m
theorem ent_con {n : FuncId} (hfn : T.fn n = true) {C : FuncId → Option CallF} (hC : ∀ n c, C n = some c → ConOk T n c) (h : tryAll sEnt (treeOf T (fun _ _ => []) C 300 20 n (gI 1 [255]) [.z (.i .u8 (.v 0))] []) ((allI 256).map fun x => [x]) = true) : Con Try.prog n cEnt :=
  con1_ok (F := fun i => .int .u8 (fEnt i)) (fun _ _ => rfl) fun i h0 h1 m => ACall.of_fin (e := envOf [.i i]) hC hfn (g8_ok h0 h1) rfl (tryAll_ok h (List.mem_map.2 ⟨_, allI_mem h0 (Int.lt_add_one_of_le h1), rfl⟩)) m
def bits8 : List SV := [.a (.ag ((List.range 8).map fun i => .z (.b (.v i))))]
def pr8 : X := .o .pair (.v 0) (.o .pair (.v 1) (.o .pair (.v 2) (.o .pair (.v 3) (.o .pair (.v 4) (.o .pair (.v 5) (.o .pair (.v 6) (.v 7)))))))
def crossN : Nat → List (List D)
  | 0 => [[]]
  | n + 1 => (crossN n).flatMap fun l => [D.b false :: l, D.b true :: l]
theorem crossN_mem : ∀ {l : List Bool}, l.map D.b ∈ crossN l.length
  | [] => List.mem_singleton.2 rfl
  | b :: l => List.mem_flatMap.2 ⟨l.map D.b, crossN_mem, by cases b <;> simp⟩
def cOf : ConF := fun g args m => match args with
  | [.a (.ag [.z (.b a), .z (.b b), .z (.b c), .z (.b d), .z (.b e), .z (.b f), .z (.b h), .z (.b i)])] => some ([], .z (.i .u8 (.ap 3 (.o .pair a (.o .pair b (.o .pair c (.o .pair d (.o .pair e (.o .pair f (.o .pair h i))))))))), m)
  | _ => none
theorem of_con {n : FuncId} (hfn : T.fn n = true) (h : tryAll (.z (.i .u8 (.ap 3 pr8))) (treeOf T (fun _ _ => []) C0 300 20 n (gI 8 []) bits8 []) (crossN 8) = true) : Con Try.prog n cOf := by
  intro g args m ns v m' e hf hg hn
  unfold cOf at hf
  split at hf
  case h_2 => cases hf
  rename_i a b c d e' f h' i
  cases hf
  have := ACall.of_fin (e := envOf [.b (a.B e), .b (b.B e), .b (c.B e), .b (d.B e), .b (e'.B e), .b (f.B e), .b (h'.B e), .b (i.B e)]) C0_ok hfn (g := gI 8 []) ⟨fun _ h => (by cases h), fun _ h => (by cases h)⟩ rfl
    (tryAll_ok h (crossN_mem (l := [a.B e, b.B e, c.B e, d.B e, e'.B e, f.B e, h'.B e, i.B e]))) (denM e m)
  exact this
set_option maxRecDepth 1000000
theorem con122 : Con Try.prog 14 cPush := push_con rfl C0_ok (by kernel_rfl)
theorem con125 : Con Try.prog 16 cEnt := ent_con rfl C0_ok (by kernel_rfl)
def noL : Nat → Option LI := fun _ => none
def noX : Nat → List X := fun _ => []
end Go.Proofs.Ytdfcddldjeohaaa
