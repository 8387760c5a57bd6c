/-
  The work memory as an object: contracts of its methods, told of bytes. Conditions: none.
-/
import Derived.Test.YtafkhelomlmlpaaGreatRamB
import Derived.Test.YtafkhelomlmlpaaGreatRamC
import Derived.Test.YtafkhelomlmlpaaGreatHdB
set_option linter.unusedSectionVars false
set_option linter.unusedVariables false
set_option linter.unusedSimpArgs false
namespace Go.Proofs.YtafkhelomlmlpaaGreat
open Go Go.AE Go.SX Go.RowKit Go.Ram
set_option maxRecDepth 1000000
/-! The object. -/
structure RamRep (l : List UInt8) (r : GB) (W : World) (fp rp : Nat → Prop) : Prop where
  base : r.base = 0
  mb : ∃ mb, r.b ≠ mb ∧ W.heap[r.b]? = some (.cells #[.map (some mb)] 184 (0, 0)) ∧ IsRam Tryz.prog 68 W mb l ∧ ∀ k, fp k ↔ k = r.b ∨ k = mb
def ramOb (l : List UInt8) : Ob where
  rep := RamRep l
  loc := by
    rintro r W W' fp rp ⟨h0, mb, h1, h2, h3, h4⟩ hk
    exact ⟨h0, mb, h1, (hk _ (.inl ((h4 _).2 (.inl rfl)))).trans h2, h3.move (hk _ (.inl ((h4 _).2 (.inr rfl)))), h4⟩
  root := fun ⟨_, _, _, _, _, h4⟩ => (h4 _).2 (.inl rfl)
theorem ram_mine {W : World} {mb : Nat} {l : List UInt8} (h : IsRam Tryz.prog 68 W mb l) : ∃ ob, W.heap[mb]? = some ob ∧ mine ob = true ∧ mb < W.heap.size := by
  obtain ⟨es, clock, hb, _⟩ := h.own
  exact ⟨_, hb, rfl, (Array.getElem?_eq_some_iff.1 hb).1⟩
theorem acall_read (l : List UInt8) (a : Int) (h0 : 0 ≤ a) (h1 : a ≤ 65535) : ACall Tryz.prog 96 [.pointer (some ⟨0, 0, none⟩), .int .u16 a] [some (bareB (ramOb l))] fun w m => w = .int .u8 ((l.getD (a % 8192).toNat 0).toNat : Nat) ∧ m = [some (bareB (ramOb l))] := by
  refine ACall.method (P := Tryz.prog) (o := ramOb l) (o' := ramOb l) («as» := [.int .u16 a]) rfl (.inl rfl) ?_
  rintro r W fp rp ⟨h2, mb, h3, h4, h5, h6⟩ hlt hd
  have h4b : r.base = 0 := h2
  rw [h4b]
  refine (read_ok r.b 0 mb #[.map (some mb)] 184 (0, 0) l a h0 h1 W h4 rfl h5).mono ?_
  rintro e W' ⟨rfl, rfl⟩
  refine ⟨rfl, rfl, Touch.refl _ _, fp, ⟨h2, mb, h3, h4, h5, h6⟩, fun k hk => .inl hk, hlt, fun k hk => ?_⟩
  rcases (h6 k).1 hk with rfl | rfl
  · exact ⟨_, h4, rfl⟩
  · obtain ⟨ob, q1, q2, _⟩ := ram_mine h5
    exact ⟨ob, q1, q2⟩
theorem acall_write (l : List UInt8) (a : Int) (h0 : 0 ≤ a) (h1 : a ≤ 65535) (x : UInt8) : ACall Tryz.prog 65 [.pointer (some ⟨0, 0, none⟩), .int .u16 a, .int .u8 (x.toNat : Nat)] [some (bareB (ramOb l))] fun w m => w = .tuple #[] ∧ m = [some (bareB (ramOb (l.set (a % 8192).toNat x)))] := by
  refine ACall.method (P := Tryz.prog) (o := ramOb l) (o' := ramOb (l.set (a % 8192).toNat x)) («as» := [.int .u16 a, .int .u8 (x.toNat : Nat)]) rfl (.inr rfl) ?_
  rintro r W fp rp ⟨h2, mb, h3, h4, h5, h6⟩ hlt hd
  have h4b : r.base = 0 := h2
  rw [h4b]
  refine (write_ok r.b 0 mb #[.map (some mb)] 184 (0, 0) l a h0 h1 x W h4 rfl h5).mono ?_
  rintro e W' ⟨rfl, q1, q2, q3, q4, q5, q6⟩
  have hb : r.b < W.heap.size := (Array.getElem?_eq_some_iff.1 h4).1
  have hroot : W'.heap[r.b]? = W.heap[r.b]? := q3 _ hb h3
  refine ⟨rfl, hroot, ⟨q2, fun k hk hn => q3 k hk fun e => hn ((h6 k).2 (.inr e)), q4, q5, q6⟩, fp, ⟨h2, mb, h3, hroot.trans h4, q1, h6⟩, fun k hk => .inl hk, fun k hk => Nat.lt_of_lt_of_le (hlt k hk) q2, fun k hk => ?_⟩
  rcases (h6 k).1 hk with rfl | rfl
  · exact ⟨_, hroot.trans h4, rfl⟩
  · obtain ⟨ob, q1, q2, _⟩ := ram_mine q1
    exact ⟨ob, q1, q2⟩
/-- An object made. -/
theorem ACall.made {f : FuncId} {o : Ob}
    (h : ∀ W : World, Calls Tryz.prog f #[] W fun e W' => ∃ b, e = .returned (.pointer (some ⟨b, 0, none⟩)) ∧ W.heap.size ≤ b ∧ Below W.heap.size W W' ∧ (∃ cs el x, W'.heap[b]? = some (.cells cs el x)) ∧
      ∃ fp, o.rep ⟨b, 0, 0⟩ W' fp (fun _ => False) ∧ ∀ k, fp k → W.heap.size ≤ k ∧ k < W'.heap.size ∧ ∃ ob, W'.heap[k]? = some ob ∧ mine ob = true) :
    ACall Tryz.prog f [] [] fun w m => w = .pointer (some ⟨0, 0, none⟩) ∧ m = [some (bareB o)] := by
  intro c g W args' hr ha
  cases ha
  have hgl : g = [] := List.eq_nil_of_length_eq_zero hr.len
  subst hgl
  refine (h W).mono ?_
  rintro e W' ⟨b, rfl, hb, hbl, ⟨cs, el, x, hcell⟩, fp, hrep, hfp⟩
  have only : ∀ (j : Nat) (bl : ABlk), [some (bareB o)][j]? = some (some bl) → j = 0 ∧ bl = bareB o := fun j bl hj => by
    cases j with
    | zero => cases hj; exact ⟨rfl, rfl⟩
    | succ j => cases hj
  have onlyg : ∀ (j : Nat) (gb : GB), [some (⟨b, 0, 0⟩ : GB)][j]? = some (some gb) → gb = ⟨b, 0, 0⟩ := fun j gb hj => by
    cases j with
    | zero => cases hj; rfl
    | succ j => cases hj
  refine ⟨_, _, [some (bareB o)], [some ⟨b, 0, 0⟩], rfl, ⟨rfl, rfl⟩, ?_, .s (.ptr 0 0 ⟨b, 0, 0⟩ rfl)⟩
  rw [List.nil_append]
  refine ⟨rfl, ?_, ?_, fun k hk hF => ?_, Nat.le_trans hr.size hbl.size, hbl.os.trans hr.os, hbl.tape.trans hr.tape, hbl.output.trans hr.output, ?_, fun j bl gb hj hg hrw hob => ?_⟩
  · intro j bl gb' hj hg'
    obtain ⟨rfl, rfl⟩ := only j bl hj
    cases hg'
    exact ⟨cs, (el, x), hcell, .nil, Nat.zero_le _, fun h => (by cases h), fun h => (by cases h)⟩
  · intro i j bi bj gi gj hij hi hj
    obtain ⟨rfl, _⟩ := only i bi hi
    obtain ⟨rfl, _⟩ := only j bj hj
    exact (hij rfl).elim
  · exact (hbl.block k (Nat.lt_of_lt_of_le hk hr.size)).trans (hr.frame k hk hF)
  · obtain ⟨fp0, rp0, hA⟩ := hr.objs
    refine ⟨fun j k => j = 0 ∧ fp k, fun _ _ => False, ?_, ?_, fun _ _ h => h.elim, ?_, ?_, hA.rr, ?_⟩
    · intro j bl gb' o1 hj hg' hob
      obtain ⟨rfl, rfl⟩ := only j bl hj
      cases hg'
      cases hob
      have e1 : (fun k => (0 : Nat) = 0 ∧ fp k) = fp := funext fun k => propext ⟨fun h => h.2, fun h => ⟨rfl, h⟩⟩
      rw [e1]
      exact ⟨hrep, rfl⟩
    · rintro j k ⟨rfl, hk⟩
      exact ⟨(hfp k hk).2.1, .inl (Nat.le_trans hr.size (hfp k hk).1)⟩
    · rintro i j k hij ⟨rfl, _⟩ ⟨rfl, _⟩
      exact hij rfl
    · intro i bl gb' j hi hg' hob
      obtain ⟨rfl, rfl⟩ := only i bl hi
      cases hob
    · rintro j k ⟨_, hk⟩
      exact (hfp k hk).2.2
  · obtain ⟨rfl, rfl⟩ := only j bl hj
    cases hob
theorem acall_new : ACall Tryz.prog 48 [] [] fun w m => w = .pointer (some ⟨0, 0, none⟩) ∧ m = [some (bareB (ramOb (List.replicate 8192 0)))] := by
  refine ACall.made fun W => (new_ok W).mono ?_
  rintro e W' ⟨b, mb, rfl, h1, h2, h3, h4, h5, h6⟩
  have hbl : b < W'.heap.size := (Array.getElem?_eq_some_iff.1 h1).1
  obtain ⟨ob, q1, q2, q3⟩ := ram_mine h5
  refine ⟨b, rfl, h2, h6, ⟨_, _, _, h1⟩, fun k => k = b ∨ k = mb, ⟨rfl, mb, h4, h1, h5, fun k => Iff.rfl⟩, fun k hk => ?_⟩
  rcases hk with rfl | rfl
  · exact ⟨h2, hbl, _, h1, rfl⟩
  · exact ⟨h3, q3, ob, q1, q2⟩
/-! The contracts. -/
variable [HF]
class ROk : Prop where
  ob3 : ∀ d, Fam.ob 3 d = ramOb d.toS
  h60 : ∀ d, Fam.Φ 60 d = .s (List.replicate 8192 0)
variable [ROk]
theorem ob3_den (e : En) (x : X) : denM e [some (obS 3 x)] = [some (bareB (ramOb (x.S e)))] := by
  show [some ((obS 3 x).den e)] = _
  rw [obS_den, ROk.ob3]; rfl
def off1 : X := .o .emod (.v 1) (.i 8192)
def ramRd : LC := ⟨2, [p0, .z (.i .u16 (.v 1))], [some (obS 3 (.v 0))], [⟨.v 1, ⟨some 0, some 65535⟩⟩], [], .z (.i .u8 (.o .nth (.v 0) off1)), [some (obS 3 (.v 0))]⟩
def ramWr : LC := ⟨3, [p0, .z (.i .u16 (.v 1)), .z (.i .u8 (.v 2))], [some (obS 3 (.v 0))], [⟨.v 1, ⟨some 0, some 65535⟩⟩, ⟨.v 2, ⟨some 0, some 255⟩⟩], [], .tu [], [some (obS 3 (.set (.v 0) off1 (.v 2)))]⟩
def zerosX : X := .ap 60 .nil
def ramNw : LC := ⟨0, [], [], [], [], p0, [some (obS 3 zerosX)]⟩
theorem ramRd_ok : ramRd.Ok Tryz.prog 96 := ⟨fun ds hl hf ha => by
  obtain ⟨h0, h1⟩ := hf _ List.mem_cons_self
  have h0 : 0 ≤ ((envOf ds).ρ 1).toI := h0 _ rfl
  have h1 : ((envOf ds).ρ 1).toI ≤ 65535 := h1 _ rfl
  show ACall Tryz.prog _ [p0.den (envOf ds), .int .u16 ((envOf ds).ρ 1).toI] (denM (envOf ds) [some (obS 3 (.v 0))]) fun w m2 => w = _ ∧ m2 = denM (envOf ds) [some (obS 3 (.v 0))]
  rw [ob3_den]
  exact acall_read ((X.v 0).S (envOf ds)) _ h0 h1⟩
theorem byte_back {n : Int} (h0 : 0 ≤ n) (h1 : n ≤ 255) : (((UInt8.ofNat n.toNat).toNat : Nat) : Int) = n := by
  have : (UInt8.ofNat n.toNat).toNat = n.toNat % 256 := rfl
  rw [this]; omega
theorem ramWr_ok : ramWr.Ok Tryz.prog 65 := ⟨fun ds hl hf ha => by
  obtain ⟨h0, h1⟩ := hf _ List.mem_cons_self
  obtain ⟨h2, h3⟩ := hf _ (List.mem_cons_of_mem _ List.mem_cons_self)
  have h0 : 0 ≤ ((envOf ds).ρ 1).toI := h0 _ rfl
  have h1 : ((envOf ds).ρ 1).toI ≤ 65535 := h1 _ rfl
  have h2 : 0 ≤ ((envOf ds).ρ 2).toI := h2 _ rfl
  have h3 : ((envOf ds).ρ 2).toI ≤ 255 := h3 _ rfl
  show ACall Tryz.prog _ [p0.den (envOf ds), .int .u16 ((envOf ds).ρ 1).toI, .int .u8 ((envOf ds).ρ 2).toI] (denM (envOf ds) [some (obS 3 (.v 0))]) fun w m2 => w = _ ∧ m2 = denM (envOf ds) [some (obS 3 (.set (.v 0) off1 (.v 2)))]
  rw [ob3_den, ob3_den]
  have := acall_write ((X.v 0).S (envOf ds)) _ h0 h1 (UInt8.ofNat ((envOf ds).ρ 2).toI.toNat)
  rw [byte_back h2 h3] at this
  exact this⟩
theorem ramNw_ok : ramNw.Ok Tryz.prog 48 := ⟨fun ds hl hf ha => by
  show ACall Tryz.prog _ [] [] fun w m2 => w = _ ∧ m2 = denM (envOf ds) [some (obS 3 zerosX)]
  rw [ob3_den]
  have e : zerosX.S (envOf ds) = List.replicate 8192 0 := by
    show (Fam.Φ 60 .u).toS = _
    rw [ROk.h60]; rfl
  rw [e]
  exact acall_new⟩
/-- A place that is one. -/
def ramWr8 : LC := ⟨3, [p0, .z (.i .u16 (.v 1)), .z (.i .u8 (.v 2))], [some (obS 3 (.v 0))], [⟨.v 1, ⟨some 0, some 8191⟩⟩, ⟨.v 2, ⟨some 0, some 255⟩⟩], [], .tu [], [some (obS 3 (.set (.v 0) (.v 1) (.v 2)))]⟩
theorem ramWr8_ok : ramWr8.Ok Tryz.prog 65 := ramWr_ok.conv rfl rfl rfl fun ds hl hf ha => by
  obtain ⟨h0, h1⟩ := hf ⟨.v 1, ⟨some 0, some 8191⟩⟩ List.mem_cons_self
  have h0 : 0 ≤ ((envOf ds).ρ 1).toI := h0 _ rfl
  have h1 : ((envOf ds).ρ 1).toI ≤ 8191 := h1 _ rfl
  refine ⟨all_cons' (hasM h0 (by show ((envOf ds).ρ 1).toI ≤ 65535; omega)) (all_cons' (hf _ (List.mem_cons_of_mem _ List.mem_cons_self)) all_nil'), fun x hx => (by cases hx), rfl, ?_⟩
  show denM (envOf ds) [some (obS 3 (.set (.v 0) off1 (.v 2)))] = denM (envOf ds) [some (obS 3 (.set (.v 0) (.v 1) (.v 2)))]
  rw [ob3_den, ob3_den]
  have e : X.S (envOf ds) (.set (.v 0) off1 (.v 2)) = X.S (envOf ds) (.set (.v 0) (.v 1) (.v 2)) := by
    show ((envOf ds).ρ 0).toS.set (((envOf ds).ρ 1).toI % 8192).toNat _ = ((envOf ds).ρ 0).toS.set ((envOf ds).ρ 1).toI.toNat _
    rw [Int.emod_eq_of_lt h0 (by omega)]
  rw [e]
/-- All is 0. -/
def lemZ : List X := [.o .eq (.u .len zerosX) (.i 8192), .o .seq (.s (List.replicate 8192 0)) zerosX]
theorem lemZ_ok (e : En) : ∀ x ∈ lemZ, x.B e = true := by
  intro x hx
  have e1 : (zerosX.den e).toS = List.replicate 8192 0 := by
    show (Fam.Φ 60 .u).toS = _
    rw [ROk.h60]; rfl
  rcases List.mem_cons.1 hx with rfl | hx
  · show decide ((((zerosX.den e).toS.length : Nat) : Int) = 8192) = true
    rw [e1, List.length_replicate]; rfl
  · obtain rfl := List.mem_singleton.1 hx
    show (List.replicate 8192 0 == (zerosX.den e).toS) = true
    rw [e1]; exact beq_self_eq_true _
end Go.Proofs.YtafkhelomlmlpaaGreat
