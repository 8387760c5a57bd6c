/-
  Contracts for the devices behind the buffer (HdD). Conditions: none.
-/
import Derived.Test.YtafkhelomlmlpaaGreatHdC
set_option linter.unusedSectionVars false
set_option linter.unusedVariables false
set_option linter.unusedSimpArgs false
namespace Go.Proofs.YtafkhelomlmlpaaGreat
open Go Go.AE Go.SX Go.RowKit
set_option maxRecDepth 1000000
variable [HF]
def eK : List CK := [.i .i64, .i .u8, .b]
def slOf (j n : Nat) : SS := .z (.sl j (.i 0) 0 0 (.u .rlen (.v n)) (.u .rlen (.v n)))
def upX (l s : X) (k : X) : X := .ap 0 (.o .pair l (.o .pair s k))
def upC (k : Int) : SS := .z (.b (upX (.v 0) (.v 1) (.i k)))
def fsLn : List Fact := [⟨.u .rlen (.v 0), ⟨some 0, some 1000⟩⟩, ⟨.v 1, ⟨some 0, some 1000⟩⟩]
def asLn : List X := [.u .not (.o .lt (.u .rlen (.v 0)) (.v 1))]
/-! The document's lines. -/
def mL2 : SMem := [some ⟨.cs [slOf 1 0, i64 1, bb 2], 130, true, true⟩, some ⟨.rw eK (.v 0), 166, false, false⟩]
def lcUp (r : X) : LC := ⟨4, [p0, .z (.i .u8 (.v 3))], mL2, fsLn ++ [⟨.v 3, ⟨some 0, some 255⟩⟩], asLn, .z (.b r), mL2⟩
def Wup : FuncId → Nat → List (Hint Tryz.prog) := fun n _ => bif Nat.beq n 90 then [.t 6 (some 0) (some 1000), .t 5 none none] else []
def lcTo2 (s r : X) : LC := ⟨4, [p0, .z (.i .i64 (.v 3))], mL2, fsLn ++ [⟨.v 3, ⟨some 0, some 4611686018427387904⟩⟩], asLn, .tu [], [some ⟨.cs [slOf 1 0, .z (.i .i64 s), .z (.b r)], 130, true, true⟩, some ⟨.rw eK (.v 0), 166, false, false⟩]⟩
def Wto2 : FuncId → Nat → List (Hint Tryz.prog) := fun n _ => bif Nat.beq n 208 then [.c 0 1 (some 0) (some 1000), .c 0 2 none none] else []
/-! The program's. -/
def mL1 : SMem := [some ⟨.cs [slOf 1 0, i64 1, upC 0, upC 1, upC 2, upC 3, bb 2], 168, true, true⟩, some ⟨.rw eK (.v 0), 166, true, false⟩]
def lcTo1 (s u0 u1 u2 u3 r : X) : LC := ⟨4, [p0, .z (.i .i64 (.v 3))], mL1, fsLn ++ [⟨.v 3, ⟨some 0, some 4611686018427387904⟩⟩], .ap 7 (.v 0) :: asLn, .tu [], [some ⟨.cs [slOf 1 0, .z (.i .i64 s), .z (.b u0), .z (.b u1), .z (.b u2), .z (.b u3), .z (.b r)], 168, true, true⟩, some ⟨.rw eK (.v 0), 166, true, false⟩]⟩
def Wto1 : FuncId → Nat → List (Hint Tryz.prog) := fun n _ => bif Nat.beq n 162 then [.c 0 1 (some 0) (some 1000), .c 0 2 none none, .c 0 3 none none, .c 0 4 none none, .c 0 5 none none, .c 0 6 none none] else []
/-- The contract of a loop. -/
theorem lj_ok {f : LFn} {cond : X} {next : List X} {k : Nat} (hc : f.cond = cond) (hn : f.next = next) (hp : f.ps.length = k) (hF : ∀ d, Fam.Φ f.F d = fixD cond next k d) : IsLoop f := by
  subst hc hn hp
  exact isLoop_fix hF
def Lone (b : Nat) (li : LJ) : Nat → Option LJ := fun n => bif Nat.beq n b then some li else none
theorem Lone_ok {b : Nat} {inv ms : X} {f : LFn} (h : IsLoop f) : ∀ n li g, Lone b ⟨inv, ms, some f⟩ n = some li → li.fn = some g → IsLoop g := fun n li g hl hg => by
  unfold Lone at hl
  cases hb : Nat.beq n b with
  | false => rw [hb] at hl; cases hl
  | true => rw [hb] at hl; cases hl; cases hg; exact h
def Xone (b : Nat) (l : List X) : Nat → List X := fun n => bif Nat.beq n b then l else []
theorem Xone_ok {b : Nat} {l : List X} (h : ∀ x ∈ l, ∀ e : En, x.B e = true) : ∀ n, ∀ x ∈ Xone b l n, ∀ e : En, x.B e = true := fun n x hx => by
  unfold Xone at hx
  cases hb : Nat.beq n b with
  | false => rw [hb] at hx; cases hx
  | true => rw [hb] at hx; exact h x hx
class HOk1 : Prop where
  h0 : ∀ d, Fam.Φ 0 d = upD d
  h1 : ∀ d, Fam.Φ 1 d = toD d
  h2 : ∀ d, Fam.Φ 2 d = goD d
  h3 : ∀ d, Fam.Φ 3 d = .i (whI d.toI)
  h7 : ∀ d, Fam.Φ 7 d = .b (okL d.toR)
  h10 : ∀ d, Fam.Φ 10 d = fixD condGo nextGo 1 d
  h11 : ∀ d, Fam.Φ 11 d = fixD cond11 next11 3 d
  h12 : ∀ d, Fam.Φ 12 d = fixD cond12 next12 2 d
  h13 : ∀ d, Fam.Φ 13 d = fixD cond13 next13 2 d
variable [HOk1]
def fn11 : LFn := ⟨11, [.v 0, .v 1, .v 3], cond11, next11⟩
def up11 : X := .ap 11 (packX [.i 0, .b false, .v 0, .v 1, .v 3])
theorem up1 : (lcUp (.u .snd up11)).Ok Tryz.prog 90 :=
  LC.Ok.of_treeF (L := Lone 4 ⟨.b true, .o .add (.v 1) (.o .mul (.v 4) (.i (-1))), some fn11⟩) (lem := noX) (W := Wup) (n := 12) (cf := 300) (d := 20) (opn := []) (cls := []) (Lone_ok (lj_ok rfl rfl rfl HOk1.h11)) (fun _ _ h => by cases h) CI_ok noT_ok rfl rfl (by kernel_rfl)
def lcU : LC := lcUp (upX (.v 0) (.v 1) (.v 3))
theorem len4 {ds : List D} (h : ds.length = 4) : ∃ a b c d, ds = [a, b, c, d] := by
  match ds, h with
  | [a, b, c, d], _ => exact ⟨a, b, c, d, rfl⟩
theorem upOk : lcU.Ok Tryz.prog 90 := by
  refine up1.conv rfl rfl rfl fun ds hl hf ha => ⟨hf, ha, ?_, rfl⟩
  obtain ⟨L, s, r, k, rfl⟩ := len4 hl
  obtain ⟨s1, _⟩ := hf ⟨.v 1, ⟨some 0, some 1000⟩⟩ (by show _ ∈ fsLn ++ _; simp [fsLn])
  have s1 : 0 ≤ s.toI := s1 _ rfl
  obtain ⟨a, b, h, hb⟩ := up_fix (d := .p (.i 0) (.p (.b false) (.p L (.p s k)))) rfl s1
  show Value.bool (Fam.Φ 11 (.p (.i 0) (.p (.b false) (.p L (.p s k))))).snd.toB = Value.bool (Fam.Φ 0 (.p L (.p s k))).toB
  rw [HOk1.h0, HOk1.h11]
  have h : [(fixD cond11 next11 3 (.p (.i 0) (.p (.b false) (.p L (.p s k))))).fst, (fixD cond11 next11 3 (.p (.i 0) (.p (.b false) (.p L (.p s k))))).snd] = [a, b] := h
  simp only [List.cons.injEq, and_true] at h
  rw [h.2, hb]; rfl
noncomputable def CU : FuncId → Option CallF := conTab [(90, conCall (conG 8 TI lcU))]
theorem CU_ok : ∀ n c, CU n = some c → ConOk TI n c := conTab_ok fun p hp => by
  obtain rfl := List.mem_singleton.1 hp
  exact (conG_ok rfl upOk).ok
def fn12 : LFn := ⟨12, [.v 0, .v 3], cond12, next12⟩
def ap12 : X := .ap 12 (packX [.v 1, .v 2, .v 0, .v 3])
def inv12 : X := .u .not (.o .lt (.u .rlen (.v 0)) (.v 4))
theorem to2 : (lcTo2 (.u .fst ap12) (.u .snd ap12)).Ok Tryz.prog 208 :=
  LC.Ok.of_treeF (L := Lone 4 ⟨inv12, .o .add (.u .rlen (.v 0)) (.o .mul (.v 4) (.i (-1))), some fn12⟩) (lem := noX) (W := Wto2) (n := 12) (cf := 300) (d := 20) (opn := []) (cls := []) (Lone_ok (lj_ok rfl rfl rfl HOk1.h12)) (fun _ _ h => by cases h) CU_ok noT_ok rfl rfl (by kernel_rfl)
def ap1 : X := .ap 1 (packX (varsX 4))
def lcT2 : LC := lcTo2 (.u .fst ap1) (.u .snd ap1)
theorem to_eq {L s r t : D} (s1 : 0 ≤ s.toI) (l1 : ((L.toR.length : Nat) : Int) ≤ 1000) (hs : s.toI ≤ ((L.toR.length : Nat) : Int)) {a b : D} (ha : 0 ≤ a.toI) (h : (a.toI.toNat, b.toB) = toF L.toR t.toI (L.toR.length - s.toI.toNat) s.toI.toNat r.toB) :
    toD (.p L (.p s (.p r t))) = .p (.i a.toI) (.b b.toB) ∧ a.toI ≤ ((L.toR.length : Nat) : Int) := by
  have h2 := toF_le (L := L.toR) (t := t.toI) (L.toR.length - s.toI.toNat) s.toI.toNat r.toB (by omega)
  have ha2 : (toF L.toR t.toI (L.toR.length - s.toI.toNat) s.toI.toNat r.toB).1 = a.toI.toNat := by rw [← h]
  have hb2 : (toF L.toR t.toI (L.toR.length - s.toI.toNat) s.toI.toNat r.toB).2 = b.toB := by rw [← h]
  rw [ha2] at h2
  refine ⟨?_, by omega⟩
  show D.p (.i (clampI 0 (min 1000 (L.toR.length : Nat)) ((toF L.toR t.toI (L.toR.length - s.toI.toNat) s.toI.toNat r.toB).1 : Nat))) (.b (toF L.toR t.toI (L.toR.length - s.toI.toNat) s.toI.toNat r.toB).2) = _
  rw [ha2, hb2, clampI_eq (by omega) (by omega)]
  congr 2
  omega
theorem lnFacts {c : LC} {L s r t : D} (h1 : fsLn ⊆ c.fs) (h2 : asLn ⊆ c.as) (hf : ∀ f ∈ c.fs, f.r.has (f.e.I (envOf [L, s, r, t]))) (ha : ∀ x ∈ c.as, x.B (envOf [L, s, r, t]) = true) :
    0 ≤ s.toI ∧ ((L.toR.length : Nat) : Int) ≤ 1000 ∧ s.toI ≤ ((L.toR.length : Nat) : Int) := by
  obtain ⟨s1, _⟩ := hf ⟨.v 1, ⟨some 0, some 1000⟩⟩ (h1 (by simp [fsLn]))
  obtain ⟨_, l1⟩ := hf ⟨.u .rlen (.v 0), ⟨some 0, some 1000⟩⟩ (h1 (by simp [fsLn]))
  have h3 : (!decide (((L.toR.length : Nat) : Int) < s.toI)) = true := ha (.u .not (.o .lt (.u .rlen (.v 0)) (.v 1))) (h2 (by simp [asLn]))
  simp only [Bool.not_eq_true', decide_eq_false_iff_not] at h3
  exact ⟨s1 _ rfl, l1 _ rfl, by omega⟩
theorem toOk2 : lcT2.Ok Tryz.prog 208 := by
  refine to2.conv rfl rfl rfl fun ds hl hf ha => ⟨hf, ha, rfl, ?_⟩
  obtain ⟨L, s, r, t, rfl⟩ := len4 hl
  obtain ⟨s1, l1, hs⟩ := lnFacts (c := lcT2) (fun x hx => List.mem_append_left _ hx) (fun x hx => hx) hf ha
  obtain ⟨a, b, h, h0, hab⟩ := to_fix (s := s) (r := r) (L := L) (t := t) (d := .p s (.p r (.p L t))) HOk1.h0 rfl s1
  have he := (to_eq s1 l1 hs h0 hab).1
  show [some (ABlk.mk [_, .int .i64 (Fam.Φ 12 (.p s (.p r (.p L t)))).fst.toI, .bool (Fam.Φ 12 (.p s (.p r (.p L t)))).snd.toB] _ true true none), _] =
    [some (ABlk.mk [_, .int .i64 (Fam.Φ 1 (.p L (.p s (.p r t)))).fst.toI, .bool (Fam.Φ 1 (.p L (.p s (.p r t)))).snd.toB] _ true true none), _]
  rw [HOk1.h1, HOk1.h12, he]
  have h : [(fixD cond12 next12 2 (.p s (.p r (.p L t)))).fst, (fixD cond12 next12 2 (.p s (.p r (.p L t)))).snd] = [a, b] := h
  simp only [List.cons.injEq, and_true] at h
  rw [h.1, h.2]; rfl
/-! The program's lines. -/
def fn13 : LFn := ⟨13, [.v 0, .v 3], cond13, next13⟩
def ap13 : X := .ap 13 (packX [.v 1, upX (.v 0) (.v 1) (.i 0), upX (.v 0) (.v 1) (.i 1), upX (.v 0) (.v 1) (.i 2), upX (.v 0) (.v 1) (.i 3), .v 2, .v 0, .v 3])
def cx (n : Nat) (x : X) : X := (compX 6 x).getD n .nil
def lem13 : X := .u .not (.o .and (.ap 7 (.v 0)) (.u .not (.o .lt (.u (.wrap .u8) (.o (.rI 1) (.v 0) (.v 4))) (.i 4))))
theorem lem13_ok : ∀ e : En, lem13.B e = true := fun e => by
  show (!((Fam.Φ 7 (e.ρ 0)).toB && !decide (lnI (e.ρ 0).toR (e.ρ 4).toI.toNat < 4))) = true
  rw [HOk1.h7]
  show (!(okL (e.ρ 0).toR && !decide (lnI (e.ρ 0).toR (e.ρ 4).toI.toNat < 4))) = true
  cases h : okL (e.ρ 0).toR with
  | false => rfl
  | true => rw [decide_eq_true (okL_lt h _)]; rfl
theorem to1 : (lcTo1 (cx 0 ap13) (cx 1 ap13) (cx 2 ap13) (cx 3 ap13) (cx 4 ap13) (cx 5 ap13)).Ok Tryz.prog 162 :=
  LC.Ok.of_treeF (L := Lone 4 ⟨inv12, .o .add (.u .rlen (.v 0)) (.o .mul (.v 4) (.i (-1))), some fn13⟩) (lem := Xone 4 [lem13]) (W := Wto1) (n := 12) (cf := 300) (d := 20) (opn := []) (cls := []) (Lone_ok (lj_ok rfl rfl rfl HOk1.h13)) (Xone_ok fun x hx => by obtain rfl := List.mem_singleton.1 hx; exact lem13_ok) CI_ok noT_ok rfl rfl (by kernel_rfl)
def upA (k : Int) : X := upX (.v 0) (.u .fst ap1) (.i k)
def lcT1 : LC := lcTo1 (.u .fst ap1) (upA 0) (upA 1) (upA 2) (upA 3) (.u .snd ap1)
theorem toOk1 : lcT1.Ok Tryz.prog 162 := by
  refine to1.conv rfl rfl rfl fun ds hl hf ha => ⟨hf, ha, rfl, ?_⟩
  obtain ⟨L, s, r, t, rfl⟩ := len4 hl
  obtain ⟨s1, l1, hs⟩ := lnFacts (c := lcT1) (fun x hx => List.mem_append_left _ hx) (fun x hx => List.mem_cons_of_mem _ hx) hf ha
  have hu : ∀ k : Int, (Fam.Φ 0 (.p L (.p s (.i k)))).toB = upF L.toR k s.toI.toNat := fun k => by rw [HOk1.h0]; rfl
  obtain ⟨a, b0, b1, b2, b3, b, h, h0, hab, q0, q1, q2, q3⟩ := to1_fix (s := s) (r := r) (L := L) (t := t) (u0 := Fam.Φ 0 (.p L (.p s (.i 0)))) (u1 := Fam.Φ 0 (.p L (.p s (.i 1)))) (u2 := Fam.Φ 0 (.p L (.p s (.i 2)))) (u3 := Fam.Φ 0 (.p L (.p s (.i 3)))) (d := .p s (.p (Fam.Φ 0 (.p L (.p s (.i 0)))) (.p (Fam.Φ 0 (.p L (.p s (.i 1)))) (.p (Fam.Φ 0 (.p L (.p s (.i 2)))) (.p (Fam.Φ 0 (.p L (.p s (.i 3)))) (.p r (.p L t))))))) rfl s1 (hu 0) (hu 1) (hu 2) (hu 3)
  have he := (to_eq s1 l1 hs h0 hab).1
  have hz := HOk1.h13 (.p s (.p (Fam.Φ 0 (.p L (.p s (.i 0)))) (.p (Fam.Φ 0 (.p L (.p s (.i 1)))) (.p (Fam.Φ 0 (.p L (.p s (.i 2)))) (.p (Fam.Φ 0 (.p L (.p s (.i 3)))) (.p r (.p L t)))))))
  rw [← hz] at h
  show [some (ABlk.mk [_, .int .i64 (Fam.Φ 13 (.p s (.p (Fam.Φ 0 (.p L (.p s (.i 0)))) (.p (Fam.Φ 0 (.p L (.p s (.i 1)))) (.p (Fam.Φ 0 (.p L (.p s (.i 2)))) (.p (Fam.Φ 0 (.p L (.p s (.i 3)))) (.p r (.p L t)))))))).fst.toI,
      .bool (Fam.Φ 13 (.p s (.p (Fam.Φ 0 (.p L (.p s (.i 0)))) (.p (Fam.Φ 0 (.p L (.p s (.i 1)))) (.p (Fam.Φ 0 (.p L (.p s (.i 2)))) (.p (Fam.Φ 0 (.p L (.p s (.i 3)))) (.p r (.p L t)))))))).snd.fst.toB,
      .bool (Fam.Φ 13 (.p s (.p (Fam.Φ 0 (.p L (.p s (.i 0)))) (.p (Fam.Φ 0 (.p L (.p s (.i 1)))) (.p (Fam.Φ 0 (.p L (.p s (.i 2)))) (.p (Fam.Φ 0 (.p L (.p s (.i 3)))) (.p r (.p L t)))))))).snd.snd.fst.toB,
      .bool (Fam.Φ 13 (.p s (.p (Fam.Φ 0 (.p L (.p s (.i 0)))) (.p (Fam.Φ 0 (.p L (.p s (.i 1)))) (.p (Fam.Φ 0 (.p L (.p s (.i 2)))) (.p (Fam.Φ 0 (.p L (.p s (.i 3)))) (.p r (.p L t)))))))).snd.snd.snd.fst.toB,
      .bool (Fam.Φ 13 (.p s (.p (Fam.Φ 0 (.p L (.p s (.i 0)))) (.p (Fam.Φ 0 (.p L (.p s (.i 1)))) (.p (Fam.Φ 0 (.p L (.p s (.i 2)))) (.p (Fam.Φ 0 (.p L (.p s (.i 3)))) (.p r (.p L t)))))))).snd.snd.snd.snd.fst.toB,
      .bool (Fam.Φ 13 (.p s (.p (Fam.Φ 0 (.p L (.p s (.i 0)))) (.p (Fam.Φ 0 (.p L (.p s (.i 1)))) (.p (Fam.Φ 0 (.p L (.p s (.i 2)))) (.p (Fam.Φ 0 (.p L (.p s (.i 3)))) (.p r (.p L t)))))))).snd.snd.snd.snd.snd.toB] _ true true none), _] =
    [some (ABlk.mk [_, .int .i64 (Fam.Φ 1 (.p L (.p s (.p r t)))).fst.toI, .bool (Fam.Φ 0 (.p L (.p (Fam.Φ 1 (.p L (.p s (.p r t)))).fst (.i 0)))).toB, .bool (Fam.Φ 0 (.p L (.p (Fam.Φ 1 (.p L (.p s (.p r t)))).fst (.i 1)))).toB,
      .bool (Fam.Φ 0 (.p L (.p (Fam.Φ 1 (.p L (.p s (.p r t)))).fst (.i 2)))).toB, .bool (Fam.Φ 0 (.p L (.p (Fam.Φ 1 (.p L (.p s (.p r t)))).fst (.i 3)))).toB, .bool (Fam.Φ 1 (.p L (.p s (.p r t)))).snd.toB] _ true true none), _]
  generalize Fam.Φ 13 (.p s (.p (Fam.Φ 0 (.p L (.p s (.i 0)))) (.p (Fam.Φ 0 (.p L (.p s (.i 1)))) (.p (Fam.Φ 0 (.p L (.p s (.i 2)))) (.p (Fam.Φ 0 (.p L (.p s (.i 3)))) (.p r (.p L t))))))) = z at h
  have h : [z.fst, z.snd.fst, z.snd.snd.fst, z.snd.snd.snd.fst, z.snd.snd.snd.snd.fst, z.snd.snd.snd.snd.snd] = [a, b0, b1, b2, b3, b] := h
  simp only [List.cons.injEq, and_true] at h
  obtain ⟨rfl, rfl, rfl, rfl, rfl, rfl⟩ := h
  rw [HOk1.h1, he]
  have hv : ∀ k : Int, (Fam.Φ 0 (.p L (.p (D.p (.i z.fst.toI) (.b z.snd.snd.snd.snd.snd.toB)).fst (.i k)))).toB = upF L.toR k z.fst.toI.toNat := fun k => by rw [HOk1.h0]; rfl
  rw [hv, hv, hv, hv, q0, q1, q2, q3]; rfl
/-! Where, and which register. -/
def fsA : List Fact := [⟨.v 0, ⟨some 0, some 2097151⟩⟩]
def lcWh (x : X) : LC := ⟨1, [.z (.i .u32 (.v 0))], [], fsA, [], .z (.i .u8 x), []⟩
def wh1X : X := (.t .i (.o .lt (.i 127) (.o .ediv (.v 0) (.i 8192))) (.t .i (.o .and (.u .not (.o .lt (.o .ediv (.v 0) (.i 8192)) (.i 248))) (.u .not (.o .lt (.i 251) (.o .ediv (.v 0) (.i 8192))))) (.i 1) (.t .i (.o .eq (.o .ediv (.v 0) (.i 8192)) (.i 255)) (.t .i (.o .lt (.o .emod (.v 0) (.i 8192)) (.i 6144)) (.t .i (.o .lt (.o .emod (.v 0) (.i 8192)) (.i 5120)) (.t .i (.o .lt (.o .emod (.v 0) (.i 8192)) (.i 4096)) (.t .i (.o .lt (.o .emod (.v 0) (.i 8192)) (.i 3072)) (.t .i (.o .lt (.o .emod (.v 0) (.i 8192)) (.i 2048)) (.t .i (.o .lt (.o .emod (.v 0) (.i 8192)) (.i 1024)) (.i 3) (.i 4)) (.i 5)) (.i 6)) (.i 7)) (.i 8)) (.i 2)) (.i 2))) (.i 0))
def wh2X : X := (.t .i (.o .lt (.o .ediv (.v 0) (.i 8192)) (.i 128)) (.i 0) (.t .i (.o .and (.u .not (.o .lt (.o .ediv (.v 0) (.i 8192)) (.i 248))) (.u .not (.o .lt (.i 251) (.o .ediv (.v 0) (.i 8192))))) (.i 1) (.t .i (.o .or (.u .not (.o .eq (.o .ediv (.v 0) (.i 8192)) (.i 255))) (.u .not (.o .lt (.o .emod (.v 0) (.i 8192)) (.i 6144)))) (.i 2) (.t .i (.o .eq (.o .emod (.o .ediv (.v 0) (.i 1024)) (.i 8)) (.i 0)) (.i 3) (.t .i (.o .eq (.o .emod (.o .ediv (.v 0) (.i 1024)) (.i 8)) (.i 1)) (.i 4) (.t .i (.o .eq (.o .emod (.o .ediv (.v 0) (.i 1024)) (.i 8)) (.i 2)) (.i 5) (.t .i (.o .eq (.o .emod (.o .ediv (.v 0) (.i 1024)) (.i 8)) (.i 3)) (.i 6) (.t .i (.o .eq (.o .emod (.o .ediv (.v 0) (.i 1024)) (.i 8)) (.i 4)) (.i 7) (.i 8)))))))))
theorem wh1 : (lcWh wh1X).Ok Tryz.prog 95 := lc_ok rfl rfl (by kernel_rfl)
/-- Low places are in low units. -/
def unitX : X := .o .or (.u .not (.o .lt (.o .emod (.v 0) (.i 8192)) (.i 6144))) (.o .lt (.o .emod (.o .ediv (.v 0) (.i 1024)) (.i 8)) (.i 6))
theorem unitX_ok (e : En) : unitX.B e = true := by
  show (!decide ((e.ρ 0).toI % 8192 < 6144) || decide ((e.ρ 0).toI / 1024 % 8 < 6)) = true
  rw [Bool.or_eq_true, Bool.not_eq_true', decide_eq_false_iff_not, decide_eq_true_eq]
  omega
theorem wh2 : (lcWh wh2X).Ok Tryz.prog 111 := LC.Ok.drop (ax := [unitX]) (lc_ok rfl rfl (by kernel_rfl)) fun x hx e => by obtain rfl := List.mem_singleton.1 hx; exact unitX_ok e
def lcW : LC := lcWh (.ap 3 (.v 0))
theorem lcW_of {x : X} {f : FuncId} (h : (lcWh x).Ok Tryz.prog f) (hx : ∀ a : D, 0 ≤ a.toI → a.toI ≤ 2097151 → x.I (envOf [a]) = whI a.toI) : lcW.Ok Tryz.prog f := by
  refine h.conv rfl rfl rfl fun ds hl hf ha => ⟨hf, ha, ?_, rfl⟩
  obtain ⟨a, rfl⟩ : ∃ a, ds = [a] := by
    match ds, hl with
    | [a], _ => exact ⟨a, rfl⟩
  obtain ⟨h1, h2⟩ := hf ⟨.v 0, ⟨some 0, some 2097151⟩⟩ (by show _ ∈ fsA; simp [fsA])
  have h1 : 0 ≤ a.toI := h1 _ rfl
  have h2 : a.toI ≤ 2097151 := h2 _ rfl
  show Value.int .u8 _ = Value.int .u8 (Fam.Φ 3 a).toI
  rw [HOk1.h3, hx a h1 h2]; rfl
theorem whA : lcW.Ok Tryz.prog 95 := lcW_of wh1 fun a h1 h2 => by
  show (bif decide (127 < a.toI / 8192) then (bif (!decide (a.toI / 8192 < 248)) && (!decide (251 < a.toI / 8192)) then 1 else (bif decide (a.toI / 8192 = 255) then (bif decide (a.toI % 8192 < 6144) then (bif decide (a.toI % 8192 < 5120) then (bif decide (a.toI % 8192 < 4096) then (bif decide (a.toI % 8192 < 3072) then (bif decide (a.toI % 8192 < 2048) then (bif decide (a.toI % 8192 < 1024) then 3 else 4) else 5) else 6) else 7) else 8) else 2) else 2)) else (0 : Int)) = whI a.toI
  unfold whI
  simp only [cond_eq_ite, decide_eq_true_eq, Bool.and_eq_true, Bool.not_eq_true', decide_eq_false_iff_not]
  repeat' split
  all_goals omega
theorem whB : lcW.Ok Tryz.prog 111 := lcW_of wh2 fun a h1 h2 => by
  show (bif decide (a.toI / 8192 < 128) then 0 else (bif (!decide (a.toI / 8192 < 248)) && (!decide (251 < a.toI / 8192)) then 1 else (bif (!decide (a.toI / 8192 = 255)) || (!decide (a.toI % 8192 < 6144)) then 2 else (bif decide (a.toI / 1024 % 8 = 0) then 3 else (bif decide (a.toI / 1024 % 8 = 1) then 4 else (bif decide (a.toI / 1024 % 8 = 2) then 5 else (bif decide (a.toI / 1024 % 8 = 3) then 6 else (bif decide (a.toI / 1024 % 8 = 4) then 7 else 8)))))) : Int)) = whI a.toI
  unfold whI
  simp only [cond_eq_ite, decide_eq_true_eq, Bool.and_eq_true, Bool.or_eq_true, Bool.not_eq_true', decide_eq_false_iff_not]
  repeat' split
  all_goals omega
noncomputable def CW : FuncId → Option CallF := conTab [(95, conCall (conG 8 TI lcW)), (111, conCall (conG 8 TI lcW))]
theorem CW_ok : ∀ n c, CW n = some c → ConOk TI n c := conTab_ok fun p hp => by
  rcases List.mem_cons.1 hp with rfl | hp
  · exact (conG_ok rfl whA).ok
  · obtain rfl := List.mem_singleton.1 hp
    exact (conG_ok rfl whB).ok
def whV : X := .ap 3 (.v 0)
def rgX : X := .t .i (.o .eq whV (.i 5)) (.o .emod (.v 0) (.i 16)) (.t .i (.o .eq whV (.i 4)) (.o .emod (.v 0) (.i 8)) (.t .i (.o .or (.o .eq whV (.i 3)) (.o .eq whV (.i 8))) (.o .emod (.v 0) (.i 4)) (.t .i (.o .eq whV (.i 6)) (.o .emod (.v 0) (.i 2)) (.t .i (.o .eq whV (.i 7)) (.i 0) (.i (-1))))))
def lcRg : LC := ⟨1, [.z (.i .u32 (.v 0))], [], fsA, [], .z (.i .i64 rgX), []⟩
theorem rgA : lcRg.Ok Tryz.prog 168 := LC.Ok.of_treeF (L := noJ) (lem := noX) (W := W0) (n := 12) (cf := 300) (d := 20) (opn := []) (cls := []) (fun _ _ _ h => by cases h) (fun _ _ h => by cases h) CW_ok noT_ok rfl rfl (by kernel_rfl)
theorem rgB : lcRg.Ok Tryz.prog 179 := LC.Ok.of_treeF (L := noJ) (lem := noX) (W := W0) (n := 12) (cf := 300) (d := 20) (opn := []) (cls := []) (fun _ _ _ h => by cases h) (fun _ _ h => by cases h) CW_ok noT_ok rfl rfl (by kernel_rfl)
end Go.Proofs.YtafkhelomlmlpaaGreat
