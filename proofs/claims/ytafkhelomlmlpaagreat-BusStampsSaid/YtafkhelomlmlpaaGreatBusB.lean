/-
  Contracts of the bus's accesses, of the program and of the document, case by case with the same answers. Conditions: none.
-/
import Derived.Test.YtafkhelomlmlpaaGreatBusA
set_option linter.unusedSectionVars false
set_option linter.unusedVariables false
set_option linter.unusedSimpArgs false
namespace Go.Proofs.YtafkhelomlmlpaaGreat
open Go Go.AE Go.SX Go.RowKit
set_option maxRecDepth 1000000
variable [HF]
/-! Where any address is. -/
def fsR : List Fact := [⟨.v 0, ⟨some 0, some 4294967295⟩⟩]
def lcWr (x : X) : LC := ⟨1, [.z (.i .u32 (.v 0))], [], fsR, [], .z (.i .u8 x), []⟩
def wr1X : X := (.t .i (.o .lt (.i 127) (.o .emod (.o .ediv (.v 0) (.i 8192)) (.i 256))) (.t .i (.o .and (.u .not (.o .lt (.o .emod (.o .ediv (.v 0) (.i 8192)) (.i 256)) (.i 248))) (.u .not (.o .lt (.i 251) (.o .emod (.o .ediv (.v 0) (.i 8192)) (.i 256))))) (.i 1) (.t .i (.o .eq (.o .emod (.o .ediv (.v 0) (.i 8192)) (.i 256)) (.i 255)) (.t .i (.o .lt (.o .emod (.v 0) (.i 8192)) (.i 6144)) (.t .i (.o .lt (.o .emod (.v 0) (.i 8192)) (.i 5120)) (.t .i (.o .lt (.o .emod (.v 0) (.i 8192)) (.i 4096)) (.t .i (.o .lt (.o .emod (.v 0) (.i 8192)) (.i 3072)) (.t .i (.o .lt (.o .emod (.v 0) (.i 8192)) (.i 2048)) (.t .i (.o .lt (.o .emod (.v 0) (.i 8192)) (.i 1024)) (.i 3) (.i 4)) (.i 5)) (.i 6)) (.i 7)) (.i 8)) (.i 2)) (.i 2))) (.i 0))
def wr2X : X := (.t .i (.o .lt (.o .emod (.o .ediv (.v 0) (.i 8192)) (.i 256)) (.i 128)) (.i 0) (.t .i (.o .and (.u .not (.o .lt (.o .emod (.o .ediv (.v 0) (.i 8192)) (.i 256)) (.i 248))) (.u .not (.o .lt (.i 251) (.o .emod (.o .ediv (.v 0) (.i 8192)) (.i 256))))) (.i 1) (.t .i (.o .or (.u .not (.o .eq (.o .emod (.o .ediv (.v 0) (.i 8192)) (.i 256)) (.i 255))) (.u .not (.o .lt (.o .emod (.v 0) (.i 8192)) (.i 6144)))) (.i 2) (.t .i (.o .eq (.o .emod (.o .ediv (.v 0) (.i 1024)) (.i 8)) (.i 0)) (.i 3) (.t .i (.o .eq (.o .emod (.o .ediv (.v 0) (.i 1024)) (.i 8)) (.i 1)) (.i 4) (.t .i (.o .eq (.o .emod (.o .ediv (.v 0) (.i 1024)) (.i 8)) (.i 2)) (.i 5) (.t .i (.o .eq (.o .emod (.o .ediv (.v 0) (.i 1024)) (.i 8)) (.i 3)) (.i 6) (.t .i (.o .eq (.o .emod (.o .ediv (.v 0) (.i 1024)) (.i 8)) (.i 4)) (.i 7) (.i 8)))))))))
variable [HOk1] [HOk2] [HOk3] [ROk] [BOk]
theorem wr1 : (lcWr wr1X).Ok Tryz.prog 95 := lc_ok rfl rfl (by kernel_rfl)
theorem wr2 : (lcWr wr2X).Ok Tryz.prog 111 := LC.Ok.drop (ax := [unitX]) (lc_ok rfl rfl (by kernel_rfl)) fun x hx e => by obtain rfl := List.mem_singleton.1 hx; exact unitX_ok e
def lcWR : LC := lcWr (.ap 3 (.o .emod (.v 0) (.i 2097152)))
theorem lcWR_of {x : X} {f : FuncId} (h : (lcWr x).Ok Tryz.prog f) (hx : ∀ a : D, 0 ≤ a.toI → a.toI ≤ 4294967295 → x.I (envOf [a]) = whI (a.toI % 2097152)) : lcWR.Ok Tryz.prog f := by
  refine h.conv rfl rfl rfl fun ds hl hf ha => ⟨hf, ha, ?_, rfl⟩
  obtain ⟨a, rfl⟩ := len1 hl
  obtain ⟨h1, h2⟩ := hf ⟨.v 0, ⟨some 0, some 4294967295⟩⟩ (by show _ ∈ fsR; simp [fsR])
  have h1 : 0 ≤ a.toI := h1 _ rfl
  have h2 : a.toI ≤ 4294967295 := h2 _ rfl
  show Value.int .u8 _ = Value.int .u8 (Fam.Φ 3 (.i (a.toI % 2097152))).toI
  rw [HOk1.h3, hx a h1 h2]; rfl
theorem whRA : lcWR.Ok Tryz.prog 95 := lcWR_of wr1 fun a h1 h2 => by
  show (bif decide (127 < a.toI / 8192 % 256) then (bif (!decide (a.toI / 8192 % 256 < 248)) && (!decide (251 < a.toI / 8192 % 256)) then 1 else (bif decide (a.toI / 8192 % 256 = 255) then (bif decide (a.toI % 8192 < 6144) then (bif decide (a.toI % 8192 < 5120) then (bif decide (a.toI % 8192 < 4096) then (bif decide (a.toI % 8192 < 3072) then (bif decide (a.toI % 8192 < 2048) then (bif decide (a.toI % 8192 < 1024) then 3 else 4) else 5) else 6) else 7) else 8) else 2) else 2)) else (0 : Int)) = whI (a.toI % 2097152)
  unfold whI
  simp only [cond_eq_ite, decide_eq_true_eq, Bool.and_eq_true, Bool.not_eq_true', decide_eq_false_iff_not]
  repeat' split
  all_goals omega
theorem whRB : lcWR.Ok Tryz.prog 111 := lcWR_of wr2 fun a h1 h2 => by
  show (bif decide (a.toI / 8192 % 256 < 128) then 0 else (bif (!decide (a.toI / 8192 % 256 < 248)) && (!decide (251 < a.toI / 8192 % 256)) then 1 else (bif (!decide (a.toI / 8192 % 256 = 255)) || (!decide (a.toI % 8192 < 6144)) then 2 else (bif decide (a.toI / 1024 % 8 = 0) then 3 else (bif decide (a.toI / 1024 % 8 = 1) then 4 else (bif decide (a.toI / 1024 % 8 = 2) then 5 else (bif decide (a.toI / 1024 % 8 = 3) then 6 else (bif decide (a.toI / 1024 % 8 = 4) then 7 else 8)))))) : Int)) = whI (a.toI % 2097152)
  unfold whI
  simp only [cond_eq_ite, decide_eq_true_eq, Bool.and_eq_true, Bool.or_eq_true, Bool.not_eq_true', decide_eq_false_iff_not]
  repeat' split
  all_goals omega
/-! What is used. -/
def whL : List LC := [lcW, lcWR]
def consB : List (FuncId × List LC) := [
  (104, [toW 1]), (174, [toW 2]), (105, [rdW 1]), (110, [rdW 2]), (106, [wrW 1]), (112, [wrW 2]),
  (94, [enW 1]), (113, [enW 2]), (88, [chW 1]), (30, [chW 2]), (93, [stW 1]), (35, [stW 2]),
  (96, [ramRd]), (65, [ramWr8, ramWr]), (48, [ramNw]), (95, whL), (111, whL)]
theorem consB_ok : ∀ p ∈ consB, ∀ c ∈ p.2, c.ok = true ∧ c.Ok Tryz.prog p.1 :=
  all_cons' (all_cons' ⟨rfl, toWA⟩ all_nil') (all_cons' (all_cons' ⟨rfl, toWB⟩ all_nil') (all_cons' (all_cons' ⟨rfl, readA⟩ all_nil') (all_cons' (all_cons' ⟨rfl, readB⟩ all_nil') (all_cons' (all_cons' ⟨rfl, writeA⟩ all_nil') (all_cons' (all_cons' ⟨rfl, writeB⟩ all_nil')
  (all_cons' (all_cons' ⟨rfl, enWA⟩ all_nil') (all_cons' (all_cons' ⟨rfl, enWB⟩ all_nil') (all_cons' (all_cons' ⟨rfl, chWA⟩ all_nil') (all_cons' (all_cons' ⟨rfl, chWB⟩ all_nil') (all_cons' (all_cons' ⟨rfl, stWA⟩ all_nil') (all_cons' (all_cons' ⟨rfl, stWB⟩ all_nil')
  (all_cons' (all_cons' ⟨rfl, ramRd_ok⟩ all_nil') (all_cons' (all_cons' ⟨rfl, ramWr8_ok⟩ (all_cons' ⟨rfl, ramWr_ok⟩ all_nil')) (all_cons' (all_cons' ⟨rfl, ramNw_ok⟩ all_nil') (all_cons' (all_cons' ⟨rfl, whA⟩ (all_cons' ⟨rfl, whRA⟩ all_nil')) (all_cons' (all_cons' ⟨rfl, whB⟩ (all_cons' ⟨rfl, whRB⟩ all_nil')) all_nil'))))))))))))))))
noncomputable def CB : FuncId → Option CallF := conLC 12 TI consB
theorem CB_ok : ∀ n c, CB n = some c → ConOk TI n c := conLC_ok consB_ok
/-! The page's time and its feeds. -/
def prX (x : X) (i : Nat) : X := (compX 19 x).getD i .nil
def TO6 : X := .ap 20 (.o .pair (.v 6) (.v 0))
def OFF : X := .o .emod (.v 11) (.i 8192)
def RD6 : X := .ap 22 (.o .pair TO6 OFF)
def WR6 : X := .ap 23 (.o .pair TO6 (.o .pair OFF (.v 12)))
def EN6 : X := .ap 24 (.o .pair (.v 6) (.v 11))
def same6 (x : X) (i : Nat) : X := .o .eq (prX x i) (pg6 i)
def more6 (x : X) (i : Nat) : X := .u .not (.o .lt (mkAdd (pg6 i) (.i 1)) (prX x i))
def at6 (x : X) : X := .o .or (.o .lt (.v 0) (pg6 18)) (.o .eq (prX x 18) (.v 0))
theorem prX_den (e : En) (x : X) (i : Nat) (hi : i < 19) : (prX x i).den e = prt (x.den e) i := by
  unfold prX prt
  rw [← compX_den e 19 x, List.getD_eq_getElem?_getD, List.getD_eq_getElem?_getD, List.getElem?_map, List.getElem?_eq_getElem (by rw [compX_len]; exact hi)]
  rfl
theorem same6_ok {e : En} {x : X} {i : Nat} (hi : i < 19) (h : prt (x.den e) i = prt (e.ρ 6) i) : (same6 x i).B e = true := by
  show decide (((prX x i).den e).toI = ((prX (.v 6) i).den e).toI) = true
  rw [prX_den e x i hi, prX_den e (.v 6) i hi, h]
  exact decide_eq_true rfl
theorem more6_ok {e : En} {x : X} {i : Nat} (hi : i < 19) (h : (prt (x.den e) i).toI ≤ (prt (e.ρ 6) i).toI + 1) : (more6 x i).B e = true := by
  show (!decide ((mkAdd (pg6 i) (.i 1)).I e < ((prX x i).den e).toI)) = true
  rw [mkAdd_I, prX_den e x i hi]
  show (!decide ((((prX (.v 6) i).den e).toI + 1 < _))) = true
  rw [prX_den e (.v 6) i hi, Bool.not_eq_true', decide_eq_false_iff_not]
  have h : (prt (x.den e) i).toI ≤ (prt ((X.v 6).den e) i).toI + 1 := h
  omega
theorem at6_ok {e : En} {x : X} (h : (prt (x.den e) 18).toI = if (prt (e.ρ 6) 18).toI < (e.ρ 0).toI then (e.ρ 0).toI else (prt (e.ρ 6) 18).toI) : (at6 x).B e = true := by
  show (decide ((e.ρ 0).toI < ((prX (.v 6) 18).den e).toI) || decide (((prX x 18).den e).toI = (e.ρ 0).toI)) = true
  rw [prX_den e x 18 (by omega), prX_den e (.v 6) 18 (by omega), Bool.or_eq_true, decide_eq_true_eq, decide_eq_true_eq, h]
  show (e.ρ 0).toI < (prt (e.ρ 6) 18).toI ∨ _
  split <;> omega
def lemTo : List X := [same6 TO6 10, same6 TO6 12, same6 TO6 14, at6 TO6]
def lemRd : List X := [more6 RD6 10, more6 RD6 12, more6 RD6 14, at6 RD6]
def lemWr : List X := [same6 WR6 10, same6 WR6 12, same6 WR6 14, at6 WR6]
theorem lemTo_ok (e : En) : ∀ x ∈ lemTo, x.B e = true := by
  have h : TO6.den e = toSD (.p (e.ρ 6) (e.ρ 0)) := HOk3.h20 _
  obtain ⟨h1, h2, h3, h4⟩ := to_parts (e.ρ 6) (e.ρ 0)
  exact all_cons' (same6_ok (by omega) (by rw [h, h1])) (all_cons' (same6_ok (by omega) (by rw [h, h2])) (all_cons' (same6_ok (by omega) (by rw [h, h3])) (all_cons' (at6_ok (by rw [h, h4])) all_nil')))
theorem lemRd_ok (e : En) : ∀ x ∈ lemRd, x.B e = true := by
  have h : RD6.den e = rdSD (.p (TO6.den e) (OFF.den e)) := HOk3.h22 _
  have h0 : TO6.den e = toSD (.p (e.ρ 6) (e.ρ 0)) := HOk3.h20 _
  obtain ⟨h1, h2, h3, h4⟩ := to_parts (e.ρ 6) (e.ρ 0)
  obtain ⟨q1, q2, q3, q4⟩ := rd_parts (TO6.den e) (OFF.den e)
  rw [← h] at q1 q2 q3 q4
  rw [h0] at q1 q2 q3 q4
  rw [h1] at q1
  rw [h2] at q2
  rw [h3] at q3
  exact all_cons' (more6_ok (by omega) q1) (all_cons' (more6_ok (by omega) q2) (all_cons' (more6_ok (by omega) q3) (all_cons' (at6_ok (by rw [q4, h4])) all_nil')))
theorem lemWr_ok (e : En) : ∀ x ∈ lemWr, x.B e = true := by
  have h : WR6.den e = wrSD (.p (TO6.den e) (.p (OFF.den e) (e.ρ 12))) := HOk3.h23 _
  have h0 : TO6.den e = toSD (.p (e.ρ 6) (e.ρ 0)) := HOk3.h20 _
  obtain ⟨h1, h2, h3, h4⟩ := to_parts (e.ρ 6) (e.ρ 0)
  obtain ⟨q1, q2, q3, q4⟩ := wr_parts (TO6.den e) (.p (OFF.den e) (e.ρ 12))
  rw [← h] at q1 q2 q3 q4
  rw [h0] at q1 q2 q3 q4
  exact all_cons' (same6_ok (by omega) (by rw [q1, h1])) (all_cons' (same6_ok (by omega) (by rw [q2, h2])) (all_cons' (same6_ok (by omega) (by rw [q3, h3])) (all_cons' (at6_ok (by rw [q4, h4])) all_nil')))
end Go.Proofs.YtafkhelomlmlpaaGreat
