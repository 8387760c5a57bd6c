/-
  Hexadecimal digits, addresses and words, by contracts. Conditions: none.
-/
import Derived.Test.YtciemdpcllpdkaaDoorTlD
set_option linter.unusedSectionVars false
set_option linter.unusedVariables false
set_option linter.unusedSimpArgs false
namespace Go.Proofs.YtciemdpcllpdkaaDoor
open Go Go.AE Go.SX Go.RowKit
set_option maxRecDepth 1000000
def chX (x : X) : List (Int × Int) → X
  | [] => .i 70
  | (k, v) :: l => .t .i (.o .eq x (.i k)) (.i v) (chX x l)
def chL : List (Int × Int) := [(0, 48), (1, 49), (2, 50), (3, 51), (4, 52), (5, 53), (6, 54), (7, 55), (8, 56), (9, 57), (10, 65), (11, 66), (12, 67), (13, 68), (14, 69)]
def hcP (x : X) : X := .u .unit (chX x chL)
def hexS : List UInt8 := [48, 49, 50, 51, 52, 53, 54, 55, 56, 57, 65, 66, 67, 68, 69, 70]
def hcD (x : X) : X := .o .take (.o .drop (.s hexS) x) (.i 1)
theorem chX_I (e : En) (x : X) : ∀ l : List (Int × Int), (chX x l).I e = l.foldr (fun p r => if x.I e = p.1 then p.2 else r) 70
  | [] => rfl
  | (k, v) :: l => by
    show (bif decide (x.I e = k) then v else (chX x l).I e) = if x.I e = k then v else l.foldr (fun p r => if x.I e = p.1 then p.2 else r) 70
    rw [chX_I e x l, Bool.cond_decide]
theorem hcP_S (e : En) (x : X) (n : Nat) (hx' : x.I e = (n : Nat)) (hn : n < 16) : (hcP x).S e = [hx n] := by
  show [UInt8.ofNat ((chX x chL).I e).toNat] = _
  rw [chX_I, hx']
  exact (show ∀ m : Fin 16, [UInt8.ofNat (List.foldr (fun (p : Int × Int) (r : Int) => if ((m.val : Nat) : Int) = p.1 then p.2 else r) 70 chL).toNat] = [hx m.val] by decide) ⟨n, hn⟩
theorem hcD_S (e : En) (x : X) (n : Nat) (hx' : x.I e = (n : Nat)) (hn : n < 16) : (hcD x).S e = [hx n] := by
  show (hexS.drop (x.I e).toNat).take 1 = _
  rw [hx', Int.toNat_natCast]
  exact (show ∀ m : Fin 16, (hexS.drop m.val).take 1 = [hx m.val] by decide) ⟨n, hn⟩
def d16 (k : Int) : X := .o .emod (.o .ediv (.v 0) (.i k)) (.i 16)
def m16 : X := .o .emod (.v 0) (.i 16)
def t16 (k : Int) : X := .o .ediv (.v 0) (.i k)
def ahx (k : Int) : List SV := [.z (.i .u32 (.v 0)), .z (.i .i64 (.i k))]
def lcH (k hi : Int) (v : X) : LC := ⟨1, ahx k, [], [⟨.v 0, ⟨some 0, some hi⟩⟩], [], .z (.s v), []⟩
def x2 (h : X → X) : X := .o .cat (h (t16 16)) (h m16)
def x4 (h : X → X) : X := .o .cat (h (t16 4096)) (.o .cat (h (d16 256)) (.o .cat (h (d16 16)) (h m16)))
def hex2X (x : X) : X := .ap 120 x
def hex4X (x : X) : X := .ap 121 x
theorem x2_S {h : X → X} (hh : ∀ (e : En) (x : X) (n : Nat), x.I e = (n : Nat) → n < 16 → (h x).S e = [hx n]) (e : En) (h0 : 0 ≤ (e.ρ 0).toI) (h1 : (e.ρ 0).toI ≤ 255) : (x2 h).S e = hex2 (e.ρ 0).toI := by
  show (h (t16 16)).S e ++ (h m16).S e = _
  have a1 : (t16 16).I e = (e.ρ 0).toI / 16 := rfl
  have a2 : m16.I e = (e.ρ 0).toI % 16 := rfl
  rw [hh e (t16 16) ((e.ρ 0).toI / 16 % 16).toNat (by rw [a1]; omega) (by omega), hh e m16 ((e.ρ 0).toI % 16).toNat (by rw [a2]; omega) (by omega)]
  rfl
theorem x4_S {h : X → X} (hh : ∀ (e : En) (x : X) (n : Nat), x.I e = (n : Nat) → n < 16 → (h x).S e = [hx n]) (e : En) (h0 : 0 ≤ (e.ρ 0).toI) (h1 : (e.ρ 0).toI ≤ 65535) : (x4 h).S e = hex4 (e.ρ 0).toI := by
  show (h (t16 4096)).S e ++ ((h (d16 256)).S e ++ ((h (d16 16)).S e ++ (h m16).S e)) = _
  have a1 : (t16 4096).I e = (e.ρ 0).toI / 4096 := rfl
  have a2 : m16.I e = (e.ρ 0).toI % 16 := rfl
  have a3 : (d16 256).I e = (e.ρ 0).toI / 256 % 16 := rfl
  have a4 : (d16 16).I e = (e.ρ 0).toI / 16 % 16 := rfl
  rw [hh e (t16 4096) ((e.ρ 0).toI / 4096 % 16).toNat (by rw [a1]; omega) (by omega), hh e (d16 256) ((e.ρ 0).toI / 256 % 16).toNat (by rw [a3]; omega) (by omega), hh e (d16 16) ((e.ρ 0).toI / 16 % 16).toNat (by rw [a4]; omega) (by omega), hh e m16 ((e.ρ 0).toI % 16).toNat (by rw [a2]; omega) (by omega)]
  rfl
def nb (x : X) : X := .u .not (.o .lt (.i 9223372036854775807) x)
theorem hcD_len (e : En) (x : X) : ((hcD x).S e).length ≤ 1 := by
  show ((hexS.drop (x.I e).toNat).take 1).length ≤ 1
  rw [List.length_take]; omega
def sm2 (a b : X) : X := .o .add (lenX' a) (lenX' b)
def axH2 : List X := [nb (lenX' (hcD m16)), nb (sm2 (hcD m16) (hcD (t16 16)))]
def axH4 : List X := [nb (lenX' (hcD m16)), nb (sm2 (hcD m16) (hcD (d16 16))), nb (sm2 (hcD (d16 256)) (.o .cat (hcD (d16 16)) (hcD m16))), nb (sm2 (hcD (t16 4096)) (.o .cat (hcD (d16 256)) (.o .cat (hcD (d16 16)) (hcD m16))))]
theorem nb_ok {e : En} {x : X} (h : x.I e ≤ 100) : (nb x).B e = true := nlt_in (by show ¬ (9223372036854775807 : Int) < x.I e; omega)
theorem len_I (e : En) (x : X) : (lenX' x).I e = (((x.S e).length : Nat) : Int) := rfl
theorem cat_len (e : En) (a b : X) : ((X.o .cat a b).S e).length = (a.S e).length + (b.S e).length := List.length_append
theorem sm2_I (e : En) (a b : X) : (sm2 a b).I e = (((a.S e).length : Nat) : Int) + (((b.S e).length : Nat) : Int) := rfl
theorem axH2_ok : AllB axH2 := by
  refine allB1 (fun e => nb_ok ?_) (allB1 (fun e => nb_ok ?_) allB0)
  · rw [len_I]; have := hcD_len e m16; omega
  · rw [sm2_I]; have := hcD_len e m16; have := hcD_len e (t16 16); omega
theorem axH4_ok : AllB axH4 := by
  refine allB1 (fun e => nb_ok ?_) (allB1 (fun e => nb_ok ?_) (allB1 (fun e => nb_ok ?_) (allB1 (fun e => nb_ok ?_) allB0)))
  all_goals
    have q1 := hcD_len e m16
    have q2 := hcD_len e (d16 16)
    have q3 := hcD_len e (d16 256)
    have q4 := hcD_len e (t16 4096)
  · rw [len_I]; omega
  · rw [sm2_I]; omega
  · rw [sm2_I, cat_len]; omega
  · rw [sm2_I, cat_len, cat_len]; omega
theorem hP2 : (lcH 2 255 (x2 hcP)).Ok Tryd.prog 28 := LC.Ok.of_treeF (L := noJ) (lem := noX) (T := T) (W := Wl) (n := 12) (cf := 300) (d := 20) (opn := []) (cls := []) (fun _ _ _ h => by cases h) (fun _ _ h => by cases h) C0l_ok noT_ok rfl rfl (by kernel_rfl)
theorem hP4 : (lcH 4 65535 (x4 hcP)).Ok Tryd.prog 28 := LC.Ok.of_treeF (L := noJ) (lem := noX) (T := T) (W := Wl) (n := 12) (cf := 300) (d := 20) (opn := []) (cls := []) (fun _ _ _ h => by cases h) (fun _ _ h => by cases h) C0l_ok noT_ok rfl rfl (by kernel_rfl)
theorem hD2 : (LC.mk 1 (ahx 2) [] [⟨.v 0, ⟨some 0, some 255⟩⟩] (axH2 ++ []) (.z (.s (x2 hcD))) []).Ok Tryd.prog 40 := LC.Ok.of_treeF (L := noJ) (lem := noX) (T := T) (W := Wl) (n := 12) (cf := 300) (d := 20) (opn := []) (cls := []) (fun _ _ _ h => by cases h) (fun _ _ h => by cases h) C0l_ok noT_ok rfl rfl (by kernel_rfl)
theorem hD4 : (LC.mk 1 (ahx 4) [] [⟨.v 0, ⟨some 0, some 65535⟩⟩] (axH4 ++ []) (.z (.s (x4 hcD))) []).Ok Tryd.prog 40 := LC.Ok.of_treeF (L := noJ) (lem := noX) (T := T) (W := Wl) (n := 12) (cf := 300) (d := 20) (opn := []) (cls := []) (fun _ _ _ h => by cases h) (fun _ _ h => by cases h) C0l_ok noT_ok rfl rfl (by kernel_rfl)
theorem conv2 {f : FuncId} {h : X → X} {k hi : Int} {v w : X} (hl : (lcH k hi v).Ok Tryd.prog f) (hs : ∀ e : En, 0 ≤ (e.ρ 0).toI → (e.ρ 0).toI ≤ hi → v.S e = w.S e) : (lcH k hi w).Ok Tryd.prog f := hl.conv rfl rfl rfl fun ds _ hf ha => ⟨hf, ha, by
  have h := hf _ (.head _)
  show Value.string ⟨⟨v.S (envOf ds)⟩⟩ = Value.string ⟨⟨w.S (envOf ds)⟩⟩
  rw [hs _ (h.1 _ rfl) (h.2 _ rfl)], rfl⟩
def lcH2 : LC := lcH 2 255 (hex2X (.v 0))
def lcH4 : LC := lcH 4 65535 (hex4X (.v 0))
theorem h2P : lcH2.Ok Tryd.prog 28 := conv2 (h := hcP) hP2 fun e h0 h1 => x2_S hcP_S e h0 h1
theorem h4P : lcH4.Ok Tryd.prog 28 := conv2 (h := hcP) hP4 fun e h0 h1 => x4_S hcP_S e h0 h1
theorem h2D : lcH2.Ok Tryd.prog 40 := conv2 (h := hcD) (LC.Ok.drop (c := lcH 2 255 (x2 hcD)) hD2 axH2_ok) fun e h0 h1 => x2_S hcD_S e h0 h1
theorem h4D : lcH4.Ok Tryd.prog 40 := conv2 (h := hcD) (LC.Ok.drop (c := lcH 4 65535 (x4 hcD)) hD4 axH4_ok) fun e h0 h1 => x4_S hcD_S e h0 h1
noncomputable def COf := conTab (lcTabT [(32, [lcHx]), (37, [lcHx])])
theorem COf_ok : ∀ n c, COf n = some c → ConOk T n c := conTab_ok (lcTabT_all (all_cons' (one_lcT rfl hx_lcP) (all_cons' (one_lcT rfl hx_lcD) all_nil')))
def ta2 : X := .o .take (.v 0) (.i 2)
def dr3 : X := .o .drop (.v 0) (.i 3)
def hF (x : X) : X := .u .fst (.ap 101 x)
def hS (x : X) : X := .u .snd (.ap 101 x)
def bad7 : X := .o .or (.u .not (.o .eq len0 (.i 7))) (.u .not (.o .eq (.o .nth (.v 0) (.i 2)) (.i 58)))
def badA : X := .o .or (.o .or (.u .not (.o .eq (hS ta2) (.i 0))) (.u .not (.o .eq (hS dr3) (.i 0)))) (.u .not (.o .lt (hF dr3) (.i 8192)))
def ofT (a b : X) : X := .t .i bad7 a (.t .i badA a b)
def vaP : X := .o .add (hF dr3) (.o .mul (.o .emod (hF ta2) (.i 256)) (.i 8192))
def vaD : X := .o .emod (.o .add (hF dr3) (.o .mul (hF ta2) (.i 8192))) (.i 4294967296)
def lcO (a b : X) : LC := ⟨1, [.z (.s (.v 0))], [], [], [], .tu [.s (.z (.i .u32 a)), .s (.z (.i .i64 b))], []⟩
theorem ofP0 : (lcO (ofT (.i 0) vaP) (ofT (.i 3) (.i 0))).Ok Tryd.prog 31 := LC.Ok.of_treeF (L := noJ) (lem := noX) (T := T) (W := Wl) (n := 12) (cf := 300) (d := 20) (opn := []) (cls := []) (fun _ _ _ h => by cases h) (fun _ _ h => by cases h) COf_ok noT_ok rfl rfl (by kernel_rfl)
theorem ofD0 : (lcO (ofT (.i 0) vaD) (ofT (.i 3) (.i 0))).Ok Tryd.prog 36 := LC.Ok.of_treeF (L := noJ) (lem := noX) (T := T) (W := Wl) (n := 12) (cf := 300) (d := 20) (opn := []) (cls := []) (fun _ _ _ h => by cases h) (fun _ _ h => by cases h) COf_ok noT_ok rfl rfl (by kernel_rfl)
theorem hexE_0 {s : List UInt8} : hexE s = 0 ↔ hexOk s = true := by
  unfold hexE
  constructor
  · intro h
    cases hq : hexOk s with
    | true => rfl
    | false =>
      rw [hq] at h
      split at h
      · omega
      · split at h
        · omega
        · rw [if_neg (by decide)] at h; omega
  · intro h
    have hk := h
    unfold hexOk at hk
    simp only [Bool.and_eq_true] at hk
    have := Nat.le_of_ble_eq_true hk.1.2
    rw [if_neg (by rintro rfl; simp at hk), if_neg (by omega), if_pos h]
theorem ph_eq (s : List UInt8) : phOk s = true ↔ (s.length = 7 ∧ s.getD 2 0 = 58) ∧ (hexE (s.take 2) = 0 ∧ hexE (s.drop 3) = 0 ∧ hexI (s.drop 3) < 8192) := by
  unfold phOk
  rw [hexE_0, hexE_0, Bool.and_eq_true, Bool.and_eq_true, Bool.and_eq_true, Bool.and_eq_true, Nat.beq_eq, beq_iff_eq, decide_eq_true_iff]
  constructor
  · rintro ⟨⟨a, b⟩, ⟨c, d⟩, f⟩; exact ⟨⟨a, b⟩, c, d, f⟩
  · rintro ⟨⟨a, b⟩, c, d, f⟩; exact ⟨⟨a, b⟩, ⟨c, d⟩, f⟩
theorem b7 (e : En) : bad7.B e = !decide ((e.ρ 0).toS.length = 7 ∧ (e.ρ 0).toS.getD 2 0 = 58) := by
  show (!decide ((((e.ρ 0).toS.length : Nat) : Int) = 7) || !decide (((((e.ρ 0).toS.getD 2 0).toNat : Nat) : Int) = 58)) = _
  rw [← Bool.not_and, ← Bool.decide_and]
  congr 1
  apply decide_eq_decide.2
  constructor
  · rintro ⟨h1, h2⟩
    refine ⟨by omega, ?_⟩
    apply UInt8.toNat_inj.1
    show ((e.ρ 0).toS.getD 2 0).toNat = 58
    omega
  · rintro ⟨h1, h2⟩
    rw [h1, h2]
    exact ⟨rfl, rfl⟩
theorem bA (e : En) : badA.B e = !decide (hexE ((e.ρ 0).toS.take 2) = 0 ∧ hexE ((e.ρ 0).toS.drop 3) = 0 ∧ hexI ((e.ρ 0).toS.drop 3) < 8192) := by
  show ((!decide (hexE ((e.ρ 0).toS.take 2) = 0) || !decide (hexE ((e.ρ 0).toS.drop 3) = 0)) || !decide (hexI ((e.ρ 0).toS.drop 3) < 8192)) = _
  rw [← Bool.not_and, ← Bool.not_and, Bool.decide_and, Bool.decide_and, Bool.and_assoc]
theorem ofT_I (e : En) (a b : X) : (ofT a b).I e = if phOk (e.ρ 0).toS = true then b.I e else a.I e := by
  show (bif bad7.B e then a.I e else bif badA.B e then a.I e else b.I e) = _
  rw [b7, bA]
  by_cases h1 : (e.ρ 0).toS.length = 7 ∧ (e.ρ 0).toS.getD 2 0 = 58
  · rw [decide_eq_true h1]
    by_cases h2 : hexE ((e.ρ 0).toS.take 2) = 0 ∧ hexE ((e.ρ 0).toS.drop 3) = 0 ∧ hexI ((e.ρ 0).toS.drop 3) < 8192
    · rw [decide_eq_true h2, if_pos ((ph_eq _).2 ⟨h1, h2⟩)]; rfl
    · rw [decide_eq_false h2, if_neg (fun q => h2 ((ph_eq _).1 q).2)]; rfl
  · rw [decide_eq_false h1, if_neg (fun q => h1 ((ph_eq _).1 q).1)]; rfl
theorem hx2_lt (s : List UInt8) : 0 ≤ hexI (s.take 2) ∧ hexI (s.take 2) < 256 := by
  have := hexI_lt (s.take 2) 2 (by rw [List.length_take]; omega)
  have e : (16 : Int) ^ 2 = 256 := by decide
  exact ⟨hexI_rg _, by omega⟩
theorem of_fst (e : En) (v : X) (hv : phOk (e.ρ 0).toS = true → v.I e = hexI ((e.ρ 0).toS.take 2) * 8192 + hexI ((e.ρ 0).toS.drop 3)) : (ofT (.i 0) v).I e = phI (e.ρ 0).toS := by
  rw [ofT_I]
  unfold phI
  by_cases h : phOk (e.ρ 0).toS = true
  · rw [if_pos h, if_pos h, hv h]
  · rw [if_neg h, if_neg h]; rfl
theorem of_snd (e : En) : (ofT (.i 3) (.i 0)).I e = phE (e.ρ 0).toS := ofT_I e _ _
def phFX : X := .u .fst (.ap 102 (.v 0))
def phSX : X := .u .snd (.ap 102 (.v 0))
theorem ofPD {v : X} {f : FuncId} (hl : (lcO (ofT (.i 0) v) (ofT (.i 3) (.i 0))).Ok Tryd.prog f) (hv : ∀ e : En, phOk (e.ρ 0).toS = true → v.I e = hexI ((e.ρ 0).toS.take 2) * 8192 + hexI ((e.ρ 0).toS.drop 3)) : (lcO phFX phSX).Ok Tryd.prog f := hl.conv rfl rfl rfl fun ds _ hf ha => ⟨hf, ha, by
  show Value.tuple #[Value.int .u32 ((ofT (.i 0) v).I (envOf ds)), Value.int .i64 ((ofT (.i 3) (.i 0)).I (envOf ds))] = Value.tuple #[Value.int .u32 (phI ((envOf ds).ρ 0).toS), Value.int .i64 (phE ((envOf ds).ρ 0).toS)]
  rw [of_fst _ v (hv _), of_snd], rfl⟩
theorem ofP : (lcO phFX phSX).Ok Tryd.prog 31 := ofPD ofP0 fun e h => by
  have := hx2_lt (e.ρ 0).toS
  show hexI ((e.ρ 0).toS.drop 3) + hexI ((e.ρ 0).toS.take 2) % 256 * 8192 = _
  omega
theorem ofD : (lcO phFX phSX).Ok Tryd.prog 36 := ofPD ofD0 fun e h => by
  have := hx2_lt (e.ρ 0).toS
  have h2 := ((ph_eq _).1 h).2.2.2
  have := hexI_rg ((e.ρ 0).toS.drop 3)
  show (hexI ((e.ρ 0).toS.drop 3) + hexI ((e.ρ 0).toS.take 2) * 8192) % 4294967296 = _
  omega
end Go.Proofs.YtciemdpcllpdkaaDoor
