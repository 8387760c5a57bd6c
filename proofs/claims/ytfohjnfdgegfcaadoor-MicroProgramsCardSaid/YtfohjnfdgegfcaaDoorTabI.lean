/-
  micro.Entry and gannetref30.Entry of every byte. Conditions: none.
-/
import Derived.Test.YtfohjnfdgegfcaaDoorTabF
import Derived.Test.YtfohjnfdgegfcaaDoorTabGBase
namespace Go.Proofs.YtfohjnfdgegfcaaDoor
open Go Go.AE
set_option maxRecDepth 100000
def tab18 : List Ent := [
  o18n 0,
  o18 1 [1140850688, 1140850688, 1148387328, 1148387328, 1148387328, 1449918464, 1449656320, 1140850689],
  o18 2 [1140850688, 1140850688, 1348993024, 1349255168, 1349582848, 1449918464, 1449656320, 1140850689],
  o18 3 [1140850688, 1140850688, 1348993024, 1349255168, 1349582848, 1449918464, 1449656320, 1140850689],
  o18 4 [1140850688, 1140850688, 1348993024, 1349255168, 1349582848, 1449918464, 1449656320, 1140850689],
  o18 5 [1140850688, 1140850688, 1348993024, 1349255168, 1349582848, 1449918464, 1449656320, 1140850689],
  o18n 6,
  o18n 7,
  o18n 8,
  o18n 9,
  o18n 10,
  o18n 11,
  o18n 12,
  o18n 13,
  o18n 14,
  o18n 15,
  o18n 16,
  o18n 17,
  o18n 18,
  o18n 19,
  o18n 20,
  o18n 21,
  o18n 22,
  o18n 23,
  o18n 24,
  o18n 25,
  o18n 26,
  o18n 27,
  o18n 28,
  o18n 29,
  o18n 30,
  o18n 31,
  o18n 32,
  o18n 33,
  o18n 34,
  o18n 35,
  o18n 36,
  o18n 37,
  o18n 38,
  o18n 39,
  o18n 40,
  o18n 41,
  o18n 42,
  o18n 43,
  o18n 44,
  o18n 45,
  o18n 46,
  o18n 47,
  o18n 48,
  o18n 49,
  o18n 50,
  o18n 51,
  o18n 52,
  o18n 53,
  o18n 54,
  o18n 55,
  o18n 56,
  o18n 57,
  o18n 58,
  o18n 59,
  o18n 60,
  o18n 61,
  o18n 62,
  o18n 63,
  o18n 64,
  o18n 65,
  o18n 66,
  o18n 67,
  o18n 68,
  o18n 69,
  o18n 70,
  o18n 71,
  o18n 72,
  o18n 73,
  o18n 74,
  o18n 75,
  o18n 76,
  o18n 77,
  o18n 78,
  o18n 79,
  o18n 80,
  o18n 81,
  o18n 82,
  o18n 83,
  o18n 84,
  o18n 85,
  o18n 86,
  o18n 87,
  o18n 88,
  o18n 89,
  o18n 90,
  o18n 91,
  o18n 92,
  o18n 93,
  o18n 94,
  o18n 95,
  o18n 96,
  o18n 97,
  o18n 98,
  o18n 99,
  o18n 100,
  o18n 101,
  o18n 102,
  o18n 103,
  o18n 104,
  o18n 105,
  o18n 106,
  o18n 107,
  o18n 108,
  o18n 109,
  o18n 110,
  o18n 111,
  o18n 112,
  o18n 113,
  o18n 114,
  o18n 115,
  o18n 116,
  o18n 117,
  o18n 118,
  o18n 119,
  o18n 120,
  o18n 121,
  o18n 122,
  o18n 123,
  o18n 124,
  o18n 125,
  o18n 126,
  o18n 127,
  o18n 128,
  o18n 129,
  o18n 130,
  o18n 131,
  o18n 132,
  o18n 133,
  o18n 134,
  o18n 135,
  o18n 136,
  o18n 137,
  o18n 138,
  o18n 139,
  o18n 140,
  o18n 141,
  o18n 142,
  o18n 143,
  o18n 144,
  o18n 145,
  o18n 146,
  o18n 147,
  o18n 148,
  o18n 149,
  o18n 150,
  o18n 151,
  o18n 152,
  o18n 153,
  o18n 154,
  o18n 155,
  o18n 156,
  o18n 157,
  o18n 158,
  o18n 159,
  o18n 160,
  o18n 161,
  o18n 162,
  o18n 163,
  o18n 164,
  o18n 165,
  o18n 166,
  o18n 167,
  o18n 168,
  o18n 169,
  o18n 170,
  o18n 171,
  o18n 172,
  o18n 173,
  o18n 174,
  o18n 175,
  o18n 176,
  o18n 177,
  o18n 178,
  o18n 179,
  o18n 180,
  o18n 181,
  o18n 182,
  o18n 183,
  o18n 184,
  o18n 185,
  o18n 186,
  o18n 187,
  o18n 188,
  o18n 189,
  o18n 190,
  o18n 191,
  o18n 192,
  o18n 193,
  o18n 194,
  o18n 195,
  o18n 196,
  o18n 197,
  o18n 198,
  o18n 199,
  o18n 200,
  o18n 201,
  o18n 202,
  o18n 203,
  o18n 204,
  o18n 205,
  o18n 206,
  o18n 207,
  o18n 208,
  o18n 209,
  o18n 210,
  o18n 211,
  o18n 212,
  o18n 213,
  o18n 214,
  o18n 215,
  o18n 216,
  o18n 217,
  o18n 218,
  o18n 219,
  o18n 220,
  o18n 221,
  o18n 222,
  o18n 223,
  o18n 224,
  o18n 225,
  o18n 226,
  o18n 227,
  o18n 228,
  o18n 229,
  o18n 230,
  o18n 231,
  o18n 232,
  o18n 233,
  o18n 234,
  o18n 235,
  o18n 236,
  o18n 237,
  o18n 238,
  o18n 239,
  o18n 240,
  o18n 241,
  o18n 242,
  o18n 243,
  o18n 244,
  o18n 245,
  o18n 246,
  o18n 247,
  o18n 248,
  o18n 249,
  o18n 250,
  o18n 251,
  o18n 252,
  o18n 253,
  o18n 254,
  o18n 255]
theorem ok18_0 : ((tab18.drop 0).take 8).all (entOk T orc3 1000 300 20 Tryd.f18 (codeOf Tryd.f18)) = true := by kernel_rfl
theorem ok18_1 : ((tab18.drop 8).take 8).all (entOk T orc3 1000 300 20 Tryd.f18 (codeOf Tryd.f18)) = true := by kernel_rfl
theorem ok18_2 : ((tab18.drop 16).take 8).all (entOk T orc3 1000 300 20 Tryd.f18 (codeOf Tryd.f18)) = true := by kernel_rfl
theorem ok18_3 : ((tab18.drop 24).take 8).all (entOk T orc3 1000 300 20 Tryd.f18 (codeOf Tryd.f18)) = true := by kernel_rfl
theorem ok18_4 : ((tab18.drop 32).take 8).all (entOk T orc3 1000 300 20 Tryd.f18 (codeOf Tryd.f18)) = true := by kernel_rfl
theorem ok18_5 : ((tab18.drop 40).take 8).all (entOk T orc3 1000 300 20 Tryd.f18 (codeOf Tryd.f18)) = true := by kernel_rfl
theorem ok18_6 : ((tab18.drop 48).take 8).all (entOk T orc3 1000 300 20 Tryd.f18 (codeOf Tryd.f18)) = true := by kernel_rfl
theorem ok18_7 : ((tab18.drop 56).take 8).all (entOk T orc3 1000 300 20 Tryd.f18 (codeOf Tryd.f18)) = true := by kernel_rfl
theorem ok18_8 : ((tab18.drop 64).take 8).all (entOk T orc3 1000 300 20 Tryd.f18 (codeOf Tryd.f18)) = true := by kernel_rfl
theorem ok18_9 : ((tab18.drop 72).take 8).all (entOk T orc3 1000 300 20 Tryd.f18 (codeOf Tryd.f18)) = true := by kernel_rfl
theorem ok18_10 : ((tab18.drop 80).take 8).all (entOk T orc3 1000 300 20 Tryd.f18 (codeOf Tryd.f18)) = true := by kernel_rfl
theorem ok18_11 : ((tab18.drop 88).take 8).all (entOk T orc3 1000 300 20 Tryd.f18 (codeOf Tryd.f18)) = true := by kernel_rfl
theorem ok18_12 : ((tab18.drop 96).take 8).all (entOk T orc3 1000 300 20 Tryd.f18 (codeOf Tryd.f18)) = true := by kernel_rfl
theorem ok18_13 : ((tab18.drop 104).take 8).all (entOk T orc3 1000 300 20 Tryd.f18 (codeOf Tryd.f18)) = true := by kernel_rfl
theorem ok18_14 : ((tab18.drop 112).take 8).all (entOk T orc3 1000 300 20 Tryd.f18 (codeOf Tryd.f18)) = true := by kernel_rfl
theorem ok18_15 : ((tab18.drop 120).take 8).all (entOk T orc3 1000 300 20 Tryd.f18 (codeOf Tryd.f18)) = true := by kernel_rfl
theorem ok18_16 : ((tab18.drop 128).take 8).all (entOk T orc3 1000 300 20 Tryd.f18 (codeOf Tryd.f18)) = true := by kernel_rfl
theorem ok18_17 : ((tab18.drop 136).take 8).all (entOk T orc3 1000 300 20 Tryd.f18 (codeOf Tryd.f18)) = true := by kernel_rfl
theorem ok18_18 : ((tab18.drop 144).take 8).all (entOk T orc3 1000 300 20 Tryd.f18 (codeOf Tryd.f18)) = true := by kernel_rfl
theorem ok18_19 : ((tab18.drop 152).take 8).all (entOk T orc3 1000 300 20 Tryd.f18 (codeOf Tryd.f18)) = true := by kernel_rfl
theorem ok18_20 : ((tab18.drop 160).take 8).all (entOk T orc3 1000 300 20 Tryd.f18 (codeOf Tryd.f18)) = true := by kernel_rfl
theorem ok18_21 : ((tab18.drop 168).take 8).all (entOk T orc3 1000 300 20 Tryd.f18 (codeOf Tryd.f18)) = true := by kernel_rfl
theorem ok18_22 : ((tab18.drop 176).take 8).all (entOk T orc3 1000 300 20 Tryd.f18 (codeOf Tryd.f18)) = true := by kernel_rfl
theorem ok18_23 : ((tab18.drop 184).take 8).all (entOk T orc3 1000 300 20 Tryd.f18 (codeOf Tryd.f18)) = true := by kernel_rfl
theorem ok18_24 : ((tab18.drop 192).take 8).all (entOk T orc3 1000 300 20 Tryd.f18 (codeOf Tryd.f18)) = true := by kernel_rfl
theorem ok18_25 : ((tab18.drop 200).take 8).all (entOk T orc3 1000 300 20 Tryd.f18 (codeOf Tryd.f18)) = true := by kernel_rfl
theorem ok18_26 : ((tab18.drop 208).take 8).all (entOk T orc3 1000 300 20 Tryd.f18 (codeOf Tryd.f18)) = true := by kernel_rfl
theorem ok18_27 : ((tab18.drop 216).take 8).all (entOk T orc3 1000 300 20 Tryd.f18 (codeOf Tryd.f18)) = true := by kernel_rfl
theorem ok18_28 : ((tab18.drop 224).take 8).all (entOk T orc3 1000 300 20 Tryd.f18 (codeOf Tryd.f18)) = true := by kernel_rfl
theorem ok18_29 : ((tab18.drop 232).take 8).all (entOk T orc3 1000 300 20 Tryd.f18 (codeOf Tryd.f18)) = true := by kernel_rfl
theorem ok18_30 : ((tab18.drop 240).take 8).all (entOk T orc3 1000 300 20 Tryd.f18 (codeOf Tryd.f18)) = true := by kernel_rfl
theorem ok18_31 : ((tab18.drop 248).take 8).all (entOk T orc3 1000 300 20 Tryd.f18 (codeOf Tryd.f18)) = true := by kernel_rfl
theorem ok18 : ∀ e ∈ tab18, EntIs Tryd.prog 18 e := by
  have h0 := ok18_0
  have h1 := ok18_1
  have h2 := ok18_2
  have h3 := ok18_3
  have h4 := ok18_4
  have h5 := ok18_5
  have h6 := ok18_6
  have h7 := ok18_7
  have h8 := ok18_8
  have h9 := ok18_9
  have h10 := ok18_10
  have h11 := ok18_11
  have h12 := ok18_12
  have h13 := ok18_13
  have h14 := ok18_14
  have h15 := ok18_15
  have h16 := ok18_16
  have h17 := ok18_17
  have h18 := ok18_18
  have h19 := ok18_19
  have h20 := ok18_20
  have h21 := ok18_21
  have h22 := ok18_22
  have h23 := ok18_23
  have h24 := ok18_24
  have h25 := ok18_25
  have h26 := ok18_26
  have h27 := ok18_27
  have h28 := ok18_28
  have h29 := ok18_29
  have h30 := ok18_30
  have h31 := ok18_31
  intro e he
  have hs : tab18 = (tab18.drop 0).take 8 ++ ((tab18.drop 8).take 8 ++ ((tab18.drop 16).take 8 ++ ((tab18.drop 24).take 8 ++ ((tab18.drop 32).take 8 ++ ((tab18.drop 40).take 8 ++ ((tab18.drop 48).take 8 ++ ((tab18.drop 56).take 8 ++ ((tab18.drop 64).take 8 ++ ((tab18.drop 72).take 8 ++ ((tab18.drop 80).take 8 ++ ((tab18.drop 88).take 8 ++ ((tab18.drop 96).take 8 ++ ((tab18.drop 104).take 8 ++ ((tab18.drop 112).take 8 ++ ((tab18.drop 120).take 8 ++ ((tab18.drop 128).take 8 ++ ((tab18.drop 136).take 8 ++ ((tab18.drop 144).take 8 ++ ((tab18.drop 152).take 8 ++ ((tab18.drop 160).take 8 ++ ((tab18.drop 168).take 8 ++ ((tab18.drop 176).take 8 ++ ((tab18.drop 184).take 8 ++ ((tab18.drop 192).take 8 ++ ((tab18.drop 200).take 8 ++ ((tab18.drop 208).take 8 ++ ((tab18.drop 216).take 8 ++ ((tab18.drop 224).take 8 ++ ((tab18.drop 232).take 8 ++ ((tab18.drop 240).take 8 ++ ((tab18.drop 248).take 8))))))))))))))))))))))))))))))) := rfl
  rw [hs] at he
  simp only [List.mem_append] at he
  rcases he with h | h | h | h | h | h | h | h | h | h | h | h | h | h | h | h | h | h | h | h | h | h | h | h | h | h | h | h | h | h | h | h
  · exact entOk_ok (f := 18) Tryd.func18 rfl (List.all_eq_true.1 h0 e h)
  · exact entOk_ok (f := 18) Tryd.func18 rfl (List.all_eq_true.1 h1 e h)
  · exact entOk_ok (f := 18) Tryd.func18 rfl (List.all_eq_true.1 h2 e h)
  · exact entOk_ok (f := 18) Tryd.func18 rfl (List.all_eq_true.1 h3 e h)
  · exact entOk_ok (f := 18) Tryd.func18 rfl (List.all_eq_true.1 h4 e h)
  · exact entOk_ok (f := 18) Tryd.func18 rfl (List.all_eq_true.1 h5 e h)
  · exact entOk_ok (f := 18) Tryd.func18 rfl (List.all_eq_true.1 h6 e h)
  · exact entOk_ok (f := 18) Tryd.func18 rfl (List.all_eq_true.1 h7 e h)
  · exact entOk_ok (f := 18) Tryd.func18 rfl (List.all_eq_true.1 h8 e h)
  · exact entOk_ok (f := 18) Tryd.func18 rfl (List.all_eq_true.1 h9 e h)
  · exact entOk_ok (f := 18) Tryd.func18 rfl (List.all_eq_true.1 h10 e h)
  · exact entOk_ok (f := 18) Tryd.func18 rfl (List.all_eq_true.1 h11 e h)
  · exact entOk_ok (f := 18) Tryd.func18 rfl (List.all_eq_true.1 h12 e h)
  · exact entOk_ok (f := 18) Tryd.func18 rfl (List.all_eq_true.1 h13 e h)
  · exact entOk_ok (f := 18) Tryd.func18 rfl (List.all_eq_true.1 h14 e h)
  · exact entOk_ok (f := 18) Tryd.func18 rfl (List.all_eq_true.1 h15 e h)
  · exact entOk_ok (f := 18) Tryd.func18 rfl (List.all_eq_true.1 h16 e h)
  · exact entOk_ok (f := 18) Tryd.func18 rfl (List.all_eq_true.1 h17 e h)
  · exact entOk_ok (f := 18) Tryd.func18 rfl (List.all_eq_true.1 h18 e h)
  · exact entOk_ok (f := 18) Tryd.func18 rfl (List.all_eq_true.1 h19 e h)
  · exact entOk_ok (f := 18) Tryd.func18 rfl (List.all_eq_true.1 h20 e h)
  · exact entOk_ok (f := 18) Tryd.func18 rfl (List.all_eq_true.1 h21 e h)
  · exact entOk_ok (f := 18) Tryd.func18 rfl (List.all_eq_true.1 h22 e h)
  · exact entOk_ok (f := 18) Tryd.func18 rfl (List.all_eq_true.1 h23 e h)
  · exact entOk_ok (f := 18) Tryd.func18 rfl (List.all_eq_true.1 h24 e h)
  · exact entOk_ok (f := 18) Tryd.func18 rfl (List.all_eq_true.1 h25 e h)
  · exact entOk_ok (f := 18) Tryd.func18 rfl (List.all_eq_true.1 h26 e h)
  · exact entOk_ok (f := 18) Tryd.func18 rfl (List.all_eq_true.1 h27 e h)
  · exact entOk_ok (f := 18) Tryd.func18 rfl (List.all_eq_true.1 h28 e h)
  · exact entOk_ok (f := 18) Tryd.func18 rfl (List.all_eq_true.1 h29 e h)
  · exact entOk_ok (f := 18) Tryd.func18 rfl (List.all_eq_true.1 h30 e h)
  · exact entOk_ok (f := 18) Tryd.func18 rfl (List.all_eq_true.1 h31 e h)
def tab19 : List Ent := [
  o19 0 [],
  o19 1 [68, 46, 46, 46, 32, 68, 46, 46, 46, 32, 68, 115, 46, 46, 32, 68, 115, 46, 46, 32, 68, 115, 46, 46, 32, 86, 108, 46, 46, 32, 86, 104, 46, 46, 32, 68, 46, 46, 33],
  o19 2 [68, 46, 46, 46, 32, 68, 46, 46, 46, 32, 80, 104, 46, 46, 32, 80, 108, 46, 46, 32, 80, 113, 46, 46, 32, 86, 108, 46, 46, 32, 86, 104, 46, 46, 32, 68, 46, 46, 33],
  o19 3 [68, 46, 46, 46, 32, 68, 46, 46, 46, 32, 80, 104, 46, 46, 32, 80, 108, 46, 46, 32, 80, 113, 46, 46, 32, 86, 108, 46, 46, 32, 86, 104, 46, 46, 32, 68, 46, 46, 33],
  o19 4 [68, 46, 46, 46, 32, 68, 46, 46, 46, 32, 80, 104, 46, 46, 32, 80, 108, 46, 46, 32, 80, 113, 46, 46, 32, 86, 108, 46, 46, 32, 86, 104, 46, 46, 32, 68, 46, 46, 33],
  o19 5 [68, 46, 46, 46, 32, 68, 46, 46, 46, 32, 80, 104, 46, 46, 32, 80, 108, 46, 46, 32, 80, 113, 46, 46, 32, 86, 108, 46, 46, 32, 86, 104, 46, 46, 32, 68, 46, 46, 33],
  o19 6 [],
  o19 7 [],
  o19 8 [],
  o19 9 [],
  o19 10 [],
  o19 11 [],
  o19 12 [],
  o19 13 [],
  o19 14 [],
  o19 15 [],
  o19 16 [],
  o19 17 [],
  o19 18 [],
  o19 19 [],
  o19 20 [],
  o19 21 [],
  o19 22 [],
  o19 23 [],
  o19 24 [],
  o19 25 [],
  o19 26 [],
  o19 27 [],
  o19 28 [],
  o19 29 [],
  o19 30 [],
  o19 31 [],
  o19 32 [],
  o19 33 [],
  o19 34 [],
  o19 35 [],
  o19 36 [],
  o19 37 [],
  o19 38 [],
  o19 39 [],
  o19 40 [],
  o19 41 [],
  o19 42 [],
  o19 43 [],
  o19 44 [],
  o19 45 [],
  o19 46 [],
  o19 47 [],
  o19 48 [],
  o19 49 [],
  o19 50 [],
  o19 51 [],
  o19 52 [],
  o19 53 [],
  o19 54 [],
  o19 55 [],
  o19 56 [],
  o19 57 [],
  o19 58 [],
  o19 59 [],
  o19 60 [],
  o19 61 [],
  o19 62 [],
  o19 63 [],
  o19 64 [],
  o19 65 [],
  o19 66 [],
  o19 67 [],
  o19 68 [],
  o19 69 [],
  o19 70 [],
  o19 71 [],
  o19 72 [],
  o19 73 [],
  o19 74 [],
  o19 75 [],
  o19 76 [],
  o19 77 [],
  o19 78 [],
  o19 79 [],
  o19 80 [],
  o19 81 [],
  o19 82 [],
  o19 83 [],
  o19 84 [],
  o19 85 [],
  o19 86 [],
  o19 87 [],
  o19 88 [],
  o19 89 [],
  o19 90 [],
  o19 91 [],
  o19 92 [],
  o19 93 [],
  o19 94 [],
  o19 95 [],
  o19 96 [],
  o19 97 [],
  o19 98 [],
  o19 99 [],
  o19 100 [],
  o19 101 [],
  o19 102 [],
  o19 103 [],
  o19 104 [],
  o19 105 [],
  o19 106 [],
  o19 107 [],
  o19 108 [],
  o19 109 [],
  o19 110 [],
  o19 111 [],
  o19 112 [],
  o19 113 [],
  o19 114 [],
  o19 115 [],
  o19 116 [],
  o19 117 [],
  o19 118 [],
  o19 119 [],
  o19 120 [],
  o19 121 [],
  o19 122 [],
  o19 123 [],
  o19 124 [],
  o19 125 [],
  o19 126 [],
  o19 127 [],
  o19 128 [],
  o19 129 [],
  o19 130 [],
  o19 131 [],
  o19 132 [],
  o19 133 [],
  o19 134 [],
  o19 135 [],
  o19 136 [],
  o19 137 [],
  o19 138 [],
  o19 139 [],
  o19 140 [],
  o19 141 [],
  o19 142 [],
  o19 143 [],
  o19 144 [],
  o19 145 [],
  o19 146 [],
  o19 147 [],
  o19 148 [],
  o19 149 [],
  o19 150 [],
  o19 151 [],
  o19 152 [],
  o19 153 [],
  o19 154 [],
  o19 155 [],
  o19 156 [],
  o19 157 [],
  o19 158 [],
  o19 159 [],
  o19 160 [],
  o19 161 [],
  o19 162 [],
  o19 163 [],
  o19 164 [],
  o19 165 [],
  o19 166 [],
  o19 167 [],
  o19 168 [],
  o19 169 [],
  o19 170 [],
  o19 171 [],
  o19 172 [],
  o19 173 [],
  o19 174 [],
  o19 175 [],
  o19 176 [],
  o19 177 [],
  o19 178 [],
  o19 179 [],
  o19 180 [],
  o19 181 [],
  o19 182 [],
  o19 183 [],
  o19 184 [],
  o19 185 [],
  o19 186 [],
  o19 187 [],
  o19 188 [],
  o19 189 [],
  o19 190 [],
  o19 191 [],
  o19 192 [],
  o19 193 [],
  o19 194 [],
  o19 195 [],
  o19 196 [],
  o19 197 [],
  o19 198 [],
  o19 199 [],
  o19 200 [],
  o19 201 [],
  o19 202 [],
  o19 203 [],
  o19 204 [],
  o19 205 [],
  o19 206 [],
  o19 207 [],
  o19 208 [],
  o19 209 [],
  o19 210 [],
  o19 211 [],
  o19 212 [],
  o19 213 [],
  o19 214 [],
  o19 215 [],
  o19 216 [],
  o19 217 [],
  o19 218 [],
  o19 219 [],
  o19 220 [],
  o19 221 [],
  o19 222 [],
  o19 223 [],
  o19 224 [],
  o19 225 [],
  o19 226 [],
  o19 227 [],
  o19 228 [],
  o19 229 [],
  o19 230 [],
  o19 231 [],
  o19 232 [],
  o19 233 [],
  o19 234 [],
  o19 235 [],
  o19 236 [],
  o19 237 [],
  o19 238 [],
  o19 239 [],
  o19 240 [],
  o19 241 [],
  o19 242 [],
  o19 243 [],
  o19 244 [],
  o19 245 [],
  o19 246 [],
  o19 247 [],
  o19 248 [],
  o19 249 [],
  o19 250 [],
  o19 251 [],
  o19 252 [],
  o19 253 [],
  o19 254 [],
  o19 255 []]
theorem ok19_0 : ((tab19.drop 0).take 32).all (entOk T orc3 1000 300 20 Tryd.f19 (codeOf Tryd.f19)) = true := by kernel_rfl
theorem ok19_1 : ((tab19.drop 32).take 32).all (entOk T orc3 1000 300 20 Tryd.f19 (codeOf Tryd.f19)) = true := by kernel_rfl
theorem ok19_2 : ((tab19.drop 64).take 32).all (entOk T orc3 1000 300 20 Tryd.f19 (codeOf Tryd.f19)) = true := by kernel_rfl
theorem ok19_3 : ((tab19.drop 96).take 32).all (entOk T orc3 1000 300 20 Tryd.f19 (codeOf Tryd.f19)) = true := by kernel_rfl
theorem ok19_4 : ((tab19.drop 128).take 32).all (entOk T orc3 1000 300 20 Tryd.f19 (codeOf Tryd.f19)) = true := by kernel_rfl
theorem ok19_5 : ((tab19.drop 160).take 32).all (entOk T orc3 1000 300 20 Tryd.f19 (codeOf Tryd.f19)) = true := by kernel_rfl
theorem ok19_6 : ((tab19.drop 192).take 32).all (entOk T orc3 1000 300 20 Tryd.f19 (codeOf Tryd.f19)) = true := by kernel_rfl
theorem ok19_7 : ((tab19.drop 224).take 32).all (entOk T orc3 1000 300 20 Tryd.f19 (codeOf Tryd.f19)) = true := by kernel_rfl
theorem ok19 : ∀ e ∈ tab19, EntIs Tryd.prog 19 e := by
  have h0 := ok19_0
  have h1 := ok19_1
  have h2 := ok19_2
  have h3 := ok19_3
  have h4 := ok19_4
  have h5 := ok19_5
  have h6 := ok19_6
  have h7 := ok19_7
  intro e he
  have hs : tab19 = (tab19.drop 0).take 32 ++ ((tab19.drop 32).take 32 ++ ((tab19.drop 64).take 32 ++ ((tab19.drop 96).take 32 ++ ((tab19.drop 128).take 32 ++ ((tab19.drop 160).take 32 ++ ((tab19.drop 192).take 32 ++ ((tab19.drop 224).take 32))))))) := rfl
  rw [hs] at he
  simp only [List.mem_append] at he
  rcases he with h | h | h | h | h | h | h | h
  · exact entOk_ok (f := 19) Tryd.func19 rfl (List.all_eq_true.1 h0 e h)
  · exact entOk_ok (f := 19) Tryd.func19 rfl (List.all_eq_true.1 h1 e h)
  · exact entOk_ok (f := 19) Tryd.func19 rfl (List.all_eq_true.1 h2 e h)
  · exact entOk_ok (f := 19) Tryd.func19 rfl (List.all_eq_true.1 h3 e h)
  · exact entOk_ok (f := 19) Tryd.func19 rfl (List.all_eq_true.1 h4 e h)
  · exact entOk_ok (f := 19) Tryd.func19 rfl (List.all_eq_true.1 h5 e h)
  · exact entOk_ok (f := 19) Tryd.func19 rfl (List.all_eq_true.1 h6 e h)
  · exact entOk_ok (f := 19) Tryd.func19 rfl (List.all_eq_true.1 h7 e h)
def tab15n : List Ent := [⟨[.slice none 0 0], St [], []⟩]
theorem ok15n_0 : ((tab15n.drop 0).take 1).all (entOk T orc3 1000 300 20 Tryd.f15 (codeOf Tryd.f15)) = true := by kernel_rfl
theorem ok15n : ∀ e ∈ tab15n, EntIs Tryd.prog 15 e := by
  have h0 := ok15n_0
  intro e he
  have h := he
  exact entOk_ok (f := 15) Tryd.func15 rfl (List.all_eq_true.1 h0 e h)
end Go.Proofs.YtfohjnfdgegfcaaDoor
