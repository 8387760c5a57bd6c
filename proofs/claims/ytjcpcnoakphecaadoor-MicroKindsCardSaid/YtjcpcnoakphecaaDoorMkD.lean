/-
  The law on programs at every byte. Conditions: none.
-/
import Derived.Test.YtjcpcnoakphecaaDoorMkC0
import Derived.Test.YtjcpcnoakphecaaDoorMkC1
import Derived.Test.YtjcpcnoakphecaaDoorMkC2
import Derived.Test.YtjcpcnoakphecaaDoorMkC3
import Derived.Test.YtjcpcnoakphecaaDoorMkC4
import Derived.Test.YtjcpcnoakphecaaDoorMkC5
import Derived.Test.YtjcpcnoakphecaaDoorMkC6
import Derived.Test.YtjcpcnoakphecaaDoorMkC7
set_option linter.unusedSectionVars false
set_option linter.unusedVariables false
namespace Go.Proofs.YtjcpcnoakphecaaDoor
open Go Go.AE Go.SX Go.RowKit
set_option maxRecDepth 1000000
theorem mk_p0 (b : Nat) (h0 : 0 ≤ b) (h1 : b < 32) : mkRun b = true := by
  rcases Nat.lt_or_ge b 2 with h | h
  · exact mkRun_at mk_0 (by omega) (by omega)
  rcases Nat.lt_or_ge b 4 with h | h
  · exact mkRun_at mk_2 (by omega) (by omega)
  rcases Nat.lt_or_ge b 6 with h | h
  · exact mkRun_at mk_4 (by omega) (by omega)
  rcases Nat.lt_or_ge b 8 with h | h
  · exact mkRun_at mk_6 (by omega) (by omega)
  rcases Nat.lt_or_ge b 10 with h | h
  · exact mkRun_at mk_8 (by omega) (by omega)
  rcases Nat.lt_or_ge b 12 with h | h
  · exact mkRun_at mk_10 (by omega) (by omega)
  rcases Nat.lt_or_ge b 14 with h | h
  · exact mkRun_at mk_12 (by omega) (by omega)
  rcases Nat.lt_or_ge b 16 with h | h
  · exact mkRun_at mk_14 (by omega) (by omega)
  rcases Nat.lt_or_ge b 18 with h | h
  · exact mkRun_at mk_16 (by omega) (by omega)
  rcases Nat.lt_or_ge b 20 with h | h
  · exact mkRun_at mk_18 (by omega) (by omega)
  rcases Nat.lt_or_ge b 22 with h | h
  · exact mkRun_at mk_20 (by omega) (by omega)
  rcases Nat.lt_or_ge b 24 with h | h
  · exact mkRun_at mk_22 (by omega) (by omega)
  rcases Nat.lt_or_ge b 26 with h | h
  · exact mkRun_at mk_24 (by omega) (by omega)
  rcases Nat.lt_or_ge b 28 with h | h
  · exact mkRun_at mk_26 (by omega) (by omega)
  rcases Nat.lt_or_ge b 30 with h | h
  · exact mkRun_at mk_28 (by omega) (by omega)
  exact mkRun_at mk_30 (by omega) (by omega)
theorem mk_p1 (b : Nat) (h0 : 32 ≤ b) (h1 : b < 64) : mkRun b = true := by
  rcases Nat.lt_or_ge b 34 with h | h
  · exact mkRun_at mk_32 (by omega) (by omega)
  rcases Nat.lt_or_ge b 36 with h | h
  · exact mkRun_at mk_34 (by omega) (by omega)
  rcases Nat.lt_or_ge b 38 with h | h
  · exact mkRun_at mk_36 (by omega) (by omega)
  rcases Nat.lt_or_ge b 40 with h | h
  · exact mkRun_at mk_38 (by omega) (by omega)
  rcases Nat.lt_or_ge b 42 with h | h
  · exact mkRun_at mk_40 (by omega) (by omega)
  rcases Nat.lt_or_ge b 44 with h | h
  · exact mkRun_at mk_42 (by omega) (by omega)
  rcases Nat.lt_or_ge b 46 with h | h
  · exact mkRun_at mk_44 (by omega) (by omega)
  rcases Nat.lt_or_ge b 48 with h | h
  · exact mkRun_at mk_46 (by omega) (by omega)
  rcases Nat.lt_or_ge b 50 with h | h
  · exact mkRun_at mk_48 (by omega) (by omega)
  rcases Nat.lt_or_ge b 52 with h | h
  · exact mkRun_at mk_50 (by omega) (by omega)
  rcases Nat.lt_or_ge b 54 with h | h
  · exact mkRun_at mk_52 (by omega) (by omega)
  rcases Nat.lt_or_ge b 56 with h | h
  · exact mkRun_at mk_54 (by omega) (by omega)
  rcases Nat.lt_or_ge b 58 with h | h
  · exact mkRun_at mk_56 (by omega) (by omega)
  rcases Nat.lt_or_ge b 60 with h | h
  · exact mkRun_at mk_58 (by omega) (by omega)
  rcases Nat.lt_or_ge b 62 with h | h
  · exact mkRun_at mk_60 (by omega) (by omega)
  exact mkRun_at mk_62 (by omega) (by omega)
theorem mk_p2 (b : Nat) (h0 : 64 ≤ b) (h1 : b < 96) : mkRun b = true := by
  rcases Nat.lt_or_ge b 66 with h | h
  · exact mkRun_at mk_64 (by omega) (by omega)
  rcases Nat.lt_or_ge b 68 with h | h
  · exact mkRun_at mk_66 (by omega) (by omega)
  rcases Nat.lt_or_ge b 70 with h | h
  · exact mkRun_at mk_68 (by omega) (by omega)
  rcases Nat.lt_or_ge b 72 with h | h
  · exact mkRun_at mk_70 (by omega) (by omega)
  rcases Nat.lt_or_ge b 74 with h | h
  · exact mkRun_at mk_72 (by omega) (by omega)
  rcases Nat.lt_or_ge b 76 with h | h
  · exact mkRun_at mk_74 (by omega) (by omega)
  rcases Nat.lt_or_ge b 78 with h | h
  · exact mkRun_at mk_76 (by omega) (by omega)
  rcases Nat.lt_or_ge b 80 with h | h
  · exact mkRun_at mk_78 (by omega) (by omega)
  rcases Nat.lt_or_ge b 82 with h | h
  · exact mkRun_at mk_80 (by omega) (by omega)
  rcases Nat.lt_or_ge b 84 with h | h
  · exact mkRun_at mk_82 (by omega) (by omega)
  rcases Nat.lt_or_ge b 86 with h | h
  · exact mkRun_at mk_84 (by omega) (by omega)
  rcases Nat.lt_or_ge b 88 with h | h
  · exact mkRun_at mk_86 (by omega) (by omega)
  rcases Nat.lt_or_ge b 90 with h | h
  · exact mkRun_at mk_88 (by omega) (by omega)
  rcases Nat.lt_or_ge b 92 with h | h
  · exact mkRun_at mk_90 (by omega) (by omega)
  rcases Nat.lt_or_ge b 94 with h | h
  · exact mkRun_at mk_92 (by omega) (by omega)
  exact mkRun_at mk_94 (by omega) (by omega)
theorem mk_p3 (b : Nat) (h0 : 96 ≤ b) (h1 : b < 128) : mkRun b = true := by
  rcases Nat.lt_or_ge b 98 with h | h
  · exact mkRun_at mk_96 (by omega) (by omega)
  rcases Nat.lt_or_ge b 100 with h | h
  · exact mkRun_at mk_98 (by omega) (by omega)
  rcases Nat.lt_or_ge b 102 with h | h
  · exact mkRun_at mk_100 (by omega) (by omega)
  rcases Nat.lt_or_ge b 104 with h | h
  · exact mkRun_at mk_102 (by omega) (by omega)
  rcases Nat.lt_or_ge b 106 with h | h
  · exact mkRun_at mk_104 (by omega) (by omega)
  rcases Nat.lt_or_ge b 108 with h | h
  · exact mkRun_at mk_106 (by omega) (by omega)
  rcases Nat.lt_or_ge b 110 with h | h
  · exact mkRun_at mk_108 (by omega) (by omega)
  rcases Nat.lt_or_ge b 112 with h | h
  · exact mkRun_at mk_110 (by omega) (by omega)
  rcases Nat.lt_or_ge b 114 with h | h
  · exact mkRun_at mk_112 (by omega) (by omega)
  rcases Nat.lt_or_ge b 115 with h | h
  · exact mkRun_at mk_114 (by omega) (by omega)
  rcases Nat.lt_or_ge b 116 with h | h
  · exact mkRun_at mk_115 (by omega) (by omega)
  rcases Nat.lt_or_ge b 118 with h | h
  · exact mkRun_at mk_116 (by omega) (by omega)
  rcases Nat.lt_or_ge b 120 with h | h
  · exact mkRun_at mk_118 (by omega) (by omega)
  rcases Nat.lt_or_ge b 122 with h | h
  · exact mkRun_at mk_120 (by omega) (by omega)
  rcases Nat.lt_or_ge b 124 with h | h
  · exact mkRun_at mk_122 (by omega) (by omega)
  rcases Nat.lt_or_ge b 126 with h | h
  · exact mkRun_at mk_124 (by omega) (by omega)
  exact mkRun_at mk_126 (by omega) (by omega)
theorem mk_p4 (b : Nat) (h0 : 128 ≤ b) (h1 : b < 160) : mkRun b = true := by
  rcases Nat.lt_or_ge b 130 with h | h
  · exact mkRun_at mk_128 (by omega) (by omega)
  rcases Nat.lt_or_ge b 132 with h | h
  · exact mkRun_at mk_130 (by omega) (by omega)
  rcases Nat.lt_or_ge b 134 with h | h
  · exact mkRun_at mk_132 (by omega) (by omega)
  rcases Nat.lt_or_ge b 136 with h | h
  · exact mkRun_at mk_134 (by omega) (by omega)
  rcases Nat.lt_or_ge b 138 with h | h
  · exact mkRun_at mk_136 (by omega) (by omega)
  rcases Nat.lt_or_ge b 140 with h | h
  · exact mkRun_at mk_138 (by omega) (by omega)
  rcases Nat.lt_or_ge b 142 with h | h
  · exact mkRun_at mk_140 (by omega) (by omega)
  rcases Nat.lt_or_ge b 144 with h | h
  · exact mkRun_at mk_142 (by omega) (by omega)
  rcases Nat.lt_or_ge b 146 with h | h
  · exact mkRun_at mk_144 (by omega) (by omega)
  rcases Nat.lt_or_ge b 148 with h | h
  · exact mkRun_at mk_146 (by omega) (by omega)
  rcases Nat.lt_or_ge b 150 with h | h
  · exact mkRun_at mk_148 (by omega) (by omega)
  rcases Nat.lt_or_ge b 152 with h | h
  · exact mkRun_at mk_150 (by omega) (by omega)
  rcases Nat.lt_or_ge b 154 with h | h
  · exact mkRun_at mk_152 (by omega) (by omega)
  rcases Nat.lt_or_ge b 156 with h | h
  · exact mkRun_at mk_154 (by omega) (by omega)
  rcases Nat.lt_or_ge b 158 with h | h
  · exact mkRun_at mk_156 (by omega) (by omega)
  exact mkRun_at mk_158 (by omega) (by omega)
theorem mk_p5 (b : Nat) (h0 : 160 ≤ b) (h1 : b < 192) : mkRun b = true := by
  rcases Nat.lt_or_ge b 162 with h | h
  · exact mkRun_at mk_160 (by omega) (by omega)
  rcases Nat.lt_or_ge b 164 with h | h
  · exact mkRun_at mk_162 (by omega) (by omega)
  rcases Nat.lt_or_ge b 166 with h | h
  · exact mkRun_at mk_164 (by omega) (by omega)
  rcases Nat.lt_or_ge b 168 with h | h
  · exact mkRun_at mk_166 (by omega) (by omega)
  rcases Nat.lt_or_ge b 170 with h | h
  · exact mkRun_at mk_168 (by omega) (by omega)
  rcases Nat.lt_or_ge b 172 with h | h
  · exact mkRun_at mk_170 (by omega) (by omega)
  rcases Nat.lt_or_ge b 174 with h | h
  · exact mkRun_at mk_172 (by omega) (by omega)
  rcases Nat.lt_or_ge b 176 with h | h
  · exact mkRun_at mk_174 (by omega) (by omega)
  rcases Nat.lt_or_ge b 178 with h | h
  · exact mkRun_at mk_176 (by omega) (by omega)
  rcases Nat.lt_or_ge b 180 with h | h
  · exact mkRun_at mk_178 (by omega) (by omega)
  rcases Nat.lt_or_ge b 182 with h | h
  · exact mkRun_at mk_180 (by omega) (by omega)
  rcases Nat.lt_or_ge b 184 with h | h
  · exact mkRun_at mk_182 (by omega) (by omega)
  rcases Nat.lt_or_ge b 186 with h | h
  · exact mkRun_at mk_184 (by omega) (by omega)
  rcases Nat.lt_or_ge b 188 with h | h
  · exact mkRun_at mk_186 (by omega) (by omega)
  rcases Nat.lt_or_ge b 190 with h | h
  · exact mkRun_at mk_188 (by omega) (by omega)
  exact mkRun_at mk_190 (by omega) (by omega)
theorem mk_p6 (b : Nat) (h0 : 192 ≤ b) (h1 : b < 224) : mkRun b = true := by
  rcases Nat.lt_or_ge b 194 with h | h
  · exact mkRun_at mk_192 (by omega) (by omega)
  rcases Nat.lt_or_ge b 195 with h | h
  · exact mkRun_at mk_194 (by omega) (by omega)
  rcases Nat.lt_or_ge b 196 with h | h
  · exact mkRun_at mk_195 (by omega) (by omega)
  rcases Nat.lt_or_ge b 198 with h | h
  · exact mkRun_at mk_196 (by omega) (by omega)
  rcases Nat.lt_or_ge b 200 with h | h
  · exact mkRun_at mk_198 (by omega) (by omega)
  rcases Nat.lt_or_ge b 202 with h | h
  · exact mkRun_at mk_200 (by omega) (by omega)
  rcases Nat.lt_or_ge b 204 with h | h
  · exact mkRun_at mk_202 (by omega) (by omega)
  rcases Nat.lt_or_ge b 206 with h | h
  · exact mkRun_at mk_204 (by omega) (by omega)
  rcases Nat.lt_or_ge b 208 with h | h
  · exact mkRun_at mk_206 (by omega) (by omega)
  rcases Nat.lt_or_ge b 210 with h | h
  · exact mkRun_at mk_208 (by omega) (by omega)
  rcases Nat.lt_or_ge b 211 with h | h
  · exact mkRun_at mk_210 (by omega) (by omega)
  rcases Nat.lt_or_ge b 212 with h | h
  · exact mkRun_at mk_211 (by omega) (by omega)
  rcases Nat.lt_or_ge b 214 with h | h
  · exact mkRun_at mk_212 (by omega) (by omega)
  rcases Nat.lt_or_ge b 216 with h | h
  · exact mkRun_at mk_214 (by omega) (by omega)
  rcases Nat.lt_or_ge b 218 with h | h
  · exact mkRun_at mk_216 (by omega) (by omega)
  rcases Nat.lt_or_ge b 220 with h | h
  · exact mkRun_at mk_218 (by omega) (by omega)
  rcases Nat.lt_or_ge b 222 with h | h
  · exact mkRun_at mk_220 (by omega) (by omega)
  exact mkRun_at mk_222 (by omega) (by omega)
theorem mk_p7 (b : Nat) (h0 : 224 ≤ b) (h1 : b < 256) : mkRun b = true := by
  rcases Nat.lt_or_ge b 226 with h | h
  · exact mkRun_at mk_224 (by omega) (by omega)
  rcases Nat.lt_or_ge b 227 with h | h
  · exact mkRun_at mk_226 (by omega) (by omega)
  rcases Nat.lt_or_ge b 228 with h | h
  · exact mkRun_at mk_227 (by omega) (by omega)
  rcases Nat.lt_or_ge b 230 with h | h
  · exact mkRun_at mk_228 (by omega) (by omega)
  rcases Nat.lt_or_ge b 232 with h | h
  · exact mkRun_at mk_230 (by omega) (by omega)
  rcases Nat.lt_or_ge b 234 with h | h
  · exact mkRun_at mk_232 (by omega) (by omega)
  rcases Nat.lt_or_ge b 236 with h | h
  · exact mkRun_at mk_234 (by omega) (by omega)
  rcases Nat.lt_or_ge b 238 with h | h
  · exact mkRun_at mk_236 (by omega) (by omega)
  rcases Nat.lt_or_ge b 240 with h | h
  · exact mkRun_at mk_238 (by omega) (by omega)
  rcases Nat.lt_or_ge b 242 with h | h
  · exact mkRun_at mk_240 (by omega) (by omega)
  rcases Nat.lt_or_ge b 243 with h | h
  · exact mkRun_at mk_242 (by omega) (by omega)
  rcases Nat.lt_or_ge b 244 with h | h
  · exact mkRun_at mk_243 (by omega) (by omega)
  rcases Nat.lt_or_ge b 246 with h | h
  · exact mkRun_at mk_244 (by omega) (by omega)
  rcases Nat.lt_or_ge b 248 with h | h
  · exact mkRun_at mk_246 (by omega) (by omega)
  rcases Nat.lt_or_ge b 250 with h | h
  · exact mkRun_at mk_248 (by omega) (by omega)
  rcases Nat.lt_or_ge b 252 with h | h
  · exact mkRun_at mk_250 (by omega) (by omega)
  rcases Nat.lt_or_ge b 254 with h | h
  · exact mkRun_at mk_252 (by omega) (by omega)
  exact mkRun_at mk_254 (by omega) (by omega)
theorem mk_all (b : Nat) (hb : b < 256) : mkRun b = true := by
  rcases Nat.lt_or_ge b 32 with h | h
  · exact mk_p0 b (by omega) h
  rcases Nat.lt_or_ge b 64 with h | h
  · exact mk_p1 b (by omega) h
  rcases Nat.lt_or_ge b 96 with h | h
  · exact mk_p2 b (by omega) h
  rcases Nat.lt_or_ge b 128 with h | h
  · exact mk_p3 b (by omega) h
  rcases Nat.lt_or_ge b 160 with h | h
  · exact mk_p4 b (by omega) h
  rcases Nat.lt_or_ge b 192 with h | h
  · exact mk_p5 b (by omega) h
  rcases Nat.lt_or_ge b 224 with h | h
  · exact mk_p6 b (by omega) h
  exact mk_p7 b (by omega) hb
end Go.Proofs.YtjcpcnoakphecaaDoor
