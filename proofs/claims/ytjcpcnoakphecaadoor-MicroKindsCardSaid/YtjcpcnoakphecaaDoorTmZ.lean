/-
  What timing.all and gannetref29.Letters answer to every byte. Conditions: none.
-/
import Derived.Test.YtjcpcnoakphecaaDoorTmA0
import Derived.Test.YtjcpcnoakphecaaDoorTmA1
import Derived.Test.YtjcpcnoakphecaaDoorTmA2
import Derived.Test.YtjcpcnoakphecaaDoorTmA3
import Derived.Test.YtjcpcnoakphecaaDoorTmL0
import Derived.Test.YtjcpcnoakphecaaDoorTmL1
import Derived.Test.YtjcpcnoakphecaaDoorTmL2
import Derived.Test.YtjcpcnoakphecaaDoorTmL3
set_option linter.unusedSectionVars false
set_option linter.unusedVariables false
set_option linter.unusedSimpArgs false
namespace Go.Proofs.YtjcpcnoakphecaaDoor
open Go Go.AE Go.SX Go.RowKit
set_option maxRecDepth 1000000
variable [DF] [DOk1]
theorem all_of (b : Nat) (hb : b < 256) (hk : isBlk b = false) (x y z : Bool) (n : Int) (hn : -9223372036854775808 ≤ n) (hn' : n ≤ 9223372036854775807) (m : Mem) :
    ACall Tryd.prog 94 [.int .u8 (b : Nat), .agg ⟨[.bool x, .bool y, .bool z, .int .i64 n]⟩] m fun w m2 => w = .string ⟨⟨wdB b x y z⟩⟩ ∧ m2 = m := by
  rcases Nat.lt_or_ge b 8 with h | h
  · exact runAll_at tA_0 (by omega) (by omega) hk x y z n hn hn' m
  rcases Nat.lt_or_ge b 16 with h | h
  · exact runAll_at tA_8 (by omega) (by omega) hk x y z n hn hn' m
  rcases Nat.lt_or_ge b 24 with h | h
  · exact runAll_at tA_16 (by omega) (by omega) hk x y z n hn hn' m
  rcases Nat.lt_or_ge b 32 with h | h
  · exact runAll_at tA_24 (by omega) (by omega) hk x y z n hn hn' m
  rcases Nat.lt_or_ge b 40 with h | h
  · exact runAll_at tA_32 (by omega) (by omega) hk x y z n hn hn' m
  rcases Nat.lt_or_ge b 48 with h | h
  · exact runAll_at tA_40 (by omega) (by omega) hk x y z n hn hn' m
  rcases Nat.lt_or_ge b 56 with h | h
  · exact runAll_at tA_48 (by omega) (by omega) hk x y z n hn hn' m
  rcases Nat.lt_or_ge b 64 with h | h
  · exact runAll_at tA_56 (by omega) (by omega) hk x y z n hn hn' m
  rcases Nat.lt_or_ge b 72 with h | h
  · exact runAll_at tA_64 (by omega) (by omega) hk x y z n hn hn' m
  rcases Nat.lt_or_ge b 80 with h | h
  · exact runAll_at tA_72 (by omega) (by omega) hk x y z n hn hn' m
  rcases Nat.lt_or_ge b 88 with h | h
  · exact runAll_at tA_80 (by omega) (by omega) hk x y z n hn hn' m
  rcases Nat.lt_or_ge b 96 with h | h
  · exact runAll_at tA_88 (by omega) (by omega) hk x y z n hn hn' m
  rcases Nat.lt_or_ge b 104 with h | h
  · exact runAll_at tA_96 (by omega) (by omega) hk x y z n hn hn' m
  rcases Nat.lt_or_ge b 112 with h | h
  · exact runAll_at tA_104 (by omega) (by omega) hk x y z n hn hn' m
  rcases Nat.lt_or_ge b 120 with h | h
  · exact runAll_at tA_112 (by omega) (by omega) hk x y z n hn hn' m
  rcases Nat.lt_or_ge b 128 with h | h
  · exact runAll_at tA_120 (by omega) (by omega) hk x y z n hn hn' m
  rcases Nat.lt_or_ge b 136 with h | h
  · exact runAll_at tA_128 (by omega) (by omega) hk x y z n hn hn' m
  rcases Nat.lt_or_ge b 144 with h | h
  · exact runAll_at tA_136 (by omega) (by omega) hk x y z n hn hn' m
  rcases Nat.lt_or_ge b 152 with h | h
  · exact runAll_at tA_144 (by omega) (by omega) hk x y z n hn hn' m
  rcases Nat.lt_or_ge b 160 with h | h
  · exact runAll_at tA_152 (by omega) (by omega) hk x y z n hn hn' m
  rcases Nat.lt_or_ge b 168 with h | h
  · exact runAll_at tA_160 (by omega) (by omega) hk x y z n hn hn' m
  rcases Nat.lt_or_ge b 176 with h | h
  · exact runAll_at tA_168 (by omega) (by omega) hk x y z n hn hn' m
  rcases Nat.lt_or_ge b 184 with h | h
  · exact runAll_at tA_176 (by omega) (by omega) hk x y z n hn hn' m
  rcases Nat.lt_or_ge b 192 with h | h
  · exact runAll_at tA_184 (by omega) (by omega) hk x y z n hn hn' m
  rcases Nat.lt_or_ge b 200 with h | h
  · exact runAll_at tA_192 (by omega) (by omega) hk x y z n hn hn' m
  rcases Nat.lt_or_ge b 208 with h | h
  · exact runAll_at tA_200 (by omega) (by omega) hk x y z n hn hn' m
  rcases Nat.lt_or_ge b 216 with h | h
  · exact runAll_at tA_208 (by omega) (by omega) hk x y z n hn hn' m
  rcases Nat.lt_or_ge b 224 with h | h
  · exact runAll_at tA_216 (by omega) (by omega) hk x y z n hn hn' m
  rcases Nat.lt_or_ge b 232 with h | h
  · exact runAll_at tA_224 (by omega) (by omega) hk x y z n hn hn' m
  rcases Nat.lt_or_ge b 240 with h | h
  · exact runAll_at tA_232 (by omega) (by omega) hk x y z n hn hn' m
  rcases Nat.lt_or_ge b 248 with h | h
  · exact runAll_at tA_240 (by omega) (by omega) hk x y z n hn hn' m
  exact runAll_at tA_248 (by omega) (by omega) hk x y z n hn hn' m
theorem let_of (b : Nat) (hb : b < 256) (m : Mem) :
    ACall Tryd.prog 45 [.int .u8 (b : Nat), .bool true, .bool true, .bool true, .int .i64 0] m fun w m2 => w = .string ⟨⟨allF b true true true 0⟩⟩ ∧ m2 = m := by
  rcases Nat.lt_or_ge b 8 with h | h
  · exact runLet_at tL_0 (by omega) (by omega) m
  rcases Nat.lt_or_ge b 16 with h | h
  · exact runLet_at tL_8 (by omega) (by omega) m
  rcases Nat.lt_or_ge b 24 with h | h
  · exact runLet_at tL_16 (by omega) (by omega) m
  rcases Nat.lt_or_ge b 32 with h | h
  · exact runLet_at tL_24 (by omega) (by omega) m
  rcases Nat.lt_or_ge b 40 with h | h
  · exact runLet_at tL_32 (by omega) (by omega) m
  rcases Nat.lt_or_ge b 48 with h | h
  · exact runLet_at tL_40 (by omega) (by omega) m
  rcases Nat.lt_or_ge b 56 with h | h
  · exact runLet_at tL_48 (by omega) (by omega) m
  rcases Nat.lt_or_ge b 64 with h | h
  · exact runLet_at tL_56 (by omega) (by omega) m
  rcases Nat.lt_or_ge b 72 with h | h
  · exact runLet_at tL_64 (by omega) (by omega) m
  rcases Nat.lt_or_ge b 80 with h | h
  · exact runLet_at tL_72 (by omega) (by omega) m
  rcases Nat.lt_or_ge b 88 with h | h
  · exact runLet_at tL_80 (by omega) (by omega) m
  rcases Nat.lt_or_ge b 96 with h | h
  · exact runLet_at tL_88 (by omega) (by omega) m
  rcases Nat.lt_or_ge b 104 with h | h
  · exact runLet_at tL_96 (by omega) (by omega) m
  rcases Nat.lt_or_ge b 112 with h | h
  · exact runLet_at tL_104 (by omega) (by omega) m
  rcases Nat.lt_or_ge b 120 with h | h
  · exact runLet_at tL_112 (by omega) (by omega) m
  rcases Nat.lt_or_ge b 128 with h | h
  · exact runLet_at tL_120 (by omega) (by omega) m
  rcases Nat.lt_or_ge b 136 with h | h
  · exact runLet_at tL_128 (by omega) (by omega) m
  rcases Nat.lt_or_ge b 144 with h | h
  · exact runLet_at tL_136 (by omega) (by omega) m
  rcases Nat.lt_or_ge b 152 with h | h
  · exact runLet_at tL_144 (by omega) (by omega) m
  rcases Nat.lt_or_ge b 160 with h | h
  · exact runLet_at tL_152 (by omega) (by omega) m
  rcases Nat.lt_or_ge b 168 with h | h
  · exact runLet_at tL_160 (by omega) (by omega) m
  rcases Nat.lt_or_ge b 176 with h | h
  · exact runLet_at tL_168 (by omega) (by omega) m
  rcases Nat.lt_or_ge b 184 with h | h
  · exact runLet_at tL_176 (by omega) (by omega) m
  rcases Nat.lt_or_ge b 192 with h | h
  · exact runLet_at tL_184 (by omega) (by omega) m
  rcases Nat.lt_or_ge b 200 with h | h
  · exact runLet_at tL_192 (by omega) (by omega) m
  rcases Nat.lt_or_ge b 208 with h | h
  · exact runLet_at tL_200 (by omega) (by omega) m
  rcases Nat.lt_or_ge b 216 with h | h
  · exact runLet_at tL_208 (by omega) (by omega) m
  rcases Nat.lt_or_ge b 224 with h | h
  · exact runLet_at tL_216 (by omega) (by omega) m
  rcases Nat.lt_or_ge b 232 with h | h
  · exact runLet_at tL_224 (by omega) (by omega) m
  rcases Nat.lt_or_ge b 240 with h | h
  · exact runLet_at tL_232 (by omega) (by omega) m
  rcases Nat.lt_or_ge b 248 with h | h
  · exact runLet_at tL_240 (by omega) (by omega) m
  exact runLet_at tL_248 (by omega) (by omega) m
end Go.Proofs.YtjcpcnoakphecaaDoor
