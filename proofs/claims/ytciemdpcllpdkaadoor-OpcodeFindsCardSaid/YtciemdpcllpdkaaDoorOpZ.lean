/-
  What opcode.Of, opcode.Known and gannetref23.Of answer to every byte. Conditions: none.
-/
import Derived.Test.YtciemdpcllpdkaaDoorOpA0
import Derived.Test.YtciemdpcllpdkaaDoorOpA1
import Derived.Test.YtciemdpcllpdkaaDoorOpA2
import Derived.Test.YtciemdpcllpdkaaDoorOpA3
import Derived.Test.YtciemdpcllpdkaaDoorOpB0
import Derived.Test.YtciemdpcllpdkaaDoorOpB1
import Derived.Test.YtciemdpcllpdkaaDoorOpB2
import Derived.Test.YtciemdpcllpdkaaDoorOpB3
import Derived.Test.YtciemdpcllpdkaaDoorOpK
set_option linter.unusedSectionVars false
set_option linter.unusedVariables false
set_option linter.unusedSimpArgs false
namespace Go.Proofs.YtciemdpcllpdkaaDoor
open Go Go.AE Go.SX Go.RowKit
set_option maxRecDepth 1000000
variable [Fam]
theorem ofA (b : Nat) (hb : b < 256) (m : Mem) : ACall Tryd.prog 42 [.int .u8 (b : Nat)] m fun w m2 => w = (spA b).den (envOf []) ∧ m2 = m := by
  rcases Nat.lt_or_ge b 8 with h | h
  · exact run_at rfl rA_0 (by omega) (by omega) m
  rcases Nat.lt_or_ge b 16 with h | h
  · exact run_at rfl rA_8 (by omega) (by omega) m
  rcases Nat.lt_or_ge b 24 with h | h
  · exact run_at rfl rA_16 (by omega) (by omega) m
  rcases Nat.lt_or_ge b 32 with h | h
  · exact run_at rfl rA_24 (by omega) (by omega) m
  rcases Nat.lt_or_ge b 40 with h | h
  · exact run_at rfl rA_32 (by omega) (by omega) m
  rcases Nat.lt_or_ge b 48 with h | h
  · exact run_at rfl rA_40 (by omega) (by omega) m
  rcases Nat.lt_or_ge b 56 with h | h
  · exact run_at rfl rA_48 (by omega) (by omega) m
  rcases Nat.lt_or_ge b 64 with h | h
  · exact run_at rfl rA_56 (by omega) (by omega) m
  rcases Nat.lt_or_ge b 72 with h | h
  · exact run_at rfl rA_64 (by omega) (by omega) m
  rcases Nat.lt_or_ge b 80 with h | h
  · exact run_at rfl rA_72 (by omega) (by omega) m
  rcases Nat.lt_or_ge b 88 with h | h
  · exact run_at rfl rA_80 (by omega) (by omega) m
  rcases Nat.lt_or_ge b 96 with h | h
  · exact run_at rfl rA_88 (by omega) (by omega) m
  rcases Nat.lt_or_ge b 104 with h | h
  · exact run_at rfl rA_96 (by omega) (by omega) m
  rcases Nat.lt_or_ge b 112 with h | h
  · exact run_at rfl rA_104 (by omega) (by omega) m
  rcases Nat.lt_or_ge b 120 with h | h
  · exact run_at rfl rA_112 (by omega) (by omega) m
  rcases Nat.lt_or_ge b 128 with h | h
  · exact run_at rfl rA_120 (by omega) (by omega) m
  rcases Nat.lt_or_ge b 136 with h | h
  · exact run_at rfl rA_128 (by omega) (by omega) m
  rcases Nat.lt_or_ge b 144 with h | h
  · exact run_at rfl rA_136 (by omega) (by omega) m
  rcases Nat.lt_or_ge b 152 with h | h
  · exact run_at rfl rA_144 (by omega) (by omega) m
  rcases Nat.lt_or_ge b 160 with h | h
  · exact run_at rfl rA_152 (by omega) (by omega) m
  rcases Nat.lt_or_ge b 168 with h | h
  · exact run_at rfl rA_160 (by omega) (by omega) m
  rcases Nat.lt_or_ge b 176 with h | h
  · exact run_at rfl rA_168 (by omega) (by omega) m
  rcases Nat.lt_or_ge b 184 with h | h
  · exact run_at rfl rA_176 (by omega) (by omega) m
  rcases Nat.lt_or_ge b 192 with h | h
  · exact run_at rfl rA_184 (by omega) (by omega) m
  rcases Nat.lt_or_ge b 200 with h | h
  · exact run_at rfl rA_192 (by omega) (by omega) m
  rcases Nat.lt_or_ge b 208 with h | h
  · exact run_at rfl rA_200 (by omega) (by omega) m
  rcases Nat.lt_or_ge b 216 with h | h
  · exact run_at rfl rA_208 (by omega) (by omega) m
  rcases Nat.lt_or_ge b 224 with h | h
  · exact run_at rfl rA_216 (by omega) (by omega) m
  rcases Nat.lt_or_ge b 232 with h | h
  · exact run_at rfl rA_224 (by omega) (by omega) m
  rcases Nat.lt_or_ge b 240 with h | h
  · exact run_at rfl rA_232 (by omega) (by omega) m
  rcases Nat.lt_or_ge b 248 with h | h
  · exact run_at rfl rA_240 (by omega) (by omega) m
  exact run_at rfl rA_248 (by omega) (by omega) m
theorem ofB (b : Nat) (hb : b < 256) (m : Mem) : ACall Tryd.prog 13 [.int .u8 (b : Nat)] m fun w m2 => w = (spB b).den (envOf []) ∧ m2 = m := by
  rcases Nat.lt_or_ge b 8 with h | h
  · exact run_at rfl rB_0 (by omega) (by omega) m
  rcases Nat.lt_or_ge b 16 with h | h
  · exact run_at rfl rB_8 (by omega) (by omega) m
  rcases Nat.lt_or_ge b 24 with h | h
  · exact run_at rfl rB_16 (by omega) (by omega) m
  rcases Nat.lt_or_ge b 32 with h | h
  · exact run_at rfl rB_24 (by omega) (by omega) m
  rcases Nat.lt_or_ge b 40 with h | h
  · exact run_at rfl rB_32 (by omega) (by omega) m
  rcases Nat.lt_or_ge b 48 with h | h
  · exact run_at rfl rB_40 (by omega) (by omega) m
  rcases Nat.lt_or_ge b 56 with h | h
  · exact run_at rfl rB_48 (by omega) (by omega) m
  rcases Nat.lt_or_ge b 64 with h | h
  · exact run_at rfl rB_56 (by omega) (by omega) m
  rcases Nat.lt_or_ge b 72 with h | h
  · exact run_at rfl rB_64 (by omega) (by omega) m
  rcases Nat.lt_or_ge b 80 with h | h
  · exact run_at rfl rB_72 (by omega) (by omega) m
  rcases Nat.lt_or_ge b 88 with h | h
  · exact run_at rfl rB_80 (by omega) (by omega) m
  rcases Nat.lt_or_ge b 96 with h | h
  · exact run_at rfl rB_88 (by omega) (by omega) m
  rcases Nat.lt_or_ge b 104 with h | h
  · exact run_at rfl rB_96 (by omega) (by omega) m
  rcases Nat.lt_or_ge b 112 with h | h
  · exact run_at rfl rB_104 (by omega) (by omega) m
  rcases Nat.lt_or_ge b 120 with h | h
  · exact run_at rfl rB_112 (by omega) (by omega) m
  rcases Nat.lt_or_ge b 128 with h | h
  · exact run_at rfl rB_120 (by omega) (by omega) m
  rcases Nat.lt_or_ge b 136 with h | h
  · exact run_at rfl rB_128 (by omega) (by omega) m
  rcases Nat.lt_or_ge b 144 with h | h
  · exact run_at rfl rB_136 (by omega) (by omega) m
  rcases Nat.lt_or_ge b 152 with h | h
  · exact run_at rfl rB_144 (by omega) (by omega) m
  rcases Nat.lt_or_ge b 160 with h | h
  · exact run_at rfl rB_152 (by omega) (by omega) m
  rcases Nat.lt_or_ge b 168 with h | h
  · exact run_at rfl rB_160 (by omega) (by omega) m
  rcases Nat.lt_or_ge b 176 with h | h
  · exact run_at rfl rB_168 (by omega) (by omega) m
  rcases Nat.lt_or_ge b 184 with h | h
  · exact run_at rfl rB_176 (by omega) (by omega) m
  rcases Nat.lt_or_ge b 192 with h | h
  · exact run_at rfl rB_184 (by omega) (by omega) m
  rcases Nat.lt_or_ge b 200 with h | h
  · exact run_at rfl rB_192 (by omega) (by omega) m
  rcases Nat.lt_or_ge b 208 with h | h
  · exact run_at rfl rB_200 (by omega) (by omega) m
  rcases Nat.lt_or_ge b 216 with h | h
  · exact run_at rfl rB_208 (by omega) (by omega) m
  rcases Nat.lt_or_ge b 224 with h | h
  · exact run_at rfl rB_216 (by omega) (by omega) m
  rcases Nat.lt_or_ge b 232 with h | h
  · exact run_at rfl rB_224 (by omega) (by omega) m
  rcases Nat.lt_or_ge b 240 with h | h
  · exact run_at rfl rB_232 (by omega) (by omega) m
  rcases Nat.lt_or_ge b 248 with h | h
  · exact run_at rfl rB_240 (by omega) (by omega) m
  exact run_at rfl rB_248 (by omega) (by omega) m
theorem ofK (b : Nat) (hb : b < 256) (m : Mem) : ACall Tryd.prog 43 [.int .u8 (b : Nat)] m fun w m2 => w = (spK b).den (envOf []) ∧ m2 = m := by
  rcases Nat.lt_or_ge b 32 with h | h
  · exact run_at rfl rK_0 (by omega) (by omega) m
  rcases Nat.lt_or_ge b 64 with h | h
  · exact run_at rfl rK_32 (by omega) (by omega) m
  rcases Nat.lt_or_ge b 96 with h | h
  · exact run_at rfl rK_64 (by omega) (by omega) m
  rcases Nat.lt_or_ge b 128 with h | h
  · exact run_at rfl rK_96 (by omega) (by omega) m
  rcases Nat.lt_or_ge b 160 with h | h
  · exact run_at rfl rK_128 (by omega) (by omega) m
  rcases Nat.lt_or_ge b 192 with h | h
  · exact run_at rfl rK_160 (by omega) (by omega) m
  rcases Nat.lt_or_ge b 224 with h | h
  · exact run_at rfl rK_192 (by omega) (by omega) m
  exact run_at rfl rK_224 (by omega) (by omega) m
end Go.Proofs.YtciemdpcllpdkaaDoor
