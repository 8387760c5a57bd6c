/-
  The shapes of the tables of programs and their texts. Conditions: none.
-/
import Derived.Test.YtfohjnfdgegfcaaDoorTabBase
import Derived.Test.YtfohjnfdgegfcaaDoorAe24
namespace Go.Proofs.YtfohjnfdgegfcaaDoor
open Go Go.AE
set_option maxRecDepth 100000
def o17 (b : Nat) (s : List UInt8) : Ent := ⟨[By b], St s, []⟩
def o18 (k : Nat) (l : List Nat) : Ent := ⟨[By k], .slice (some ⟨0, 0, none⟩) l.length l.length, [⟨ops4 l, 29, true, false⟩]⟩
def o18n (k : Nat) : Ent := ⟨[By k], .slice none 0 0, []⟩
def o19 (k : Nat) (s : List UInt8) : Ent := ⟨[By k], St s, []⟩
def r15 (l : List Nat) (s : List UInt8) : EntR := ⟨ops4 l, 29, l.length, St s⟩
end Go.Proofs.YtfohjnfdgegfcaaDoor
