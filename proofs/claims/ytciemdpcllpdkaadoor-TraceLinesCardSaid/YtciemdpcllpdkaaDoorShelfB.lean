/-
  Nothing beyond the contracts of the library. Conditions: none.
-/
import Derived.Test.YtciemdpcllpdkaaDoorShelf
