/-
  The program's reservoirs: each, Slots, Order; the references' Slots and Order.
-/
import Derived.Test.YtamjhblhkabpaaaRes
namespace Go.Proofs.Ytamjhblhkabpaaa
open Go.RowKit
set_option linter.unusedVariables false

end Go.Proofs.Ytamjhblhkabpaaa
