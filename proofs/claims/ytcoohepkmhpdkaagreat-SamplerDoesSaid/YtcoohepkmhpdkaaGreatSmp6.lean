/-
  The document's Limits of an ask that may be: words given back, and numbers one behind the other.
-/
import Derived.Test.YtcoohepkmhpdkaaGreatSmp1
import Derived.Test.YtcoohepkmhpdkaaGreatRShuf
import Derived.Test.YtcoohepkmhpdkaaGreatRSub
import Derived.Test.YtcoohepkmhpdkaaGreatRvTake
import Derived.Laws.EntriesVeiled
namespace Go.Proofs.YtcoohepkmhpdkaaGreat
open Go.RowKit
set_option linter.unusedVariables false
set_option linter.unusedSimpArgs false

/-- what Limits of an ask answers: it reads the limits -/
def LimQ (w : World) (K N k : Int) (ws : List Nat) (e : Ending) (w' : World) : Prop :=
  ∃ sl m, e = .returned sl ∧ Rd w' 1 sl m (u64s (zsN (askL K N k ws))) ∧ Below w.heap.size w w'

theorem limR_up (n k : Nat) : limR n k = upL (k + 1) (n - k) := by
  refine List.ext_getElem (by rw [limR_len, upL_len]) fun i h1 h2 => ?_
  rw [limR_len] at h1
  simp only [limR, upL, List.getElem_map, List.getElem_range]
  omega

end Go.Proofs.YtcoohepkmhpdkaaGreat
