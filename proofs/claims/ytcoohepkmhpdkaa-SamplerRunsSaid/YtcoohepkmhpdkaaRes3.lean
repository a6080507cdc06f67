/-
  The references' reservoirs: Slots and Order; the law ReservoirSlots.
-/
import Derived.Test.YtcoohepkmhpdkaaRes2
namespace Go.Proofs.Ytcoohepkmhpdkaa
open Go.RowKit
set_option linter.unusedVariables false

/-- after s slots are done -/
def slotsMid (k s : Nat) (d : List Int) : List Int := (List.range k).map fun t => if t < s then slotAt k t d else (t : Int)
theorem slotsMid_len (k s : Nat) (d : List Int) : (slotsMid k s d).length = k := by simp [slotsMid]
theorem slotsMid_zero (k : Nat) (d : List Int) : slotsMid k 0 d = rowL k := by
  simp only [slotsMid, rowL]; congr
theorem slotsMid_end (k : Nat) (d : List Int) : slotsMid k k d = slotsR k d := by
  simp only [slotsMid, slotsR]
  refine List.map_congr_left fun t ht => ?_
  rw [if_pos (by simpa using ht)]
theorem slotsMid_get (k s : Nat) (d : List Int) (hs : s < k) : (slotsMid k s d).getD s 0 = (s : Int) := by
  simp [slotsMid, List.getD, hs]
theorem slotsMid_succ (k s : Nat) (d : List Int) (hs : s < k) : (slotsMid k s d).set s (slotAt k s d) = slotsMid k (s + 1) d := by
  refine List.ext_getElem (by simp [slotsMid_len]) fun t h1 h2 => ?_
  have ht : t < k := by rw [slotsMid_len] at h2; exact h2
  rw [List.getElem_set]
  simp only [slotsMid, List.getElem_map, List.getElem_range]
  by_cases hst : s = t
  · subst hst; rw [if_pos rfl, if_pos (by omega)]
  · rw [if_neg hst]
    by_cases h : t < s
    · rw [if_pos h, if_pos (by omega)]
    · rw [if_neg h, if_neg (by omega)]

end Go.Proofs.Ytcoohepkmhpdkaa
