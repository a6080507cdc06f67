/-
  slices.Sort, Index, Equal at []int in this proof's words; what Is answers, the program's and the reference's.
-/
import Derived.Test.YtcoohepkmhpdkaaShelf
import Derived.Test.YtcoohepkmhpdkaaBs
import Derived.Test.YtcoohepkmhpdkaaPl
namespace Go.Proofs.Ytcoohepkmhpdkaa
open Go.RowKit
set_option linter.unusedVariables false

theorem isPB_sort (l : List Int) : eqL (l.mergeSort fun x y => decide (x ≤ y)) (rowL l.length) = isPB l := by
  rw [Bool.eq_iff_iff, eqL_iff, isPB_iff, sort_row]

theorem isPB_not {p : List Int} (i : Nat) (hi : i < p.length) (h : p.count (i : Int) ≠ 1) : isPB p = false := by
  rw [Bool.eq_false_iff, Ne, isPB_iff, ← count_row]
  exact fun hh => h (hh i hi)
theorem isPB_all {p : List Int} (h : ∀ i, i < p.length → p.count (i : Int) = 1) : isPB p = true := isPB_iff.2 (count_row.1 h)
theorem count_take (p : List Int) (j : Nat) (x : Int) (h : j < p.length) : (p.take (j + 1)).count x = (p.take j).count x + if p.getD j 0 = x then 1 else 0 := by
  rw [List.take_succ_eq_append_getElem h, List.count_append]
  simp [List.getD, List.getElem?_eq_getElem h, List.count_singleton]
theorem count_le (p : List Int) (j : Nat) (x : Int) : (p.take j).count x ≤ p.length := Nat.le_trans List.count_le_length (by rw [List.length_take]; omega)

end Go.Proofs.Ytcoohepkmhpdkaa
