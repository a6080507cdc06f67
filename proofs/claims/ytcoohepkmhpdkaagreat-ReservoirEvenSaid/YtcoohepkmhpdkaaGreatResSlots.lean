/-
  ReservoirSlots: what any decisions leave in the slots, and the order that they lead to, or what is wrong; the slots are its first ones.
-/
import Derived.Test.YtcoohepkmhpdkaaGreatRes3
namespace Go.Proofs.YtcoohepkmhpdkaaGreat
open Go.RowKit
set_option linter.unusedVariables false

set_option maxRecDepth 100000 in
set_option maxHeartbeats 2000000 in
theorem awake42 (w : World) : Calls Tryz.prog 11 #[] w fun e w' => e = .returned (.bool true) ∧ Below w.heap.size w w' := by
  go_enter Tryz.func11, Tryz.ntmps11
  go_wp2_with fail
  refine (slots_ok _ 3 1 _ _ [0, 2] (rd_new w #[.int .i64 0, .int .i64 2] _ 2 1 rfl (by decide) _ _ rfl (by decide)) (by decide) (by decide) (by decide)).mono ?_
  rintro e w1 ⟨sa, ca, rfl, hown, hbel⟩
  obtain ⟨g, rfl, hg1, hg2, hg3, hcell, hfz⟩ := row_ptr hown (by decide)
  have c0 : w1.cell? ⟨g, 0, none⟩ = some (.int .i64 1) := hcell 0 _ rfl
  have HB := Lib.hid hbel
  clear hown hbel hcell hfz
  go_wp2
  go_ret
  exact ⟨rfl, ((Below.refl _ w).alloc (Nat.le_refl _) _).trans (HB.out.mono (by simp))⟩

end Go.Proofs.YtcoohepkmhpdkaaGreat
