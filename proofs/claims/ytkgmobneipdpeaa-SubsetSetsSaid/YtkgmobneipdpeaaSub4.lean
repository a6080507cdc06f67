/-
  The law SubsetOnly.
-/
import Derived.Test.YtkgmobneipdpeaaSub3
import Derived.Test.YtkgmobneipdpeaaInts
namespace Go.Proofs.Ytkgmobneipdpeaa
open Go.RowKit
set_option linter.unusedVariables false
set_option linter.unusedSimpArgs false

set_option maxRecDepth 100000 in
set_option maxHeartbeats 2000000 in
theorem awake41 (w : World) : Calls Try.prog 15 #[] w fun e w' => e = .returned (.bool true) ∧ Below w.heap.size w w' := by
  go_enter Try.func15, Try.ntmps15
  go_wp2_with fail
  refine (pick_any _ 3 _ 2 [2, 0] (rd_new w #[.int .i64 2, .int .i64 0] _ 2 1 rfl (by decide) _ _ rfl (by decide)) (by decide) (by decide)).mono ?_
  rintro e w1 (⟨-, sa, ca, rfl, hrd, hbel⟩ | ⟨h, -⟩)
  · have e120 : pickL 3 [2, 0] = [2, 1] := by decide
    rw [e120] at hrd
    obtain ⟨b, off, rfl, hcell⟩ := hrd.at (by decide)
    have c0 : w1.cell? ⟨b, off, none⟩ = some (.int .i64 2) := hcell 0 _ rfl
    have c1 : w1.cell? ⟨b, off + 1, none⟩ = some (.int .i64 1) := hcell 1 _ rfl
    have HB := Lib.hid hbel
    clear hbel hcell e120 hrd
    go_wp2
    go_ret
    exact ⟨rfl, ((Below.refl _ w).alloc (Nat.le_refl _) _).trans (HB.out.mono (by simp))⟩
  · exact absurd h (by decide)

end Go.Proofs.Ytkgmobneipdpeaa
