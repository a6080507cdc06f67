/-
  The sampler's first examples (awake).
-/
import Derived.Test.YtcoohepkmhpdkaaGreatDo
import Derived.Laws.EntriesVeiled
namespace Go.Proofs.YtcoohepkmhpdkaaGreat
open Go.RowKit
set_option linter.unusedVariables false
set_option linter.unusedSimpArgs false

theorem ask_first : askE 1 0 0 [10] = 0 ∧ askD [9223372036854775809] 1 0 0 [10] = some ([5], 1) ∧ (askL 3 3 0 []).length = 2 := by decide

set_option maxRecDepth 100000 in
set_option maxHeartbeats 4000000 in
theorem awake46 (w : World) :
    Calls Tryz.prog 5 #[] w fun e w' => e = .returned (.bool true) ∧ Below w.heap.size w w' := by
  obtain ⟨a1, a2, a3⟩ := ask_first
  have A1 := Lib.hid a1; have A2 := Lib.hid a2; have A3 := Lib.hid a3
  clear a1 a2 a3
  have w1 : W64 [10] := fun a ha => by have := List.mem_singleton.1 ha; subst this; decide
  have w2 : W64 [9223372036854775809] := fun a ha => by have := List.mem_singleton.1 ha; subst this; decide
  have W1 := Lib.hid w1; have W2 := Lib.hid w2
  clear w1 w2
  go_enter Tryz.func5, Tryz.ntmps5
  go_wp2_with fail
  refine (new_any _ _ (zsN [9223372036854775809]) (rd_new _ #[.int .u64 9223372036854775809] _ 1 1 rfl (by decide) _ 1 rfl (Nat.le_refl _)) (by decide)).mono ?_
  rintro e wa ⟨b, wv, rfl, ht, hb⟩
  have HT := Lib.hid ht; have HB := Lib.hid hb
  clear ht hb
  go_wp2_with fail
  have hb1 := HB.out
  have ht1 := HT.out.below ((Below.refl _ wa).alloc (Nat.le_refl _) (.cells #[.int .u64 10] 48))
  refine (sdo_ok _ _ b wv (.slice none 0 0) [9223372036854775809] ht1 (by decide) W2.out 1 0 0 _ 1 1 [10] (rd_new wa #[.int .u64 10] _ 1 1 rfl (by decide) _ 1 rfl (Nat.le_refl _)) W1.out A1.out).mono ?_
  rintro e w4 ⟨h, hc⟩
  rw [A2.out] at h
  obtain ⟨sp, m, cp, rfl, hr⟩ := h
  have hm := hr.len_u64
  obtain rfl : m = 1 := hm
  obtain ⟨bx, off, rfl, hcx⟩ := hr.at (by decide)
  have x0 : w4.cell? ⟨bx, off, none⟩ = some (.int .u64 5) := hcx 0 _ rfl
  have hle : w.heap.size ≤ b := by have := HT.out.2.1; simp at this; omega
  have hbb : Below w.heap.size w w4 := by
    have h1 : Below w.heap.size w (wa.alloc (.cells #[.int .u64 10] 48)) := (((Below.refl w.heap.size w).alloc (Nat.le_refl _) (.cells #[.int .u64 9223372036854775809] 48)).trans (hb1.mono (by simp))).alloc (by have := hb1.size; simp at this; omega) _
    exact h1.trans (hc.below h1.size fun k hk => by
      rcases hk with rfl | hk
      · exact hle
      · cases hk)
  have D := sdraws_any w4 3 3 0 none 0 0 [] (Rd.nil _ _) (fun a ha => by cases ha) (by decide)
  rw [A3.out] at D
  have HD := Lib.hid D; have HBB := Lib.hid hbb
  have lb := World.block_lt_of_cell? w4 _ x0
  clear hb1 ht1 hc hr hcx hle hbb D
  go_wp2_with fail
  refine HD.out.mono ?_
  rintro e w5 ⟨rfl, hb5⟩
  have x1 : w5.cell? ⟨bx, off, none⟩ = some (.int .u64 5) := (hb5.cell (p := ⟨bx, off, none⟩) lb).trans x0
  have HB5 := Lib.hid (HBB.out.trans (hb5.mono HBB.out.size))
  clear hb5
  go_wp2_with fail
  go_ret
  exact ⟨rfl, HB5.out⟩

end Go.Proofs.YtcoohepkmhpdkaaGreat
