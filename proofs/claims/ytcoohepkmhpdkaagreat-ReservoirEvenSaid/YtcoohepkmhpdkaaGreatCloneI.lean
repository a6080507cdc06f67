/-
  slices.Clone at []int: a new slice of the same cells, nothing that was there changed.
-/
import Derived.Test.YtcoohepkmhpdkaaGreatClone
namespace Go.Proofs.YtcoohepkmhpdkaaGreat
open Go.RowKit

set_option maxHeartbeats 1000000 in
theorem clone_i64 (v : Value) (n : Nat) (l : List Int) (w : World) (hr : Rd w 1 v n (i64s l)) (hbig : n * 8 ≤ 140737488355328) :
    Calls Tryz.prog 82 #[v] w fun e w' => ∃ sa cap, e = .returned (.slice sa n cap) ∧ w'.ownsRow w.heap.size 3 1 (.slice sa n cap) n (i64s l) ∧ Below w.heap.size w w' := by
  obtain ⟨i0, hi, hz0, hz1, hz2⟩ := info_parts info_i64
  have q22 : ∀ (w : World) (a : Option Addr) (n c n' c' : Nat), (binOp .eql 36 (.slice a n c) (.slice none n' c')).run Tryz.prog w = .ok (.bool a.isNone) w := fun w a n c n' c' => Lib.run_eql_slice_nil w _ _ a n c n' c' Tryz.underlying36
  obtain ⟨h1, h2, sa, cap, rfl, hcap, h3⟩ := hr
  have H1 := Lib.hid h1; have H3 := Lib.hid h3; clear h1 h3
  cases sa with
  | none =>
    go_enter Tryz.func82, Tryz.ntmps82
    go_wp2
    go_ret
    have hn : n = 0 := by
      rcases H3.out with h | ⟨b, off, h, _⟩
      · exact h
      · cases h
    have hl : i64s l = [] := List.eq_nil_of_length_eq_zero (by rw [H1.out, hn])
    rw [hn, hl]
    exact ⟨none, 0, rfl, World.ownsRow_nil _ _ _ _, Below.refl _ _⟩
  | some ad =>
    go_enter Tryz.func82, Tryz.ntmps82
    go_wp2_with (at_builtin; refine wpList_append_own _ rfl _ _ 36 rfl w.heap.size 3 i0 (.int .i64 0) 1 8 Tryz.underlying36 hi hz0 hz1 hz2 rfl (by decide) _ _ _ rfl (World.ownsRow_made w #[] 0 (Nat.le_refl _) (Nat.zero_le _) rfl) ad n cap (i64s l) rfl ?qc1 ?qc2 ?qc3 ?qc4 ?qc5 ?qc6 ?_)
    case qc1 => exact H1.out
    case qc2 =>
      intro j u hj
      rcases H3.out with h | ⟨b, off, h, hc⟩
      · have hl : i64s l = [] := List.eq_nil_of_length_eq_zero (by rw [H1.out, h])
        rw [hl] at hj; cases hj
      · cases h
        rw [Addr.add_lit]
        exact Lib.cell?_alloc_some _ (hc j u hj)
    case qc3 => exact i64s_one
    case qc4 => unfold maxLen; omega
    case qc5 => omega
    case qc6 => simp
    intro v' w1 hown hgrow hnil
    obtain ⟨sa, ca, rfl⟩ := (rd_of_row hown).form
    go_wp2
    go_ret
    refine ⟨sa, ca, by simp, by simpa using hown, ?_⟩
    exact ((Below.refl _ w).alloc (Nat.le_refl _) _).grown hgrow (by simp) (by intro k hk; simp [Value.ownBlock] at hk; omega)

end Go.Proofs.YtcoohepkmhpdkaaGreat
