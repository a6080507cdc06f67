/-
  subset.self, row, right, Pick; the reference's Count, Right, Pick, Is.
-/
import Derived.Test.YtcoohepkmhpdkaaShuf3
import Derived.Test.YtcoohepkmhpdkaaPl
namespace Go.Proofs.Ytcoohepkmhpdkaa
open Go.RowKit
set_option linter.unusedVariables false
set_option linter.unusedSimpArgs false

def cntS (n k : Int) : Int := if n < 0 ∨ 256 < n ∨ n < k then 1 else 0
theorem cntS_zero {n k : Int} : cntS n k = 0 ↔ 0 ≤ n ∧ n ≤ 256 ∧ k ≤ n := by
  unfold cntS; split <;> omega
theorem cntS_one {n k : Int} (h : ¬ (0 ≤ n ∧ n ≤ 256 ∧ k ≤ n)) : cntS n k = 1 := by
  unfold cntS; rw [if_pos (by omega)]

set_option maxRecDepth 100000 in
set_option maxHeartbeats 1000000 in
theorem subright_any (n k : Int) (w : World) : Calls Try.prog 76 #[.int .i64 n, .int .i64 k] w fun e w' => e = .returned (.bool (decide (0 ≤ n ∧ n ≤ 256 ∧ k ≤ n))) ∧ w = w' := by
  by_cases a : 0 ≤ n
  · by_cases b : n ≤ 256
    · by_cases c : k ≤ n
      · have hr : decide (0 ≤ n ∧ n ≤ 256 ∧ k ≤ n) = true := by simp [a, b, c]
        have HR := Lib.hid hr; clear hr
        go_enter Try.func76, Try.ntmps76
        go_wp2
        go_ret
        exact ⟨ret_bool (by simp [a, b, c]), rfl⟩
      · have hr : decide (0 ≤ n ∧ n ≤ 256 ∧ k ≤ n) = false := by simp [c]
        have HR := Lib.hid hr; clear hr
        go_enter Try.func76, Try.ntmps76
        go_wp2
        go_ret
        exact ⟨ret_bool (by simp [a, b, c]), rfl⟩
    · have hr : decide (0 ≤ n ∧ n ≤ 256 ∧ k ≤ n) = false := by simp [b]
      have HR := Lib.hid hr; clear hr
      go_enter Try.func76, Try.ntmps76
      go_wp2
      go_ret
      exact ⟨ret_bool (by simp [a, b]; try omega), rfl⟩
  · have hr : decide (0 ≤ n ∧ n ≤ 256 ∧ k ≤ n) = false := by simp [a]
    have HR := Lib.hid hr; clear hr
    go_enter Try.func76, Try.ntmps76
    go_wp2
    go_ret
    exact ⟨ret_bool (by simp [a]; try omega), rfl⟩

set_option maxRecDepth 100000 in
set_option maxHeartbeats 1000000 in
theorem self_any (w : World) (n : Nat) (hn : n ≤ 50000) :
    Calls Try.prog 89 #[.int .i64 (n : Int)] w fun e w' => ∃ sa cap, e = .returned (.slice sa n cap) ∧ w'.ownsRow w.heap.size 3 1 (.slice sa n cap) n (i64s (rowL n)) ∧ Below w.heap.size w w' := by
  go_enter Try.func89, Try.ntmps89
  go_wp2_with (at_make; refine mk_i64 _ rfl _ _ rfl w.heap.size _ _ n rfl rfl ?hL ?hC ?hN ?hB ?_)
  case hL => rfl
  case hC => rfl
  case hN => omega
  case hB => exact Nat.le_refl _
  intro w3 hown3 hc3 hsz3
  have hB3 : Below w.heap.size w w3 := hc3.below (Nat.le_refl _) (fun _ h => h.elim)
  have HO3 := Lib.hid hown3; have HB3 := Lib.hid hB3
  clear hown3 hB3 hsz3 hc3
  go_wp2
  go_loopw [9] (fun i wr => ∃ k : Nat, k ≤ n ∧ i = .int .i64 k ∧ Hid (wr.ownsRow w.heap.size 3 1 (.slice (some ⟨w.heap.size, 0, none⟩) n n) n (i64s (rowL k ++ List.replicate (n - k) 0))) ∧ Hid (Below w.heap.size w wr)) (fun i _ => n - (intOf i).toNat)
  case atStart => exact ⟨0, Nat.zero_le _, rfl, HO3, HB3⟩
  case round =>
    obtain ⟨k, hk, rfl, HO, HB⟩ := hrel
    by_cases hlt : k < n
    · obtain ⟨g', hs3, hh1, hh2, hh3, hcell3, hfz3⟩ := row_ptr HO.out (by omega)
      cases hs3
      have cd := hcell3 k _ (i64s_at _ k (by simp [rowL_len]; omega))
      have fd := hfz3 k
      have hstep : (rowL k ++ List.replicate (n - k) 0).set k (k : Int) = rowL (k + 1) ++ List.replicate (n - (k + 1)) 0 := by
        rw [List.set_append_right _ _ (by rw [rowL_len]; exact Nat.le_refl _), rowL_len, Nat.sub_self, rowL_succ, List.append_assoc]
        have : n - k = (n - (k + 1)) + 1 := by omega
        rw [this, List.replicate_succ]
        rfl
      have HST := Lib.hid hstep
      generalize hy : (rowL k ++ List.replicate (n - k) 0).getD k 0 = y at *
      clear hstep hcell3 hfz3 hy
      go_wp2
      go_roundw
      case rel =>
        refine ⟨k + 1, by omega, by go_num, ?_, HB.out.setCell (p := ⟨w.heap.size, k, none⟩) (Nat.le_refl _) _⟩
        show World.ownsRow _ _ _ _ _ _ (i64s (rowL (k + 1) ++ List.replicate (n - (k + 1)) 0))
        rw [← HST.out, i64s_set]
        exact row_set HO.out hlt _
      case measure => simp [intOf]; omega
    · obtain rfl : k = n := by omega
      go_wp2
      go_ret
      refine ⟨_, _, rfl, ?_, HB.out⟩
      have := HO.out
      rw [Nat.sub_self, List.replicate_zero, List.append_nil] at this
      exact this

set_option maxRecDepth 100000 in
set_option maxHeartbeats 1000000 in
theorem subrow_any (w : World) (n : Nat) (hn : n ≤ 50000) :
    Calls Try.prog 77 #[.int .i64 (n : Int)] w fun e w' => ∃ sa cap, e = .returned (.slice sa n cap) ∧ w'.ownsRow w.heap.size 3 1 (.slice sa n cap) n (i64s (rowL n)) ∧ Below w.heap.size w w' := by
  have e := permL_row n
  have s := shRight_row n
  have E := Lib.hid e; have S := Lib.hid s; clear e s
  go_enter Try.func77, Try.ntmps77
  go_wp2_with fail
  refine (self_any _ n hn).mono ?_
  rintro e w1 ⟨s1, c1, rfl, hown1, hb1⟩
  have HO1 := Lib.hid hown1; have HB1 := Lib.hid hb1; clear hown1 hb1
  go_wp2_with fail
  refine (perm_ok _ _ _ (rowL n) (rd_of_row HO1.out) hn S.out).mono ?_
  rintro e w2 ⟨s2, c2, rfl, hown2, hb2⟩
  rw [E.out] at hown2
  have HO2 := Lib.hid hown2; have HB2 := Lib.hid hb2; clear hown2 hb2
  go_wp2
  go_ret
  exact ⟨s2, c2, rfl, row_mono HO2.out HB1.out.size, below_two HB1.out HB2.out⟩

theorem isS_prefix {n : Int} {l : List Int} (h : ∀ i, i < l.length → (0 ≤ l.getD i 0 ∧ l.getD i 0 < n) ∧ ∀ j, j < i → l.getD j 0 ≠ l.getD i 0) : IsS n l := by
  refine ⟨nodup_of_inj fun i j hi hj e => ?_, fun x hx => ?_⟩
  · rcases Nat.lt_trichotomy i j with h1 | h1 | h1
    · exact absurd e ((h j hj).2 i h1)
    · exact h1
    · exact absurd e.symm ((h i hi).2 j h1)
  · obtain ⟨i, hi, rfl⟩ := mem_getD hx
    exact (h i hi).1

end Go.Proofs.Ytcoohepkmhpdkaa
