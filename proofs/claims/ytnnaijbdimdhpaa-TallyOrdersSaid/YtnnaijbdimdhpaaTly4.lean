/-
  tally.Lemire and tally.Mask.
-/
import Derived.Test.YtnnaijbdimdhpaaTly3
namespace Go.Proofs.Ytnnaijbdimdhpaa
open Go.RowKit Go.Shelf
set_option linter.unusedVariables false

set_option maxRecDepth 100000 in
set_option maxHeartbeats 2000000 in
theorem lemTell_any (m n x nb wb : Nat) (W : World) (hm1 : 1 ≤ m) (hm : m ≤ 12) (hn0 : 0 < n) (hnN : n ≤ 2 ^ m) (hx : x < 2 ^ m) (cn : W.cell? ⟨nb, 0, none⟩ = some (.int .u64 n)) (cw : W.cell? ⟨wb, 0, none⟩ = some (.int .i64 m)) :
    Calls Try.prog 44 #[.int .u64 x, .pointer (some ⟨nb, 0, none⟩), .pointer (some ⟨wb, 0, none⟩)] W fun e W' => e = .returned (.tuple #[.int .u64 (x * n / 2 ^ m : Nat), .bool (lemT (2 ^ m) n x).isSome]) ∧ Below W.heap.size W W' := by
  obtain ⟨N, hN⟩ : ∃ N, N = 2 ^ m := ⟨_, rfl⟩
  have hN64 : N ≤ 4096 := by rw [hN]; exact Nat.pow_le_pow_right (j := 12) (by omega) hm
  have hpw : IntKind.u64.wrap ((2 : Int) ^ m) = (N : Int) := by
    rw [show ((2 : Int) ^ m) = (N : Int) by rw [hN]; simp, IntKind.wrap_u64]; omega
  obtain ⟨M, hM⟩ : ∃ M, M = x * n := ⟨_, rfl⟩
  have hMb : M ≤ 4096 * 4096 := by rw [hM]; exact Nat.mul_le_mul (by omega) (by omega)
  have hmul : IntKind.u64.wrap ((x : Int) * (n : Int)) = (M : Int) := by
    rw [show ((x : Int) * (n : Int)) = (M : Int) by rw [hM]; simp, IntKind.wrap_u64]; omega
  have hband : bits .and .u64 (M : Int) ((N : Int) - 1) = ((M % N : Nat) : Int) := by
    have hN1 : 0 < 2 ^ m := Nat.two_pow_pos m
    rw [show ((N : Int) - 1) = (((2 ^ m - 1 : Nat)) : Int) by rw [hN]; omega, bits_and_u64_nat _ _ (by omega) (by rw [← hN]; omega), Nat.and_two_pow_sub_one_eq_mod, hN]
  have hdiv : (M : Int) / (2 : Int) ^ m = ((M / N : Nat) : Int) := by rw [show ((2 : Int) ^ m) = (N : Int) by rw [hN]; simp]; omega
  have HN := Lib.hid hN
  have HM := Lib.hid hM
  have hN0 : 0 < N := by rw [hN]; exact Nat.two_pow_pos m
  rw [← hN, ← hM]
  rw [← hN] at hnN hx
  clear hN hM
  go_enter Try.func44, Try.ntmps44
  go_wp2
  go_region
  all_goals go_wp2
  refine bodyPost_ret (results_tmp2 rfl _ _ _) rfl ?_
  refine ⟨?_, (Below.refl _ W).drew⟩
  have e1 : ((M : Int) / (N : Int)) = ((M / N : Nat) : Int) := by omega
  have : decide ((N : Int) % (n : Int) ≤ (M : Int) % (N : Int)) = (lemT N n x).isSome := by
    unfold lemT
    rw [← HM.out]
    by_cases h : M % N < N % n
    · rw [if_pos h]; simp only [Option.isSome_none, decide_eq_false_iff_not]; omega
    · rw [if_neg h]; simp only [Option.isSome_some, decide_eq_true_eq]; omega
  rw [this, e1]
  rfl

theorem cntL_lem {N n : Nat} (hn : 0 < n) (hN : n ≤ N) : cntL (lemT N n) n (List.range N) = List.replicate n ((N / n : Nat) : Int) := by
  apply List.ext_getElem
  · simp [cntL]
  · intro j h1 h2
    have hj : j < n := by simpa [cntL] using h1
    simp only [cntL, List.getElem_map, List.getElem_range, List.getElem_replicate]
    rw [lem_each hn hN hj]

set_option maxRecDepth 100000 in
set_option maxHeartbeats 2000000 in
theorem lemire_ok (m n : Nat) (w : World) (hm1 : 1 ≤ m) (hm : m ≤ 12) (hn0 : 0 < n) (hnN : n ≤ 2 ^ m) :
    Calls Try.prog 11 #[.int .i64 m, .int .u64 n] w fun e w' =>
      ∃ b, e = .returned (.tuple #[.slice (some ⟨b, 0, none⟩) n n, .int .u64 (2 ^ m % n : Nat), .int .i64 0]) ∧ Rd w' 1 (.slice (some ⟨b, 0, none⟩) n n) n (u64s (List.replicate n ((2 ^ m / n : Nat) : Int))) ∧ Below w.heap.size w w' := by
  have hpos : 0 < 2 ^ m := Nat.two_pow_pos m
  obtain ⟨W1, e1, s1, n1, k1⟩ := alloc_facts w (.cells #[.int .i64 m] 3)
  obtain ⟨W2, e2, s2, n2, k2⟩ := alloc_facts W1 (.cells #[.int .u64 n] 22)
  rw [s1] at n2 s2
  have cn : W2.cell? ⟨w.heap.size + 1, 0, none⟩ = some (.int .u64 n) := cell0_of n2
  have cw : W2.cell? ⟨w.heap.size, 0, none⟩ = some (.int .i64 m) := cell0_of ((k2 _ (by omega)).trans n1)
  have hb2 : Below w.heap.size w W2 := by rw [e2, e1]; exact ((Below.refl _ w).alloc (Nat.le_refl _) _).alloc (by simp) _
  have hev := even_ok m n 44 #[.pointer (some ⟨w.heap.size + 1, 0, none⟩), .pointer (some ⟨w.heap.size, 0, none⟩)] (lemT (2 ^ m) n) W2 (enters_of Try.func44 (by kernel_rfl) rfl) hm1 hm hn0 hnN
    (fun x v hx h => lemT_lt hnN hn0 hx h) (fun x W hx hb => (lemTell_any m n x _ _ W hm1 hm hn0 hnN hx ((hb.cell (p := ⟨w.heap.size + 1, 0, none⟩) (by show w.heap.size + 1 < _; omega)).trans cn) ((hb.cell (p := ⟨w.heap.size, 0, none⟩) (by show w.heap.size < _; omega)).trans cw)).mono (by
      rintro e W' ⟨he, hb'⟩
      refine ⟨_, he, fun v hv => ?_, hb'⟩
      unfold lemT at hv
      split at hv
      · cases hv
      · exact Option.some.inj hv))
  rw [cntL_lem hn0 hnN, show cntN (lemT (2 ^ m) n) (List.range (2 ^ m)) = 2 ^ m % n from lem_lost hn0 hnN] at hev
  generalize hR1 : ((2 ^ m % n : Nat) : Int) = R1 at hev ⊢
  generalize hR2 : ((2 ^ m / n : Nat) : Int) = R2 at hev ⊢
  clear hR1 hR2 hpos
  go_enter Try.func11, Try.ntmps11
  go_wp2_with (go_at_call 43; rw [← e1, ← e2]; refine hev.mono ?_; rintro e w' ⟨b, rfl, hr, hb⟩)
  refine bodyPost_ret (results_tmp3 rfl _ _ _) rfl ?_
  exact ⟨b, rfl, hr, hb2.trans (hb.mono hb2.size)⟩

end Go.Proofs.Ytnnaijbdimdhpaa
