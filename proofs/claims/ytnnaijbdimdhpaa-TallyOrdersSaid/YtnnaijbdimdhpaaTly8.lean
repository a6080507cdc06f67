/-
  tally.even at errors.
-/
import Derived.Test.YtnnaijbdimdhpaaTly7
namespace Go.Proofs.Ytnnaijbdimdhpaa
open Go.RowKit Go.Shelf
set_option linter.unusedVariables false
attribute [local go_sem] Oper.semAt_some

set_option maxRecDepth 100000 in
set_option maxHeartbeats 2000000 in
theorem even_bad (m n : Int) (g : Nat) (lb : Array Value) (w : World) (hn : 0 ≤ n ∧ n < 18446744073709551616) (hE : wordsE m n ≠ 0) :
    Calls Try.prog 43 #[.int .i64 m, .int .u64 n, .func (.func g) #[] lb] w fun e w' => e = .returned (.tuple #[.slice none 0 0, .int .u64 0, .int .i64 (wordsE m n)]) ∧ Below w.heap.size w w' := by
  obtain ⟨E, hEE⟩ : ∃ E, E = wordsE m n := ⟨_, rfl⟩
  rw [← hEE] at hE ⊢
  unfold wordsE at hEE
  have hbw : Below w.heap.size w (w.alloc (.cells #[.func (.func g) #[] lb] 72)) := (Below.refl _ w).alloc (Nat.le_refl _) _
  refine (callsIn_wide (n := 0)).1 ?_
  refine callsIn_of_wp_marks Try.func43 rfl trivial ?_ rfl
  simp only [Try.ntmps43, List.size_toArray, List.length_cons, List.length_nil, Nat.reduceAdd, Nat.reduceSub, Array.replicate_succ, Array.replicate_zero, List.push_toArray, List.append_toArray, List.nil_append, List.cons_append]
  by_cases h1 : m < 1
  · rw [if_pos (.inl h1)] at hEE
    subst hEE
    gi_wp2
    exact ⟨_, results_tmp3 rfl _ _ _, rfl, hbw⟩
  · by_cases h2 : 12 < m
    · rw [if_pos (.inr h2)] at hEE
      subst hEE
      gi_wp2
      exact ⟨_, results_tmp3 rfl _ _ _, rfl, hbw⟩
    · rw [if_neg (by omega)] at hEE
      obtain ⟨k, rfl⟩ : ∃ k : Nat, m = k := ⟨m.toNat, by omega⟩
      obtain ⟨N, hN⟩ : ∃ N, N = 2 ^ k := ⟨_, rfl⟩
      have hN64 : N ≤ 4096 := by rw [hN]; exact Nat.pow_le_pow_right (n := 2) (j := 12) (by omega) (by omega)
      have hpw : IntKind.u64.wrap ((2 : Int) ^ k) = (N : Int) := by
        rw [show ((2 : Int) ^ k) = (N : Int) by rw [hN]; simp, IntKind.wrap_u64]; omega
      rw [Int.toNat_natCast, ← hN] at hEE
      clear hN
      by_cases h3 : n = 0
      · subst h3
        rw [if_pos rfl] at hEE
        subst hEE
        gi_wp2
        exact ⟨_, results_tmp3 rfl _ _ _, rfl, hbw⟩
      · rw [if_neg h3] at hEE
        have h3b : (n == 0) = false := by rw [beq_eq_false_iff_ne]; exact h3
        have h4 : (N : Int) < n := by
          refine Int.not_le.1 fun h => hE ?_
          rw [hEE, if_neg (by omega)]
        rw [if_pos h4] at hEE
        subst hEE
        gi_wp2
        exact ⟨_, results_tmp3 rfl _ _ _, rfl, hbw⟩

set_option maxRecDepth 100000 in
set_option maxHeartbeats 2000000 in
theorem lemire_bad (m n : Int) (w : World) (hn : 0 ≤ n ∧ n < 18446744073709551616) (hE : wordsE m n ≠ 0) :
    Calls Try.prog 11 #[.int .i64 m, .int .u64 n] w fun e w' => e = .returned (.tuple #[.slice none 0 0, .int .u64 0, .int .i64 (wordsE m n)]) ∧ Below w.heap.size w w' := by
  obtain ⟨W1, e1, s1, n1, k1⟩ := alloc_facts w (.cells #[.int .i64 m] 3)
  obtain ⟨W2, e2, s2, n2, k2⟩ := alloc_facts W1 (.cells #[.int .u64 n] 22)
  have hb2 : Below w.heap.size w W2 := by rw [e2, e1]; exact ((Below.refl _ w).alloc (Nat.le_refl _) _).alloc (by simp) _
  have hev := even_bad m n 44 #[.pointer (some ⟨w.heap.size + 1, 0, none⟩), .pointer (some ⟨w.heap.size, 0, none⟩)] W2 hn hE
  generalize wordsE m n = E at hev ⊢
  go_enter Try.func11, Try.ntmps11
  go_wp2_with (go_at_call 43; rw [← e1, ← e2]; refine hev.mono ?_; rintro e w' ⟨rfl, hb⟩)
  refine bodyPost_ret (results_tmp3 rfl _ _ _) rfl ?_
  exact ⟨rfl, hb2.trans (hb.mono hb2.size)⟩

set_option maxRecDepth 100000 in
set_option maxHeartbeats 2000000 in
theorem mask_bad (m n : Int) (w : World) (hn : 0 ≤ n ∧ n < 18446744073709551616) (hE : wordsE m n ≠ 0) :
    Calls Try.prog 12 #[.int .i64 m, .int .u64 n] w fun e w' => e = .returned (.tuple #[.slice none 0 0, .int .u64 0, .int .i64 (wordsE m n)]) ∧ Below w.heap.size w w' := by
  obtain ⟨W1, e1, s1, n1, k1⟩ := alloc_facts w (.cells #[.int .u64 n] 22)
  obtain ⟨W2, e2, s2, n2, k2⟩ := alloc_facts W1 (.cells #[.int .i64 0] 3)
  rw [s1] at n2 s2
  have hb2 : Below w.heap.size w W2 := by rw [e2, e1]; exact ((Below.refl _ w).alloc (Nat.le_refl _) _).alloc (by simp) _
  have g1 : W2.heap[w.heap.size]? = some (.cells #[.int .u64 n] 22 (0, 0)) := (k2 _ (by omega)).trans n1
  have hev := fun V => even_bad m n 45 #[.pointer (some ⟨w.heap.size + 1, 0, none⟩), .pointer (some ⟨w.heap.size, 0, none⟩)] V hn hE
  generalize wordsE m n = E at hev ⊢
  clear hE
  go_enter Try.func12, Try.ntmps12
  go_wp2
  rw [← e1, ← e2]
  go_loopw [] (fun wr => ∃ b : Nat, b ≤ 12 ∧ wr.heap[w.heap.size]? = some (.cells #[.int .u64 n] 22 (0, 0)) ∧ wr.heap[w.heap.size + 1]? = some (.cells #[.int .i64 b] 3 (0, 0)) ∧ Hid (Below w.heap.size w wr))
    (fun wr => match wr.cell? ⟨w.heap.size + 1, 0, none⟩ with | some (.int _ z) => 12 - z.toNat | _ => 0)
  case atStart => exact ⟨0, by omega, g1, n2, hb2⟩
  case round =>
    obtain ⟨b, hb, h1, h2, HW⟩ := hrel
    have c1 := cell0_of h1
    have c2 := cell0_of h2
    have f2 := frozen_of h2 0
    obtain ⟨N, hN⟩ : ∃ N, N = 2 ^ b := ⟨_, rfl⟩
    have hNb : N ≤ 4096 := by rw [hN]; exact Nat.pow_le_pow_right (n := 2) (j := 12) (by omega) hb
    have hpw : IntKind.u64.wrap ((2 : Int) ^ b) = (N : Int) := by
      rw [show ((2 : Int) ^ b) = (N : Int) by rw [hN]; simp, IntKind.wrap_u64]; omega
    by_cases hlt : (N : Int) < n ∧ b < 12
    · obtain ⟨hlt1, hb12⟩ := hlt
      have hs2 := set_of h2 0 (.int .i64 ((b : Int) + 1))
      have H1 := Lib.hid h1; have HS2 := Lib.hid hs2
      clear hN h1 h2 hs2 hev
      go_wp2
      go_region
      all_goals go_wp2
      refine ⟨⟨b + 1, by omega, (Below.heap_setCell _ _ _ _ (by show w.heap.size ≠ w.heap.size + 1; omega)).trans H1.out, by have := HS2.out; rw [show (#[Value.int .i64 (b : Int)].setIfInBounds 0 (.int .i64 ((b : Int) + 1))) = #[.int .i64 (((b + 1 : Nat)) : Int)] from rfl] at this; exact this, (HW.out.setCell (by show w.heap.size ≤ w.heap.size + 1; omega) _).drew⟩, ?_⟩
      have e := World.cell?_setCell_same' (w := wr) (a := ⟨w.heap.size + 1, 0, none⟩) (v := .int .i64 ((b : Int) + 1)) (by rw [c2]; rfl)
      rw [show (wr.setCell ⟨w.heap.size + 1, 0, none⟩ (.int .i64 ((b : Int) + 1))).drew.cell? ⟨w.heap.size + 1, 0, none⟩ = some (.int .i64 ((b : Int) + 1)) from e, c2]
      simp only
      omega
    · have hcall := hev wr.drew
      clear hN h1 h2 hev
      by_cases hq : (N : Int) < n
      · have hbz : decide ((b : Int) < 12) = false := by rw [decide_eq_false_iff_not]; omega
        have hb12 : ¬ (b : Int) < 12 := by omega
        have hqd : decide ((N : Int) < n) = true := by rw [decide_eq_true_eq]; exact hq
        clear hlt
        go_wp2
        go_region
        all_goals go_wp2_with (go_at_call 43; refine hcall.mono ?_; rintro e w' ⟨rfl, hbq⟩)
        refine bodyPost_ret (results_tmp3 rfl _ _ _) rfl ?_
        exact ⟨rfl, HW.out.drew.trans (hbq.mono HW.out.size)⟩
      · have hqd : decide ((N : Int) < n) = false := by rw [decide_eq_false_iff_not]; exact hq
        clear hlt
        go_wp2
        go_region
        all_goals go_wp2_with (go_at_call 43; refine hcall.mono ?_; rintro e w' ⟨rfl, hbq⟩)
        refine bodyPost_ret (results_tmp3 rfl _ _ _) rfl ?_
        exact ⟨rfl, HW.out.drew.trans (hbq.mono HW.out.size)⟩

end Go.Proofs.Ytnnaijbdimdhpaa
