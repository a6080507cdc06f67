/-
  Plain mathematics of numbers drawn by a mask: how many bits a limit less 1 has, which words are taken.
  The program's mask: Bits, low, Takes, Rank; the reference's Bits, Tells, Takes.
-/
import Derived.Test.YtcoohepkmhpdkaaGreatDraw
import Derived.Lib.BitFns
import Derived.Test.YtcoohepkmhpdkaaGreatTape
import Derived.Deep.QuietTactic
import Derived.Laws.Bits64b
namespace Go.Proofs.YtcoohepkmhpdkaaGreat
set_option linter.unusedSimpArgs false

/-- how many bits a limit less 1 has -/
def bitM (n : Nat) : Nat := if n = 0 then 0 else Lib.bitLen (n - 1)
theorem bitLen_zero : Lib.bitLen 0 = 0 := by decide
theorem bitLen_facts {x : Nat} (h : x < 2 ^ 64) : Lib.bitLen x ≤ 64 ∧ x < 2 ^ Lib.bitLen x ∧ (Lib.bitLen x = 0 ↔ x = 0) ∧ (0 < x → 2 ^ (Lib.bitLen x - 1) ≤ x) := by
  by_cases h0 : x = 0
  · subst h0; rw [bitLen_zero]; simp
  · obtain ⟨h1, h2, h3⟩ := Lib.bitLenAux_bounds 64 x h (by omega)
    have h4 := Lib.bitLen_le x 64 (by omega) h
    unfold Lib.bitLen at *
    exact ⟨h4, h3, ⟨fun e => by omega, fun e => absurd e h0⟩, fun _ => h2⟩
/-- the number of bits is the one place behind the highest bit that is set -/
theorem bitLen_uniq {x r : Nat} (h : x < 2 ^ 64) (h1 : x < 2 ^ r) (h2 : r ≠ 0 → 2 ^ (r - 1) ≤ x) : Lib.bitLen x = r := by
  obtain ⟨a, b, c, d⟩ := bitLen_facts h
  generalize Lib.bitLen x = s at *
  rcases Nat.lt_trichotomy s r with h3 | h3 | h3
  · have h4 := h2 (by omega)
    have h5 : 2 ^ s ≤ 2 ^ (r - 1) := Nat.pow_le_pow_right (by decide) (by omega)
    omega
  · exact h3
  · have hx : 0 < x := by
      rcases Nat.eq_zero_or_pos x with h0 | h0
      · have := c.2 h0; omega
      · exact h0
    have h4 := d hx
    have h5 : 2 ^ r ≤ 2 ^ (s - 1) := Nat.pow_le_pow_right (by decide) (by omega)
    omega
theorem bitM_le {n : Nat} (hn : n < 2 ^ 64) : bitM n ≤ 64 := by
  unfold bitM
  split
  · exact Nat.zero_le _
  · exact (bitLen_facts (by omega)).1

/-- whether a word is taken, what it tells, its rank -/
def tmB (a n : Nat) : Bool := decide (0 < n ∧ a % 2 ^ bitM n < n)
def telM (a n : Nat) : Nat := a % 2 ^ bitM n
def rnkM (a n : Nat) : Nat := a / 2 ^ bitM n
/-- one draw by a mask; u words came before -/
def takeM (n : Nat) : Nat → List Nat → Option Drw
  | _, [] => none
  | u, a :: l => if tmB a n = true then some (telM a n, rnkM a n, u + 1) else takeM n (u + 1) l
theorem takeM_yes {n u k : Nat} {l : List Nat} (h : k < l.length) (ht : tmB (l.getD k 0) n = true) : takeM n u (l.drop k) = some (telM (l.getD k 0) n, rnkM (l.getD k 0) n, u + 1) := by
  rw [drop_cons h]
  simp only [takeM, ht, if_true]
theorem takeM_no {n u k : Nat} {l : List Nat} (h : k < l.length) (ht : tmB (l.getD k 0) n = false) : takeM n u (l.drop k) = takeM n (u + 1) (l.drop (k + 1)) := by
  rw [drop_cons h]
  simp only [takeM, ht]
  simp
theorem takeM_end {n u : Nat} {l : List Nat} : takeM n u (l.drop l.length) = none := by simp [takeM]
theorem takeM_used : ∀ {l : List Nat} {n u : Nat} {d : Drw}, takeM n u l = some d → u < d.2.2 ∧ d.2.2 ≤ u + l.length
  | [], n, u, d, h => by simp [takeM] at h
  | a :: l, n, u, d, h => by
    by_cases ht : tmB a n = true
    · simp only [takeM, ht, if_true, Option.some.injEq] at h
      subst h
      simp
    · simp only [takeM, ht] at h
      have := takeM_used (l := l) (n := n) (u := u + 1) (d := d) (by simpa using h)
      simp only [List.length_cons]
      omega
theorem telM_lt {a n : Nat} (h : tmB a n = true) : telM a n < n := by
  unfold tmB at h
  simp only [decide_eq_true_eq] at h
  exact h.2

end Go.Proofs.YtcoohepkmhpdkaaGreat

namespace Go.Proofs.YtcoohepkmhpdkaaGreat
open Go.RowKit
set_option linter.unusedVariables false
set_option linter.unusedSimpArgs false

theorem len64_any (w : World) (m : Nat) (h : m < 2 ^ 64) :
    Calls Tryz.prog 156 #[.int .u64 (m : Int)] w fun e w' => e = .returned (.int .i64 (Lib.bitLen m : Int)) ∧ w = w' := by
  rw [p64] at h
  refine (Tryz.bits_Len64 (m : Int) w (by omega) (by omega)).mono ?_
  rintro e w' ⟨rfl, rfl⟩
  exact ⟨by rw [Int.toNat_natCast], rfl⟩

set_option maxRecDepth 100000 in
set_option maxHeartbeats 1000000 in
theorem mbits_any (w : World) (n : Nat) (h : n < 2 ^ 64) :
    Calls Tryz.prog 131 #[.int .u64 (n : Int)] w fun e w' => e = .returned (.int .i64 (bitM n : Int)) ∧ w = w' := by
  by_cases h0 : n = 0
  · subst h0
    clear h
    go_enter Tryz.func131, Tryz.ntmps131
    go_wp2
    go_ret
    exact ⟨rfl, rfl⟩
  · obtain ⟨m, rfl⟩ : ∃ m, n = m + 1 := ⟨n - 1, by omega⟩
    have C := Lib.hid (fun w => len64_any w m (by omega))
    have HM := Lib.hid (show bitM (m + 1) = Lib.bitLen m by simp [bitM])
    obtain ⟨M, hM⟩ : ∃ M, M = Lib.bitLen m := ⟨_, rfl⟩
    rw [← hM] at C HM
    rw [p64] at h
    have h1 : m + 1 ≤ 18446744073709551615 := by omega
    clear h h0 hM
    go_enter Tryz.func131, Tryz.ntmps131
    go_wp2_with fail
    refine (C.out _).mono ?_
    rintro e w' ⟨rfl, rfl⟩
    go_wp2_with fail
    go_ret
    exact ⟨ret_int (by rw [HM.out]), rfl⟩

theorem telM_nat (a n : Nat) : telM a n = a % 2 ^ bitM n := rfl
theorem andM (a r : Nat) (ha : a < 18446744073709551616) (hr : r ≤ 64) : bits .and .u64 (a : Int) (((2 ^ r - 1 : Nat)) : Int) = ((a % 2 ^ r : Nat) : Int) := by
  have hp : 2 ^ r ≤ 2 ^ 64 := Nat.pow_le_pow_right (by decide) hr
  rw [p64] at hp
  have h0 := pow_pos2 r
  have h := bits_and_u64_nat a (2 ^ r - 1) ha (by omega)
  rw [Nat.and_two_pow_sub_one_eq_mod] at h
  exact h

theorem maskW (a r : Nat) (ha : a < 18446744073709551616) (hr : r ≤ 64) : bits .and .u64 (a : Int) (IntKind.u64.wrap (IntKind.u64.wrap ((2 : Int) ^ r) - 1)) = ((a % 2 ^ r : Nat) : Int) := by
  have e : IntKind.u64.wrap (IntKind.u64.wrap ((2 : Int) ^ r) - 1) = (((2 ^ r - 1 : Nat)) : Int) := by
    have hp : 2 ^ r ≤ 2 ^ 64 := Nat.pow_le_pow_right (by decide) hr
    rw [p64] at hp
    have h0 := pow_pos2 r
    have e1 : (2 : Int) ^ r = ((2 ^ r : Nat) : Int) := by rw [Int.natCast_pow]; rfl
    rw [e1]
    generalize 2 ^ r = p at *
    rw [IntKind.wrap_u64, IntKind.wrap_u64]
    omega
  rw [e]
  exact andM a r ha hr

set_option maxRecDepth 100000 in
set_option maxHeartbeats 1000000 in
theorem mlow_any (w : World) (a n : Nat) (ha : a < 2 ^ 64) (hn : n < 2 ^ 64) :
    Calls Tryz.prog 96 #[.int .u64 (a : Int), .int .u64 (n : Int)] w fun e w' => e = .returned (.int .u64 (telM a n : Int)) ∧ w = w' := by
  have C := Lib.hid (fun w => mbits_any w n hn)
  have hr := bitM_le hn
  have HT := Lib.hid (telM_nat a n)
  rw [p64] at ha
  have HA := Lib.hid (maskW a (bitM n) ha hr)
  generalize bitM n = r at *
  clear hn
  go_enter Tryz.func96, Tryz.ntmps96
  go_wp2_with fail
  refine (C.out _).mono ?_
  rintro e w' ⟨rfl, rfl⟩
  go_wp2_with fail
  go_ret
  exact ⟨ret_int (by rw [HT.out, ← HA.out]), rfl⟩

theorem tmB_dec (a n : Nat) (h0 : 0 < n) : tmB a n = decide (telM a n < n) := decide_eq_decide.2 ⟨fun h => h.2, fun h => ⟨h0, h⟩⟩

set_option maxRecDepth 100000 in
set_option maxHeartbeats 1000000 in
theorem mtakes_any (w : World) (a n : Nat) (h0 : 0 < n) (ha : a < 2 ^ 64) (hn : n < 2 ^ 64) :
    Calls Tryz.prog 49 #[.int .u64 (a : Int), .int .u64 (n : Int)] w fun e w' => e = .returned (.bool (tmB a n)) ∧ w = w' := by
  have C := Lib.hid (mlow_any w a n ha hn)
  have HB := Lib.hid (tmB_dec a n h0)
  have q0 : (0 : Int) < (n : Int) := by omega
  generalize telM a n = t at *
  clear ha hn
  go_enter Tryz.func49, Tryz.ntmps49
  go_wp2_with fail
  refine C.out.mono ?_
  rintro e w' ⟨rfl, rfl⟩
  go_wp2_with fail
  go_ret
  exact ⟨ret_bool (by rw [HB.out]), rfl⟩

set_option maxRecDepth 100000 in
set_option maxHeartbeats 1000000 in
theorem mrank_any (w : World) (a n : Nat) (ha : a < 2 ^ 64) (hn : n < 2 ^ 64) (ht : tmB a n = true) :
    Calls Tryz.prog 98 #[.int .u64 (a : Int), .int .u64 (n : Int)] w fun e w' => e = .returned (.tuple #[.int .u64 (telM a n : Int), .int .u64 (rnkM a n : Int), .int .i64 0]) ∧ Below w.heap.size w w' := by
  have h0 : 0 < n := by
    unfold tmB at ht
    simp only [decide_eq_true_eq] at ht
    exact ht.1
  have C := Lib.hid (mtakes_any w a n h0 ha hn)
  rw [ht] at C
  have L := Lib.hid (fun w => (mlow_any w a n ha hn).mono fun e w' (h : _ ∧ w = w') => (⟨h.1, h.2.symm⟩ : _ ∧ w' = w))
  have B := Lib.hid (fun w => (mbits_any w n hn).mono fun e w' (h : _ ∧ w = w') => (⟨h.1, h.2.symm⟩ : _ ∧ w' = w))
  have hr := bitM_le hn
  have q0 : ((n : Int) == 0) = false := by simp; omega
  have hk : rnkM a n = a / 2 ^ bitM n := rfl
  generalize telM a n = t at *
  generalize rnkM a n = k at *
  generalize bitM n = r at *
  rw [p64] at ha
  have HK := Lib.hid hk
  clear hn ht h0 hk
  go_enter Tryz.func98, Tryz.ntmps98
  go_wp2_with fail
  refine C.out.mono ?_
  rintro e w' ⟨rfl, rfl⟩
  go_wp2_with fail
  go_quiet (first | ((go_at_call 96; exact Calls.quiet_of_same (L.out _))) | ((go_at_call 131; exact Calls.quiet_of_same (B.out _))))
  go_wp2_with fail
  go_ret3
  refine ⟨?_, below_drewN' (Below.refl _ _) nq⟩
  rw [HK.out, ← shrN]
  rfl

end Go.Proofs.YtcoohepkmhpdkaaGreat
