/-
  Rotations of words of 64 bits: math/bits.RotateLeft64, load.Rot64, the document's Rot64.
-/
import Derived.Test.YtgnbgjdkhnhlkaaDoorPl
import Derived.Test.YtgnbgjdkhnhlkaaDoorBs
import Derived.Test.YtgnbgjdkhnhlkaaDoorDrvN
import Derived.Laws.Bits64b
import Derived.Deep.CutBlock
import Derived.Deep.DeepCutAuto
import Derived.Deep.RegionHeld3
import Derived.Lib.ItoaNum
namespace Go.Proofs.YtgnbgjdkhnhlkaaDoor
open Go.RowKit
set_option linter.unusedVariables false
set_option linter.unusedSimpArgs false

theorem swrapM (a : Nat) : IntKind.u64.wrap (a : Int) = ((a % 18446744073709551616 : Nat) : Int) := by rw [IntKind.wrap_u64]; omega
theorem sxorN (a b : Nat) (ha : a < 18446744073709551616) (hb : b < 18446744073709551616) : bits .xor .u64 (a : Int) (b : Int) = ((a ^^^ b : Nat) : Int) := bits_xor_u64_nat _ _ ha hb
theorem sorN {a p b : Nat} (s : Nat) (hp : p = 2 ^ s) (hb : b < p) (ha : a * p + b < 18446744073709551616) : bits .or .u64 ((a * p : Nat) : Int) (b : Int) = ((a * p + b : Nat) : Int) := by
  subst hp
  have h := bits_or_u64_nat (a * 2 ^ s) b (by omega) (by omega)
  rw [h, Nat.mul_comm a, Nat.two_pow_add_eq_or_of_lt hb]

/-- x << k | x >> (64 - k), k between 1 and 63 -/
theorem rot_or (x k p q : Nat) (hp : p = 2 ^ k) (hq : q = 2 ^ (64 - k)) (hk : k ≤ 64) (hx : x < 18446744073709551616) :
    bits .or .u64 (IntKind.u64.wrap ((x : Int) * (p : Int))) ((x : Int) / (q : Int)) = ((rotN x k : Nat) : Int) := by
  have hpq : p * q = 18446744073709551616 := by rw [hp, hq, ← Nat.pow_add, show k + (64 - k) = 64 by omega]
  have hp0 : 0 < p := by rw [hp]; exact Nat.two_pow_pos _
  have hq0 : 0 < q := by rw [hq]; exact Nat.two_pow_pos _
  have hlt : x / q < p := by rw [Nat.div_lt_iff_lt_mul hq0, hpq]; exact hx
  have e1 : x * p % 18446744073709551616 = (x % q) * p := by rw [← hpq, Nat.mul_comm p q, Nat.mul_mod_mul_right]
  have hb : (x % q) * p + x / q < 18446744073709551616 := by
    have h1 : x % q + 1 ≤ q := Nat.mod_lt _ hq0
    have h2 := Nat.mul_le_mul_right p h1
    rw [Nat.add_mul, Nat.one_mul, Nat.mul_comm q p, hpq] at h2
    omega
  have hr : rotN x k = (x % q) * p + x / q := by unfold rotN; rw [← hp, ← hq, e1]
  rw [hr, ← Int.natCast_mul, swrapM, e1, ← Int.natCast_ediv]
  exact sorN k hp hlt hb

theorem and63 (k : Nat) (hk : k < 64) : bits .and .u64 (k : Int) 63 = (k : Int) := by
  have h := bits_and_u64_nat k 63 (by omega) (by omega)
  have e : k &&& 63 = k % 64 := Nat.and_two_pow_sub_one_eq_mod k 6
  rw [e, Nat.mod_eq_of_lt hk] at h
  exact h

def IsRot (k : Nat) : Prop := k = 13 ∨ k = 16 ∨ k = 17 ∨ k = 21 ∨ k = 32

set_option maxRecDepth 100000 in
set_option maxHeartbeats 2000000 in
theorem rotl_any (x k : Nat) (hx : x < 18446744073709551616) (hk : IsRot k) (w : World) :
    Calls Tryd.prog 59 #[.int .u64 (x : Int), .int .i64 (k : Int)] w fun e w' => e = .returned (.int .u64 (rotN x k : Nat)) ∧ w' = w := by
  obtain ⟨r, hr⟩ : ∃ r, r = rotN x k := ⟨_, rfl⟩
  rw [← hr]
  rcases hk with rfl | rfl | rfl | rfl | rfl
  · have e : bits .or .u64 (IntKind.u64.wrap ((x : Int) * 8192)) ((x : Int) / 2251799813685248) = (r : Int) := by rw [hr]; exact rot_or x 13 8192 2251799813685248 rfl rfl (by decide) hx
    have a63 : bits .and .u64 13 63 = 13 := and63 13 (by decide)
    clear hr
    go_enter Tryd.func59, Tryd.ntmps59
    go_wp2
    go_ret
    exact ⟨rfl, rfl⟩
  · have e : bits .or .u64 (IntKind.u64.wrap ((x : Int) * 65536)) ((x : Int) / 281474976710656) = (r : Int) := by rw [hr]; exact rot_or x 16 65536 281474976710656 rfl rfl (by decide) hx
    have a63 : bits .and .u64 16 63 = 16 := and63 16 (by decide)
    clear hr
    go_enter Tryd.func59, Tryd.ntmps59
    go_wp2
    go_ret
    exact ⟨rfl, rfl⟩
  · have e : bits .or .u64 (IntKind.u64.wrap ((x : Int) * 131072)) ((x : Int) / 140737488355328) = (r : Int) := by rw [hr]; exact rot_or x 17 131072 140737488355328 rfl rfl (by decide) hx
    have a63 : bits .and .u64 17 63 = 17 := and63 17 (by decide)
    clear hr
    go_enter Tryd.func59, Tryd.ntmps59
    go_wp2
    go_ret
    exact ⟨rfl, rfl⟩
  · have e : bits .or .u64 (IntKind.u64.wrap ((x : Int) * 2097152)) ((x : Int) / 8796093022208) = (r : Int) := by rw [hr]; exact rot_or x 21 2097152 8796093022208 rfl rfl (by decide) hx
    have a63 : bits .and .u64 21 63 = 21 := and63 21 (by decide)
    clear hr
    go_enter Tryd.func59, Tryd.ntmps59
    go_wp2
    go_ret
    exact ⟨rfl, rfl⟩
  · have e : bits .or .u64 (IntKind.u64.wrap ((x : Int) * 4294967296)) ((x : Int) / 4294967296) = (r : Int) := by rw [hr]; exact rot_or x 32 4294967296 4294967296 rfl rfl (by decide) hx
    have a63 : bits .and .u64 32 63 = 32 := and63 32 (by decide)
    clear hr
    go_enter Tryd.func59, Tryd.ntmps59
    go_wp2
    go_ret
    exact ⟨rfl, rfl⟩

set_option maxRecDepth 100000 in
set_option maxHeartbeats 2000000 in
theorem rot64_any (x k : Nat) (hx : x < 18446744073709551616) (hk : IsRot k) (w : World) :
    Calls Tryd.prog 53 #[.int .u64 (x : Int), .int .i64 (k : Int)] w fun e w' => e = .returned (.int .u64 (rotN x k : Nat)) ∧ w' = w := by
  have C := rotl_any x k hx hk w
  have e1 : (k : Int) % 64 = (k : Int) := by rcases hk with h | h | h | h | h <;> omega
  have e2 : Int.tmod (k : Int) 64 = (k : Int) := by rcases hk with h | h | h | h | h <;> subst h <;> rfl
  generalize rotN x k = r at *
  go_enter Tryd.func53, Tryd.ntmps53
  go_wp2_with fail
  refine C.mono ?_
  rintro e w' ⟨rfl, rfl⟩
  go_wp2_with fail
  go_ret
  exact ⟨rfl, rfl⟩

set_option maxRecDepth 100000 in
set_option maxHeartbeats 2000000 in
theorem left_any (k : Nat) (hk : k < 64) (w : World) :
    Calls Tryd.prog 60 #[.int .i64 (k : Int), .int .i64 64] w fun e w' => e = .returned (.int .i64 (k : Int)) ∧ w' = w := by
  have e2 : Int.tmod (k : Int) 64 = (k : Int) := by rw [Int.tmod_eq_emod_of_nonneg (by omega)]; omega
  have e1 : (k : Int) % 64 = (k : Int) := by omega
  have hd : decide ((k : Int) < 0) = false := decide_eq_false (by omega)
  go_enter Tryd.func60, Tryd.ntmps60
  go_wp2
  go_ret
  exact ⟨rfl, rfl⟩

set_option maxRecDepth 100000 in
set_option maxHeartbeats 2000000 in
theorem refrot_any (x k : Nat) (hx : x < 18446744073709551616) (hk : k < 64) (w : World) :
    Calls Tryd.prog 54 #[.int .u64 (x : Int), .int .i64 (k : Int)] w fun e w' => e = .returned (.int .u64 (rotN x k : Nat)) ∧ w' = w := by
  have C := left_any k hk w
  obtain ⟨r, hr⟩ : ∃ r, r = rotN x k := ⟨_, rfl⟩
  rw [← hr]
  have HR := Lib.hid hr; have HX := Lib.hid hx
  clear hr
  go_enter Tryd.func54, Tryd.ntmps54
  go_wp2_with fail
  go_loop [0, 5] (fun s i => ∃ j y : Nat, j ≤ k ∧ i = .int .i64 (j : Int) ∧ s = .int .u64 (y : Int) ∧ Hid (y = rotN x j)) (fun _ i => k - (intOf i).toNat)
  case atStart => exact ⟨0, x, Nat.zero_le _, rfl, rfl, Lib.hid (rot_zero x hx).symm⟩
  case round =>
    obtain ⟨j, y, hj, rfl, rfl, HY⟩ := hrel
    by_cases hlt : j < k
    · have hs := rot_succ x j HX.out (by omega)
      rw [← HY.out] at hs
      obtain ⟨hs1, hs2⟩ := hs
      have hle := rotN_lt x (j + 1)
      have e1 : IntKind.u64.wrap ((y : Int) * 2) = ((y * 2 % 18446744073709551616 : Nat) : Int) := by
        rw [show (y : Int) * 2 = ((y * 2 : Nat) : Int) by omega, swrapM]
      have e2 : IntKind.u64.wrap (((y * 2 % 18446744073709551616 : Nat) : Int) + (y : Int) / 9223372036854775808) = ((rotN x (j + 1) : Nat) : Int) := by
        rw [← hs1, show (((y * 2 % 18446744073709551616 : Nat) : Int) + (y : Int) / 9223372036854775808) = ((y * 2 % 18446744073709551616 + y / 9223372036854775808 : Nat) : Int) by omega, swrapM]
        have h2 : y * 2 % 18446744073709551616 + y / 9223372036854775808 < 18446744073709551616 := by omega
        rw [Nat.mod_eq_of_lt h2]
      obtain ⟨z, hz⟩ : ∃ z, z = rotN x (j + 1) := ⟨_, rfl⟩
      rw [← hz] at e2
      have HZ := Lib.hid hz
      clear hz hs1 hle
      generalize y * 2 % 18446744073709551616 = u at *
      go_wp2_with fail
      refine C.mono ?_
      rintro e w' ⟨rfl, rfl⟩
      go_wp2_with fail
      go_round
      case rel => exact ⟨j + 1, z, by omega, by go_num, rfl, HZ⟩
      case measure => simp [intOf]; omega
    · obtain rfl : j = k := by omega
      obtain rfl : y = r := HY.out.trans HR.out.symm
      go_wp2_with fail
      refine C.mono ?_
      rintro e w' ⟨rfl, rfl⟩
      go_wp2_with fail
      go_ret
      exact ⟨rfl, rfl⟩

end Go.Proofs.YtgnbgjdkhnhlkaaDoor
