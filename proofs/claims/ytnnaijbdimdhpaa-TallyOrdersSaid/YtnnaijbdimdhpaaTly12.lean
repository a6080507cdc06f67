/-
  The reference's Odd.
-/
import Derived.Test.YtnnaijbdimdhpaaTly11
namespace Go.Proofs.Ytnnaijbdimdhpaa
open Go.RowKit Go.Shelf
set_option linter.unusedVariables false

theorem oddN_even (N S x y : Nat) (pre : List Nat) (a : Nat) (h : a % 2 = 0) : oddN N S x y (pre ++ [a]) = oddN N S x y pre := by
  rw [oddN_snoc, if_neg (by omega)]; rfl

set_option maxRecDepth 100000 in
set_option maxHeartbeats 2000000 in
theorem refOdd_any (m b s x y : Nat) (w : World) (hm1 : 1 ≤ m) (hm : m ≤ 12) (hb1 : 1 ≤ b) (hs : m = s + b) (hx : x < 2 ^ m) (hy : y < 2 ^ m) :
    Calls Try.prog 23 #[.int .i64 m, .int .i64 b, .int .u64 x, .int .u64 y] w fun e w' => e = .returned (.int .u64 (oddC (2 ^ m) (2 ^ s) x y)) ∧ ∃ n, w' = w.drewN n := by
  have hp1 := fun W => power_any m W (by omega)
  have hp2 := fun W => power_any s W (by omega)
  have hsub : (m : Int) - (b : Int) = (s : Int) := by omega
  obtain ⟨N, hN⟩ : ∃ N, N = 2 ^ m := ⟨_, rfl⟩
  have hN64 : N ≤ 4096 := by rw [hN]; exact Nat.pow_le_pow_right (n := 2) (j := 12) (by omega) hm
  have hN2 : N % 2 = 0 := by
    obtain ⟨k, rfl⟩ : ∃ k, m = k + 1 := ⟨m - 1, by omega⟩
    rw [hN, Nat.pow_succ]; omega
  obtain ⟨S, hS⟩ : ∃ S, S = 2 ^ s := ⟨_, rfl⟩
  have hS0 : 0 < S := by rw [hS]; exact Nat.two_pow_pos s
  have hS64 : S ≤ 4096 := by rw [hS]; exact Nat.pow_le_pow_right (n := 2) (j := 12) (by omega) (by omega)
  have hN0 : 0 < N := by rw [hN]; exact Nat.two_pow_pos m
  rw [← hN] at hp1 hx hy ⊢
  rw [← hS] at hp2 ⊢
  clear hN hS hs
  go_enter Try.func23, Try.ntmps23
  go_wp2_with fail
  refine (hp1 _).mono ?_
  rintro e w ⟨rfl, rfl⟩
  go_wp2_with fail
  refine (hp2 _).mono ?_
  rintro e w ⟨rfl, rfl⟩
  clear hp1 hp2
  go_wp2
  go_loopw [9, 12] (fun c a wr => ∃ j : Nat, 2 * j ≤ N ∧ a = .int .u64 ((2 * j + 1 : Nat) : Int) ∧ ∃ n : Nat, n ≤ 4200 ∧ c = .int .u64 n ∧ Hid (n = oddN N S x y (List.range (2 * j + 1))) ∧ Hid (∃ q, wr = w.drewN q)) (fun _ a _ => N + 1 - (intOf a).toNat)
  case atStart => exact ⟨0, by omega, rfl, 0, by omega, rfl, rfl, 0, rfl⟩
  case round =>
    obtain ⟨j, hj, rfl, c, hc, rfl, HC, HW⟩ := hrel
    obtain ⟨a, ha⟩ : ∃ a, a = 2 * j + 1 := ⟨_, rfl⟩
    rw [← ha] at HC ⊢
    by_cases hlt : a < N
    · have hcn := oddN_snoc N S x y (List.range a) a
      have hcb : oddN N S x y (List.range (a + 2)) ≤ a + 2 := by have := List.countP_le_length (p := fun z => z % 2 == 1 && z * x % N / S == z * y % N / S) (l := List.range (a + 2)); rwa [List.length_range] at this
      have hev := oddN_even N S x y (List.range (a + 1)) (a + 1) (by omega)
      rw [← List.range_succ] at hev hcn
      rw [hcn, ← HC.out] at hev
      rw [hev] at hcb
      have HEV := Lib.hid hev
      clear hev hcn HC
      obtain ⟨Z1, hZ1⟩ : ∃ Z, Z = a * x := ⟨_, rfl⟩
      obtain ⟨Z2, hZ2⟩ : ∃ Z, Z = a * y := ⟨_, rfl⟩
      have hZ1b : Z1 ≤ 4096 * 4096 := by rw [hZ1]; exact Nat.mul_le_mul (by omega) (by omega)
      have hZ2b : Z2 ≤ 4096 * 4096 := by rw [hZ2]; exact Nat.mul_le_mul (by omega) (by omega)
      have hw1 : IntKind.u64.wrap ((a : Int) * (x : Int)) = (Z1 : Int) := by rw [show ((a : Int) * (x : Int)) = (Z1 : Int) by rw [hZ1]; simp, IntKind.wrap_u64]; omega
      have hw2 : IntKind.u64.wrap ((a : Int) * (y : Int)) = (Z2 : Int) := by rw [show ((a : Int) * (y : Int)) = (Z2 : Int) by rw [hZ2]; simp, IntKind.wrap_u64]; omega
      rw [← hZ1, ← hZ2] at HEV hcb
      clear hZ1 hZ2
      have hr1 : (Z1 : Int) % (N : Int) = ((Z1 % N : Nat) : Int) := by omega
      have hr2 : (Z2 : Int) % (N : Int) = ((Z2 % N : Nat) : Int) := by omega
      have hR1 := Nat.mod_lt Z1 hN0
      have hR2 := Nat.mod_lt Z2 hN0
      generalize Z1 % N = R1 at *
      generalize Z2 % N = R2 at *
      have hd1 : (R1 : Int) / (S : Int) = ((R1 / S : Nat) : Int) := by omega
      have hd2 : (R2 : Int) / (S : Int) = ((R2 / S : Nat) : Int) := by omega
      have hU1 := Nat.div_le_self R1 S
      have hU2 := Nat.div_le_self R2 S
      generalize R1 / S = U1 at *
      generalize R2 / S = U2 at *
      have hmx : Try.prog.follows .mixedOrders = true := by kernel_rfl
      have hodd : a % 2 = 1 := by omega
      by_cases hU : U1 = U2
      · have hTT : ((U1 : Int) == (U2 : Int)) = true := by rw [beq_iff_eq]; omega
        rw [if_pos ⟨hodd, hU⟩] at hcb HEV
        have HA := Lib.hid ha
        clear hodd hU ha
        go_wp2
        go_region
        all_goals go_wp2
        all_goals go_roundw
        case rel =>
          refine ⟨j + 1, by have := HA.out; omega, by have := HA.out; go_num, c + 1, by omega, by go_num, ?_, ?_⟩
          · have := HEV.out
            show c + 1 = oddN N S x y (List.range (2 * (j + 1) + 1))
            rw [show 2 * (j + 1) + 1 = (a + 1).succ by have := HA.out; omega, this]
          · obtain ⟨q, rfl⟩ := HW.out
            exact ⟨q + 1, rfl⟩
        case measure => simp [intOf]; omega
      · have hTT : ((U1 : Int) == (U2 : Int)) = false := by rw [beq_eq_false_iff_ne]; omega
        rw [if_neg (fun h => hU h.2)] at hcb HEV
        have HA := Lib.hid ha
        clear hodd hU ha
        go_wp2
        go_region
        all_goals go_wp2
        all_goals go_roundw
        case rel =>
          refine ⟨j + 1, by have := HA.out; omega, by have := HA.out; go_num, c + 0, by omega, by go_num, ?_, ?_⟩
          · have := HEV.out
            show c + 0 = oddN N S x y (List.range (2 * (j + 1) + 1))
            rw [show 2 * (j + 1) + 1 = (a + 1).succ by have := HA.out; omega, this]
          · obtain ⟨q, rfl⟩ := HW.out
            exact ⟨q + 1, rfl⟩
        case measure => simp [intOf]; omega
    · have hF : oddN N S x y (List.range a) = oddC N S x y := by
        rw [show a = N + 1 by omega, List.range_succ, oddN_even _ _ _ _ _ _ hN2]; rfl
      rw [hF] at HC
      clear ha
      go_wp2
      go_ret
      exact ⟨by rw [← HC.out]; rfl, HW.out⟩

end Go.Proofs.Ytnnaijbdimdhpaa
