/-
  The reference's mask: Bits, Tells, Takes.
-/
import Derived.Test.YtcoohepkmhpdkaaGreatMask
import Derived.Test.YtcoohepkmhpdkaaGreatRt
namespace Go.Proofs.YtcoohepkmhpdkaaGreat
open Go.RowKit
set_option linter.unusedVariables false
set_option linter.unusedSimpArgs false

theorem bit_mod {x k i : Nat} (h : i < k) : bit (x % 2 ^ k) i = bit x i := by
  unfold bit
  obtain ⟨d, rfl⟩ : ∃ d, k = i + (d + 1) := ⟨k - i - 1, by omega⟩
  rw [Nat.pow_add, Nat.mod_mul_right_div_self, Nat.pow_succ, Nat.mul_comm (2 ^ d) 2, Nat.mod_mul_right_mod]
theorem bit_div (x k i : Nat) : bit (x / 2 ^ k) i = bit x (k + i) := by
  unfold bit
  rw [Nat.div_div_eq_div_mul, ← Nat.pow_add]
theorem bitsL_take {x n k : Nat} (h : k ≤ n) : (bitsL x n).take k = bitsL (x % 2 ^ k) k := by
  refine List.ext_getElem (by rw [List.length_take, bitsL_len, bitsL_len]; omega) fun i h1 h2 => ?_
  rw [bitsL_len] at h2
  simp only [bitsL, List.getElem_take, List.getElem_map, List.getElem_range]
  rw [bit_mod h2]
theorem bitsL_drop {x n k : Nat} : (bitsL x n).drop k = bitsL (x / 2 ^ k) (n - k) := by
  refine List.ext_getElem (by rw [List.length_drop, bitsL_len, bitsL_len]) fun i h1 h2 => ?_
  rw [bitsL_len] at h2
  simp only [bitsL, List.getElem_drop, List.getElem_map, List.getElem_range]
  rw [bit_div]
theorem bit_top {x k : Nat} (h : bit x k = 1) : 2 ^ k ≤ x % 2 ^ (k + 1) := by
  rw [mod_succ, h]; omega

set_option maxRecDepth 100000 in
set_option maxHeartbeats 2000000 in
/-- Len: the place behind the highest bit that is set -/
theorem len_exact (w : World) (v : Value) (x m : Nat) (h : Bt w v x m) (hx : x < 2 ^ 64) :
    Calls Tryz.prog 139 #[v] w fun e w' => e = .returned (.int .i64 (Lib.bitLen x : Int)) ∧ w = w' := by
  obtain ⟨sv, cv, rfl⟩ := h.1.form
  have HV := Lib.hid h
  have HX := Lib.hid hx
  have hm := h.2.2
  obtain ⟨R, hR⟩ : ∃ R, R = Lib.bitLen x := ⟨_, rfl⟩
  rw [← hR]
  have HR := Lib.hid hR
  clear h hx hR
  go_enter Tryz.func139, Tryz.ntmps139
  go_wp2
  go_loop [3, 4] (fun c i => ∃ (k : Nat) (r : Nat), k ≤ m ∧ i = .int .i64 (k : Int) ∧ c = .int .i64 (r : Int) ∧ r ≤ k ∧ Hid (x % 2 ^ k < 2 ^ r ∧ (r ≠ 0 → 2 ^ (r - 1) ≤ x % 2 ^ k))) (fun _ i => m - (intOf i).toNat)
  case atStart => exact ⟨0, 0, Nat.zero_le _, rfl, rfl, Nat.le_refl _, Lib.hid ⟨by simp [Nat.mod_one], fun h => absurd rfl h⟩⟩
  case round =>
    obtain ⟨k, r, hk, rfl, rfl, hrk, HRK⟩ := hrel
    by_cases hlt : k < m
    · obtain ⟨b, off, rfl, hc⟩ := HV.out.1.at (by omega)
      have cx := hc k _ (i64s_at (bitsL x m) k (by rw [bitsL_len]; exact hlt))
      rw [bitsL_get _ _ _ hlt] at cx
      have hb := bit_lt x k
      have htop := bit_top (x := x) (k := k)
      have hmod := mod_succ x k
      generalize hu : bit x k = u at *
      have HT := Lib.hid htop; have HM := Lib.hid hmod
      clear hu hc htop hmod
      by_cases h1 : u = 1
      · subst h1
        have q : (((1 : Nat) : Int) == 1) = true := rfl
        go_wp2
        go_round
        case rel => exact ⟨k + 1, k + 1, by omega, by go_num, by go_num, Nat.le_refl _, Lib.hid ⟨Nat.mod_lt _ (pow_pos2 _), fun _ => HT.out rfl⟩⟩
        case measure => simp [intOf]; omega
      · have hu0 : u = 0 := by omega
        subst hu0
        have q : (((0 : Nat) : Int) == 1) = false := rfl
        go_wp2
        go_round
        case rel => exact ⟨k + 1, r, by omega, by go_num, rfl, by omega, Lib.hid (by rw [HM.out, Nat.mul_zero, Nat.add_zero]; exact HRK.out)⟩
        case measure => simp [intOf]; omega
    · obtain rfl : k = m := by omega
      go_wp2
      go_ret
      obtain ⟨a1, a2⟩ := HRK.out
      rw [Nat.mod_eq_of_lt HV.out.2.1] at a1 a2
      exact ⟨ret_int (by rw [HR.out, bitLen_uniq HX.out a1 a2]), rfl⟩

set_option maxRecDepth 100000 in
set_option maxHeartbeats 2000000 in
theorem rbits39_any (w : World) (n : Nat) (hn : n < 2 ^ 64) :
    Calls Tryz.prog 114 #[.int .u64 (n : Int)] w fun e w' => e = .returned (.int .i64 (bitM n : Int)) ∧ Below w.heap.size w w' := by
  by_cases h0 : n = 0
  · subst h0
    clear hn
    go_enter Tryz.func114, Tryz.ntmps114
    go_wp2
    go_ret
    exact ⟨rfl, Below.refl _ _⟩
  · obtain ⟨m, rfl⟩ : ∃ m, n = m + 1 := ⟨n - 1, by omega⟩
    have hm64 : m < 2 ^ 64 := by omega
    have C := Lib.hid (fun w => of_any w m 64 hm64 (by omega))
    have HM := Lib.hid (show bitM (m + 1) = Lib.bitLen m by simp [bitM])
    have HX := Lib.hid hm64
    rw [p64] at hn
    have h1 : m + 1 ≤ 18446744073709551615 := by omega
    clear hn h0 hm64
    go_enter Tryz.func114, Tryz.ntmps114
    go_wp2_with fail
    refine (C.out _).mono ?_
    rintro e w1 ⟨sa, ca, rfl, ho, hb⟩
    have D := Lib.hid (len_exact w1 _ m 64 ⟨rd_of_row ho, HX.out, by omega⟩ HX.out)
    have HB := Lib.hid hb
    clear ho hb
    go_wp2_with fail
    refine D.out.mono ?_
    rintro e w2 ⟨rfl, rfl⟩
    go_wp2_with fail
    go_ret
    exact ⟨ret_int (by rw [HM.out]), HB.out⟩

theorem shift_lt {a r : Nat} (ha : a < 2 ^ 64) (hr : r ≤ 64) : a / 2 ^ r < 2 ^ (64 - r) := by
  rw [Nat.div_lt_iff_lt_mul (pow_pos2 r), ← Nat.pow_add, show 64 - r + r = 64 by omega]
  exact ha

set_option maxRecDepth 100000 in
set_option maxHeartbeats 4000000 in
theorem rtells39_any (w : World) (a n : Nat) (ha : a < 2 ^ 64) (hn : n < 2 ^ 64) :
    Calls Tryz.prog 66 #[.int .u64 (a : Int), .int .u64 (n : Int)] w fun e w' => e = .returned (.tuple #[.int .u64 (telM a n : Int), .int .u64 (rnkM a n : Int)]) ∧ Below w.heap.size w w' := by
  have C := Lib.hid (fun w => of_any w a 64 ha (by omega))
  have D := Lib.hid (fun w => rbits39_any w n hn)
  have hr := bitM_le hn
  have hk : telM a n = a % 2 ^ bitM n ∧ rnkM a n = a / 2 ^ bitM n := ⟨rfl, rfl⟩
  obtain ⟨t, ht⟩ : ∃ t, t = telM a n := ⟨_, rfl⟩
  obtain ⟨q, hq⟩ : ∃ q, q = rnkM a n := ⟨_, rfl⟩
  rw [← ht, ← hq] at hk ⊢
  generalize bitM n = r at *
  have HA := Lib.hid ha; have HK := Lib.hid hk
  clear hn ha hk ht hq
  go_enter Tryz.func66, Tryz.ntmps66
  go_wp2_with fail
  refine (C.out _).mono ?_
  rintro e w1 ⟨sa, ca, rfl, ho, hb⟩
  have HB := Lib.hid hb; have HO := Lib.hid (rd_of_row ho)
  have hca := (rd_of_row ho).cap_le.1
  clear ho hb
  go_wp2_with fail
  refine (D.out w1).mono ?_
  rintro e w2 ⟨rfl, hb⟩
  have hrd := HO.out.below hb
  have r1 := hrd.to_i64 hr ca (by omega)
  have r2 := hrd.from hr
  rw [bitsL_take hr] at r1
  rw [Nat.mul_one, ← i64s_drop, bitsL_drop] at r2
  have b1 : ∀ w', Rd w' 1 (.slice sa r ca) r (i64s (bitsL (a % 2 ^ r) r)) → Bt w' (.slice sa r ca) (a % 2 ^ r) r := fun w' h => ⟨h, Nat.mod_lt _ (pow_pos2 r), by omega⟩
  obtain ⟨sx, hx⟩ : ∃ sx, (if ca = r then sa else sa.map (·.add r)) = sx := ⟨_, rfl⟩
  rw [hx] at r2
  have b2 : ∀ w', Rd w' 1 (.slice sx (64 - r) (ca - r)) (64 - r) (i64s (bitsL (a / 2 ^ r) (64 - r))) → Bt w' (.slice sx (64 - r) (ca - r)) (a / 2 ^ r) (64 - r) := fun w' h => ⟨h, shift_lt HA.out hr, by omega⟩
  have W1 := Lib.hid (show ∀ k, Calls Tryz.prog 113 #[.slice sa r ca, .int .i64 0] (w2.drewN k) fun e w' => e = .returned (.int .u64 ((a % 2 ^ r / 2 ^ 0 % 2 ^ 64 : Nat) : Int)) ∧ w' = w2.drewN k from fun k => (word_any (w2.drewN k) (.slice sa r ca) _ r 0 (b1 _ (r1.below (below_drewN' (Below.refl _ _) k))) (by omega)).mono fun e w' (h : _ ∧ w2.drewN k = w') => (⟨h.1, h.2.symm⟩ : _ ∧ w' = w2.drewN k))
  have W2 := Lib.hid (show ∀ k, Calls Tryz.prog 113 #[.slice sx (64 - r) (ca - r), .int .i64 0] (w2.drewN k) fun e w' => e = .returned (.int .u64 ((a / 2 ^ r / 2 ^ 0 % 2 ^ 64 : Nat) : Int)) ∧ w' = w2.drewN k from fun k => (word_any (w2.drewN k) (.slice sx (64 - r) (ca - r)) _ (64 - r) 0 (b2 _ (r2.below (below_drewN' (Below.refl _ _) k))) (by omega)).mono fun e w' (h : _ ∧ w2.drewN k = w') => (⟨h.1, h.2.symm⟩ : _ ∧ w' = w2.drewN k))
  have hbl := HB.out.trans (hb.mono HB.out.size)
  have HBL := Lib.hid hbl
  have t1 : a % 2 ^ r / 2 ^ 0 % 2 ^ 64 = t := by
    rw [Nat.pow_zero, Nat.div_one, HK.out.1]
    exact Nat.mod_eq_of_lt (Nat.lt_of_le_of_lt (Nat.mod_le _ _) HA.out)
  have t2 : a / 2 ^ r / 2 ^ 0 % 2 ^ 64 = q := by
    rw [Nat.pow_zero, Nat.div_one, HK.out.2]
    exact Nat.mod_eq_of_lt (Nat.lt_of_le_of_lt (Nat.div_le_self _ _) HA.out)
  rw [t1] at W1
  rw [t2] at W2
  clear hb hrd r1 r2 b1 b2 hbl t1 t2
  go_wp2_with fail
  go_quiet (first | (with_reducible exact Calls.quiet_of_same (W1.out _)) | (with_reducible exact Calls.quiet_of_same (W2.out _)))
  go_wp2_with fail
  go_ret2
  exact ⟨rfl, below_drewN' HBL.out nq⟩

set_option maxRecDepth 100000 in
set_option maxHeartbeats 2000000 in
theorem rtakes39_any (w : World) (a n : Nat) (h0 : 0 < n) (ha : a < 2 ^ 64) (hn : n < 2 ^ 64) :
    Calls Tryz.prog 65 #[.int .u64 (a : Int), .int .u64 (n : Int)] w fun e w' => e = .returned (.bool (tmB a n)) ∧ Below w.heap.size w w' := by
  have C := Lib.hid (rtells39_any w a n ha hn)
  have HB := Lib.hid (tmB_dec a n h0)
  have q0 : (0 : Int) < (n : Int) := by omega
  generalize telM a n = t at *
  generalize rnkM a n = r at *
  clear ha hn
  go_enter Tryz.func65, Tryz.ntmps65
  go_wp2_with fail
  refine C.out.mono ?_
  rintro e w' ⟨rfl, hb⟩
  have HBL := Lib.hid hb
  clear hb
  go_wp2_with fail
  go_ret
  exact ⟨ret_bool (by rw [HB.out]), HBL.out⟩

end Go.Proofs.YtcoohepkmhpdkaaGreat
