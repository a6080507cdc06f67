/-
  The references' comparison of rows of bits.
-/
import Derived.Test.YtcoohepkmhpdkaaGreatRef01b
namespace Go.Proofs.YtcoohepkmhpdkaaGreat
open Go.RowKit
set_option linter.unusedVariables false

def cmpI (x y : Nat) : Int := if x < y then -1 else if y < x then 1 else 0
theorem cmp_lt (x y k : Nat) (h : x / 2 ^ k < y / 2 ^ k) : x < y := by
  by_cases hlt : x < y
  · exact hlt
  · have := Nat.div_le_div_right (c := 2 ^ k) (show y ≤ x by omega); omega

set_option maxRecDepth 100000 in
set_option maxHeartbeats 4000000 in
theorem cmp_any (w : World) (va vb : Value) (x y m1 m2 : Nat) (ha : Bt w va x m1) (hb : Bt w vb y m2) :
    Calls Tryz.prog 140 #[va, vb] w fun e w' => e = .returned (.int .i64 (cmpI x y)) ∧ w = w' := by
  obtain ⟨sa, ca, rfl⟩ := ha.1.form
  obtain ⟨sb, cb, rfl⟩ := hb.1.form
  have hm1 := ha.2.2
  have hm2 := hb.2.2
  have HA := Lib.hid ha; have HB := Lib.hid hb; clear ha hb
  by_cases hM : m1 < m2
  · have hM' : (m1 : Int) < (m2 : Int) := by omega
    go_enter Tryz.func140, Tryz.ntmps140
    go_wp2
    go_loop [5] (fun i => ∃ k : Nat, k ≤ m2 ∧ i = .int .i64 ((k : Int) - 1) ∧ x / 2 ^ k = y / 2 ^ k) (fun i => (intOf i + 1).toNat)
    case atStart =>
      refine ⟨m2, Nat.le_refl _, rfl, ?_⟩
      rw [Nat.div_eq_of_lt (Nat.lt_of_lt_of_le HA.out.2.1 (Nat.pow_le_pow_right (by decide) (by omega))), Nat.div_eq_of_lt (Nat.lt_of_lt_of_le HB.out.2.1 (Nat.pow_le_pow_right (by decide) (by omega)))]
    case round =>
      obtain ⟨k, hk, rfl, hq⟩ := hrel
      by_cases hlt : 0 < k
      · obtain ⟨k, rfl⟩ : ∃ k', k = k' + 1 := ⟨k - 1, by omega⟩
        have e1 : (((k + 1 : Nat) : Int) - 1) = (k : Int) := by omega
        rw [e1]
        have hk0 : (0 : Int) ≤ (k : Int) := by omega
        have h1 := Lib.hid (at_nat w _ x m1 k HA.out (by omega))
        have h2 := Lib.hid (at_nat w _ y m2 k HB.out (by omega))
        have hx := half x k
        have hy := half y k
        have b1 := bit_lt x k
        have b2 := bit_lt y k
        have hlt1 := cmp_lt x y k
        have hgt1 := cmp_lt y x k
        generalize bit x k = p at *
        generalize bit y k = q at *
        have HX := Lib.hid hx; have HY := Lib.hid hy; have HQ := Lib.hid hq; have HL := Lib.hid hlt1; have HG := Lib.hid hgt1
        clear hx hy hq hlt1 hgt1 e1
        by_cases c1 : p < q
        · have c1' : (p : Int) < (q : Int) := by omega
          have hr : cmpI x y = -1 := by
            unfold cmpI; rw [if_pos (HL.out (by have := HX.out; have := HY.out; have := HQ.out; omega))]
          have HR := Lib.hid hr; clear hr c1
          go_wp2_with fail
          refine h1.out.mono ?_
          rintro e w1 ⟨rfl, rfl⟩
          go_wp2_with fail
          refine h2.out.mono ?_
          rintro e w1 ⟨rfl, rfl⟩
          go_wp2
          go_ret
          exact ⟨ret_int HR.out.symm, rfl⟩
        · have c1' : ¬ (p : Int) < (q : Int) := by omega
          by_cases c2 : q < p
          · have c2' : (q : Int) < (p : Int) := by omega
            have hr : cmpI x y = 1 := by
              have := HG.out (by have := HX.out; have := HY.out; have := HQ.out; omega)
              unfold cmpI; rw [if_neg (by omega), if_pos this]
            have HR := Lib.hid hr; clear hr c1 c2
            go_wp2_with fail
            refine h1.out.mono ?_
            rintro e w1 ⟨rfl, rfl⟩
            go_wp2_with fail
            refine h2.out.mono ?_
            rintro e w1 ⟨rfl, rfl⟩
            go_wp2_with fail
            refine h1.out.mono ?_
            rintro e w1 ⟨rfl, rfl⟩
            go_wp2_with fail
            refine h2.out.mono ?_
            rintro e w1 ⟨rfl, rfl⟩
            go_wp2
            go_ret
            exact ⟨ret_int HR.out.symm, rfl⟩
          · have c2' : ¬ (q : Int) < (p : Int) := by omega
            go_wp2_with fail
            refine h1.out.mono ?_
            rintro e w1 ⟨rfl, rfl⟩
            go_wp2_with fail
            refine h2.out.mono ?_
            rintro e w1 ⟨rfl, rfl⟩
            go_wp2_with fail
            refine h1.out.mono ?_
            rintro e w1 ⟨rfl, rfl⟩
            go_wp2_with fail
            refine h2.out.mono ?_
            rintro e w1 ⟨rfl, rfl⟩
            go_wp2
            go_round
            case rel => exact ⟨k, by omega, rfl, by have := HX.out; have := HY.out; have := HQ.out; omega⟩
            case measure => simp [intOf]; try omega
      · obtain rfl : k = 0 := by omega
        have hxy : x = y := by simpa using hq
        have hr : cmpI x y = 0 := by unfold cmpI; rw [if_neg (by omega), if_neg (by omega)]
        have hle : ¬ (0 : Int) ≤ ((0 : Nat) : Int) - 1 := by omega
        have HR := Lib.hid hr; clear hr hxy hq hlt
        go_wp2
        go_ret
        exact ⟨ret_int HR.out.symm, rfl⟩
  · have hM' : ¬ (m1 : Int) < (m2 : Int) := by omega
    go_enter Tryz.func140, Tryz.ntmps140
    go_wp2
    go_loop [5] (fun i => ∃ k : Nat, k ≤ m1 ∧ i = .int .i64 ((k : Int) - 1) ∧ x / 2 ^ k = y / 2 ^ k) (fun i => (intOf i + 1).toNat)
    case atStart =>
      refine ⟨m1, Nat.le_refl _, rfl, ?_⟩
      rw [Nat.div_eq_of_lt (Nat.lt_of_lt_of_le HA.out.2.1 (Nat.pow_le_pow_right (by decide) (by omega))), Nat.div_eq_of_lt (Nat.lt_of_lt_of_le HB.out.2.1 (Nat.pow_le_pow_right (by decide) (by omega)))]
    case round =>
      obtain ⟨k, hk, rfl, hq⟩ := hrel
      by_cases hlt : 0 < k
      · obtain ⟨k, rfl⟩ : ∃ k', k = k' + 1 := ⟨k - 1, by omega⟩
        have e1 : (((k + 1 : Nat) : Int) - 1) = (k : Int) := by omega
        rw [e1]
        have hk0 : (0 : Int) ≤ (k : Int) := by omega
        have h1 := Lib.hid (at_nat w _ x m1 k HA.out (by omega))
        have h2 := Lib.hid (at_nat w _ y m2 k HB.out (by omega))
        have hx := half x k
        have hy := half y k
        have b1 := bit_lt x k
        have b2 := bit_lt y k
        have hlt1 := cmp_lt x y k
        have hgt1 := cmp_lt y x k
        generalize bit x k = p at *
        generalize bit y k = q at *
        have HX := Lib.hid hx; have HY := Lib.hid hy; have HQ := Lib.hid hq; have HL := Lib.hid hlt1; have HG := Lib.hid hgt1
        clear hx hy hq hlt1 hgt1 e1
        by_cases c1 : p < q
        · have c1' : (p : Int) < (q : Int) := by omega
          have hr : cmpI x y = -1 := by
            unfold cmpI; rw [if_pos (HL.out (by have := HX.out; have := HY.out; have := HQ.out; omega))]
          have HR := Lib.hid hr; clear hr c1
          go_wp2_with fail
          refine h1.out.mono ?_
          rintro e w1 ⟨rfl, rfl⟩
          go_wp2_with fail
          refine h2.out.mono ?_
          rintro e w1 ⟨rfl, rfl⟩
          go_wp2
          go_ret
          exact ⟨ret_int HR.out.symm, rfl⟩
        · have c1' : ¬ (p : Int) < (q : Int) := by omega
          by_cases c2 : q < p
          · have c2' : (q : Int) < (p : Int) := by omega
            have hr : cmpI x y = 1 := by
              have := HG.out (by have := HX.out; have := HY.out; have := HQ.out; omega)
              unfold cmpI; rw [if_neg (by omega), if_pos this]
            have HR := Lib.hid hr; clear hr c1 c2
            go_wp2_with fail
            refine h1.out.mono ?_
            rintro e w1 ⟨rfl, rfl⟩
            go_wp2_with fail
            refine h2.out.mono ?_
            rintro e w1 ⟨rfl, rfl⟩
            go_wp2_with fail
            refine h1.out.mono ?_
            rintro e w1 ⟨rfl, rfl⟩
            go_wp2_with fail
            refine h2.out.mono ?_
            rintro e w1 ⟨rfl, rfl⟩
            go_wp2
            go_ret
            exact ⟨ret_int HR.out.symm, rfl⟩
          · have c2' : ¬ (q : Int) < (p : Int) := by omega
            go_wp2_with fail
            refine h1.out.mono ?_
            rintro e w1 ⟨rfl, rfl⟩
            go_wp2_with fail
            refine h2.out.mono ?_
            rintro e w1 ⟨rfl, rfl⟩
            go_wp2_with fail
            refine h1.out.mono ?_
            rintro e w1 ⟨rfl, rfl⟩
            go_wp2_with fail
            refine h2.out.mono ?_
            rintro e w1 ⟨rfl, rfl⟩
            go_wp2
            go_round
            case rel => exact ⟨k, by omega, rfl, by have := HX.out; have := HY.out; have := HQ.out; omega⟩
            case measure => simp [intOf]; try omega
      · obtain rfl : k = 0 := by omega
        have hxy : x = y := by simpa using hq
        have hr : cmpI x y = 0 := by unfold cmpI; rw [if_neg (by omega), if_neg (by omega)]
        have hle : ¬ (0 : Int) ≤ ((0 : Nat) : Int) - 1 := by omega
        have HR := Lib.hid hr; clear hr hxy hq hlt
        go_wp2
        go_ret
        exact ⟨ret_int HR.out.symm, rfl⟩

end Go.Proofs.YtcoohepkmhpdkaaGreat
