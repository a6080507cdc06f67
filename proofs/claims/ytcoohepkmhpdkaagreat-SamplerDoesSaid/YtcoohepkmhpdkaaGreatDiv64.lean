/-
  math/bits.Div64: a number of two words by one of one word: what it answers, for every divisor that is greater than the upper word.
-/
import Derived.Test.YtcoohepkmhpdkaaGreatPl
import Derived.Test.YtcoohepkmhpdkaaGreatBs
import Derived.Test.YtcoohepkmhpdkaaGreatShelf
import Derived.Laws.Bits64b
import Derived.Deep.CutBlock
import Derived.Deep.DeepCutAuto
import Derived.Lib.ItoaNum
namespace Go.Proofs.YtcoohepkmhpdkaaGreat
open Go.RowKit
set_option linter.unusedVariables false
theorem maskN (a : Nat) (ha : a < 18446744073709551616) : bits .and .u64 (a : Int) 4294967295 = ((a % 4294967296 : Nat) : Int) := by
  have h := bits_and_u64_nat a 4294967295 ha (by omega)
  have e : a &&& 4294967295 = a % 4294967296 := Nat.and_two_pow_sub_one_eq_mod a 32
  rw [e] at h
  exact h
theorem wrapN (a : Nat) (ha : a < 18446744073709551616) : IntKind.u64.wrap (a : Int) = (a : Int) := by rw [IntKind.wrap_u64]; omega
theorem wrapM (a : Nat) : IntKind.u64.wrap (a : Int) = ((a % 18446744073709551616 : Nat) : Int) := by rw [IntKind.wrap_u64]; omega
theorem mulN (a b : Nat) : (a : Int) * (b : Int) = ((a * b : Nat) : Int) := (Int.natCast_mul a b).symm
theorem shlN (a s : Nat) : (a : Int) * 2 ^ s = ((a * 2 ^ s : Nat) : Int) := by rw [Int.natCast_mul, Int.natCast_pow]; rfl
theorem shrN (a s : Nat) : (a : Int) / 2 ^ s = ((a / 2 ^ s : Nat) : Int) := by rw [Int.natCast_ediv, Int.natCast_pow]; rfl
def clzN (y : Nat) : Nat := 64 - Lib.bitLen y
theorem clzN_spec {y : Nat} (h0 : 0 < y) (h : y ≤ 18446744073709551615) : clzN y ≤ 63 ∧ y * 2 ^ clzN y < 18446744073709551616 ∧ 9223372036854775808 ≤ y * 2 ^ clzN y := by
  have h64 : y < 2 ^ 64 := by have : (2 : Nat) ^ 64 = 18446744073709551616 := rfl
                              omega
  obtain ⟨h1, h2, h3⟩ := Lib.bitLenAux_bounds 64 y h64 (by omega)
  have h4 := Lib.bitLen_le y 64 (by omega) h64
  unfold clzN
  unfold Lib.bitLen at *
  generalize Lib.bitLenAux 64 y = n at *
  have e1 : 2 ^ n * 2 ^ (64 - n) = 18446744073709551616 := by rw [← Nat.pow_add, show n + (64 - n) = 64 by omega]
  have e2 : 2 ^ (n - 1) * 2 ^ (64 - n) = 9223372036854775808 := by rw [← Nat.pow_add, show n - 1 + (64 - n) = 63 by omega]
  refine ⟨by omega, ?_, ?_⟩
  · rw [← e1]; exact Nat.mul_lt_mul_of_pos_right h3 (Nat.two_pow_pos _)
  · rw [← e2]; exact Nat.mul_le_mul_right _ h2
theorem clz_any (w : World) (y : Nat) (h0 : 0 < y) (h : y ≤ 18446744073709551615) :
    Calls Tryz.prog 165 #[.int .u64 (y : Int)] w fun e w' => e = .returned (.int .i64 (clzN y : Int)) ∧ w = w' := by
  refine (Tryz.bits_LeadingZeros64 (y : Int) w (by omega) (by omega)).mono ?_
  rintro e w' ⟨rfl, rfl⟩
  refine ⟨ret_int ?_, rfl⟩
  have h64 : y < 2 ^ 64 := by have : (2 : Nat) ^ 64 = 18446744073709551616 := rfl
                              omega
  have h4 := Lib.bitLen_le y 64 (by omega) h64
  unfold clzN
  rw [Int.toNat_natCast]
  omega

theorem orN {a p b : Nat} (s : Nat) (hp : p = 2 ^ s) (hb : b < p) (ha : a * p + b < 18446744073709551616) : bits .or .u64 ((a * p : Nat) : Int) (b : Int) = ((a * p + b : Nat) : Int) := by
  subst hp
  have h := bits_or_u64_nat (a * 2 ^ s) b (by omega) (by omega)
  rw [h, Nat.mul_comm a, Nat.two_pow_add_eq_or_of_lt hb]


set_option maxRecDepth 100000 in
set_option maxHeartbeats 2000000 in
theorem div64_zero (w : World) (lo y : Nat) (hlt : 0 < y) (hy : y ≤ 18446744073709551615) (hlo : lo ≤ 18446744073709551615) :
    Calls Tryz.prog 157 #[.int .u64 0, .int .u64 (lo : Int), .int .u64 (y : Int)] w fun e w' => e = .returned (.tuple #[.int .u64 ((lo / y : Nat) : Int), .int .u64 ((lo % y : Nat) : Int)]) ∧ ∃ n, w' = w.drewN n := by
  have q0 : ((y : Int) == 0) = false := by simp; omega
  have q1 : ¬ (y : Int) ≤ 0 := by omega
  obtain ⟨Q, hQ⟩ : ∃ Q, Q = lo / y := ⟨_, rfl⟩
  obtain ⟨R, hR⟩ : ∃ R, R = lo % y := ⟨_, rfl⟩
  rw [← hQ, ← hR]
  have bQ : Q ≤ lo := by rw [hQ]; exact Nat.div_le_self _ _
  have e1 : (lo : Int) / (y : Int) = (Q : Int) := by rw [hQ]; rfl
  have e2 : (lo : Int) % (y : Int) = (R : Int) := by rw [hR]; rfl
  have E2 := Lib.hid e2
  clear hQ hR e2
  go_enter Tryz.func157, Tryz.ntmps157
  go_wp2
  go_quiet (fail)
  go_wp2
  go_ret2
  refine ⟨?_, _, rfl⟩
  rw [← E2.out]
  rfl

/-- the numbers of Div64's walk, ahead of it -/
structure KnU (hi lo y s D U L d1 d0 u1 u0 Q1 R1 Q0 R0 Rf v1 v3 v4 v5 : Nat) : Prop where
  eD : IntKind.u64.wrap ((y : Int) * 2 ^ s) = (D : Int)
  eL : IntKind.u64.wrap ((lo : Int) * 2 ^ s) = (L : Int)
  e1 : (D : Int) / 4294967296 = (d1 : Int)
  e2 : bits .and .u64 (D : Int) 4294967295 = (d0 : Int)
  e3 : (L : Int) / 4294967296 = (u1 : Int)
  e4 : bits .and .u64 (L : Int) 4294967295 = (u0 : Int)
  b1 : d1 < 4294967296
  b2 : d0 < 4294967296
  b3 : u1 < 4294967296
  b4 : u0 < 4294967296
  b5 : 2147483648 ≤ d1
  bU : U ≤ 18446744073709551615
  hUD : U < d1 * 4294967296 + d0
  hQ1 : Q1 = (U * 4294967296 + u1) / (d1 * 4294967296 + d0)
  hR1 : R1 < d1 * 4294967296 + d0
  hQ0 : Q0 = (R1 * 4294967296 + u0) / (d1 * 4294967296 + d0)
  bQ1 : Q1 < 4294967296
  bQ0 : Q0 < 4294967296
  bR1 : R1 ≤ 18446744073709551615
  eV1 : IntKind.u64.wrap ((U : Int) * 4294967296) = (v1 : Int)
  bV1 : v1 ≤ 18446744069414584320
  eV3 : IntKind.u64.wrap ((Q1 : Int) * (D : Int)) = (v3 : Int)
  eR1 : IntKind.u64.wrap ((v1 : Int) + (u1 : Int) - (v3 : Int)) = (R1 : Int)
  eV4 : IntKind.u64.wrap ((R1 : Int) * 4294967296) = (v4 : Int)
  bV4 : v4 ≤ 18446744069414584320
  eV5 : IntKind.u64.wrap ((Q0 : Int) * (D : Int)) = (v5 : Int)
  eR0 : IntKind.u64.wrap ((v4 : Int) + (u0 : Int) - (v5 : Int)) = (R0 : Int)
  eRf : (R0 : Int) / 2 ^ s = (Rf : Int)
  quo : (hi * 18446744073709551616 + lo) / y = Q1 * 4294967296 + Q0
  rem : (hi * 18446744073709551616 + lo) % y = Rf

theorem wrap_rest {U u D Q v1 v3 R : Nat} (hv1 : v1 = U * 4294967296 % 18446744073709551616) (hv3 : v3 = Q * D % 18446744073709551616) (hQ : Q = (U * 4294967296 + u) / D) (hR : R = (U * 4294967296 + u) % D) (hb : R < 18446744073709551616) :
    IntKind.u64.wrap ((v1 : Int) + (u : Int) - (v3 : Int)) = (R : Int) := by
  have h := Nat.div_add_mod (U * 4294967296 + u) D
  rw [← hQ, ← hR, Nat.mul_comm D Q] at h
  rw [IntKind.wrap_u64]
  generalize Q * D = m at *
  clear hQ hR
  omega

theorem knu (hi lo y s : Nat) (hlt : hi < y) (hlo : lo ≤ 18446744073709551615) (hs : s ≤ 63) (hD1 : y * 2 ^ s < 18446744073709551616) (hD2 : 9223372036854775808 ≤ y * 2 ^ s) :
    ∃ H A D U L d1 d0 u1 u0 Q1 R1 Q0 R0 Rf v1 v3 v4 v5 : Nat, IntKind.u64.wrap ((hi : Int) * 2 ^ s) = (H : Int) ∧ (lo : Int) / 2 ^ (64 - s) = (A : Int) ∧ bits .or .u64 (H : Int) (A : Int) = (U : Int) ∧ KnU hi lo y s D U L d1 d0 u1 u0 Q1 R1 Q0 R0 Rf v1 v3 v4 v5 := by
  obtain ⟨p, hp⟩ : ∃ p, p = 2 ^ s := ⟨_, rfl⟩
  obtain ⟨p', hp'⟩ : ∃ p', p' = 2 ^ (64 - s) := ⟨_, rfl⟩
  have hpp : p * p' = 18446744073709551616 := by
    rw [hp, hp', ← Nat.pow_add, show s + (64 - s) = 64 by omega]
  have hp0 : 0 < p := by rw [hp]; exact Nat.two_pow_pos _
  have hp'0 : 0 < p' := by rw [hp']; exact Nat.two_pow_pos _
  rw [← hp] at hD1 hD2
  have ha : lo / p' < p := (Nat.div_lt_iff_lt_mul hp'0).2 (by rw [hpp]; omega)
  have hy0 : 0 < y := by omega
  obtain ⟨D, hD⟩ : ∃ D, D = y * p := ⟨_, rfl⟩
  obtain ⟨H, hH⟩ : ∃ H, H = hi * p := ⟨_, rfl⟩
  obtain ⟨A, hA⟩ : ∃ A, A = lo / p' := ⟨_, rfl⟩
  obtain ⟨L, hL⟩ : ∃ L, L = lo * p % 18446744073709551616 := ⟨_, rfl⟩
  have hUD : H + A < D := by
    have h1 : (hi + 1) * p ≤ y * p := Nat.mul_le_mul_right _ hlt
    rw [Nat.add_mul] at h1
    omega
  have hLb : L < 18446744073709551616 := by rw [hL]; exact Nat.mod_lt _ (by decide)
  have hDb : D < 18446744073709551616 := by rw [hD]; exact hD1
  have hD2' : 9223372036854775808 ≤ D := by rw [hD]; exact hD2
  have eU : bits .or .u64 (H : Int) (A : Int) = ((H + A : Nat) : Int) := by rw [hH]; exact orN s hp (by omega) (by omega)
  obtain ⟨d1, hd1⟩ : ∃ d1, d1 = D / 4294967296 := ⟨_, rfl⟩
  obtain ⟨d0, hd0⟩ : ∃ d0, d0 = D % 4294967296 := ⟨_, rfl⟩
  obtain ⟨u1, hu1⟩ : ∃ u1, u1 = L / 4294967296 := ⟨_, rfl⟩
  obtain ⟨u0, hu0⟩ : ∃ u0, u0 = L % 4294967296 := ⟨_, rfl⟩
  have hDd : d1 * 4294967296 + d0 = D := by omega
  have hLu : L = u1 * 4294967296 + u0 := by omega
  have hDp : 0 < D := by omega
  obtain ⟨U, hU⟩ : ∃ U, U = H + A := ⟨_, rfl⟩
  obtain ⟨Q1, hQ1⟩ : ∃ Q1, Q1 = (U * 4294967296 + u1) / D := ⟨_, rfl⟩
  obtain ⟨R1, hR1⟩ : ∃ R1, R1 = (U * 4294967296 + u1) % D := ⟨_, rfl⟩
  obtain ⟨Q0, hQ0⟩ : ∃ Q0, Q0 = (R1 * 4294967296 + u0) / D := ⟨_, rfl⟩
  obtain ⟨R0, hR0⟩ : ∃ R0, R0 = (R1 * 4294967296 + u0) % D := ⟨_, rfl⟩
  have lR1 : R1 < D := by rw [hR1]; exact Nat.mod_lt _ hDp
  have lR0 : R0 < D := by rw [hR0]; exact Nat.mod_lt _ hDp
  have lQ1 : Q1 < 4294967296 := by rw [hQ1]; exact (Nat.div_lt_iff_lt_mul hDp).2 (by omega)
  have lQ0 : Q0 < 4294967296 := by rw [hQ0]; exact (Nat.div_lt_iff_lt_mul hDp).2 (by omega)
  have hsh := knuth_shift 18446744073709551616 hi lo p p' hpp
  have hcut := knuth_cut 4294967296 D U L u1 u0 hDp hLu
  have hBB : (4294967296 : Nat) * 4294967296 = 18446744073709551616 := rfl
  rw [hBB, ← hQ1, ← hR1, ← hQ0, ← hR0, hU, hH, hA, hL, hsh, hD, Nat.mul_div_mul_right _ _ hp0, Nat.mul_mod_mul_right] at hcut
  rw [← hU] at hUD eU
  have hRf : R0 / p = (hi * 18446744073709551616 + lo) % y := by rw [← hcut.2, Nat.mul_div_cancel _ hp0]
  refine ⟨H, A, D, U, L, d1, d0, u1, u0, Q1, R1, Q0, R0, R0 / p, U * 4294967296 % 18446744073709551616, Q1 * D % 18446744073709551616, R1 * 4294967296 % 18446744073709551616, Q0 * D % 18446744073709551616, ?_, ?_, eU, ?_⟩
  · rw [shlN, ← hp, ← hH, wrapN _ (by omega)]
  · rw [shrN, ← hp', ← hA]
  constructor
  · rw [shlN, ← hp, ← hD, wrapN _ (by omega)]
  · rw [shlN, ← hp, wrapM, hL]
  · omega
  · rw [maskN _ (by omega), hd0]
  · omega
  · rw [maskN _ (by omega), hu0]
  · omega
  · omega
  · omega
  · omega
  · omega
  · omega
  · rw [hDd]; exact hUD
  · rw [hDd]; exact hQ1
  · rw [hDd]; exact lR1
  · rw [hDd]; exact hQ0
  · exact lQ1
  · exact lQ0
  · omega
  · rw [show (U : Int) * 4294967296 = ((U * 4294967296 : Nat) : Int) from (Int.natCast_mul U 4294967296).symm, wrapM]
  · omega
  · rw [mulN, wrapM]
  · exact wrap_rest rfl rfl hQ1 hR1 (by omega)
  · rw [show (R1 : Int) * 4294967296 = ((R1 * 4294967296 : Nat) : Int) from (Int.natCast_mul R1 4294967296).symm, wrapM]
  · omega
  · rw [mulN, wrapM]
  · exact wrap_rest rfl rfl hQ0 hR0 (by omega)
  · rw [shrN, ← hp]
  · exact hcut.1
  · exact hRf.symm

theorem guess_first {d1 d0 U u : Nat} (b1 : d1 < 4294967296) (b2 : d0 < 4294967296) (b3 : u < 4294967296) (b5 : 2147483648 ≤ d1) (hu : U < d1 * 4294967296 + d0) :
    ∃ q r m : Nat, (U : Int) / (d1 : Int) = (q : Int) ∧ IntKind.u64.wrap ((q : Int) * (d1 : Int)) = (m : Int) ∧ (U : Int) - (m : Int) = (r : Int) ∧ m ≤ U ∧ q ≤ 4294967297 ∧ r < 4294967296 ∧ Guess 4294967296 d1 d0 U u q r := by
  have G := guess_start (B := 4294967296) (d1 := d1) (d0 := d0) (u := U) (un := u) (by omega) b1 b2 hu b3
  obtain ⟨q, hq⟩ : ∃ q, q = U / d1 := ⟨_, rfl⟩
  rw [← hq] at G
  have gq := G.sum
  refine ⟨q, U - q * d1, q * d1, by rw [hq]; rfl, by rw [mulN, wrapN _ (by omega)], by omega, by omega, G.top, G.rest, G⟩

set_option maxRecDepth 100000 in
set_option maxHeartbeats 4000000 in
theorem div64_more (w : World) (hi lo y : Nat) (hlt : hi < y) (hy : y ≤ 18446744073709551615) (hlo : lo ≤ 18446744073709551615) (hh : 0 < hi) :
    Calls Tryz.prog 157 #[.int .u64 (hi : Int), .int .u64 (lo : Int), .int .u64 (y : Int)] w fun e w' => e = .returned (.tuple #[.int .u64 (((hi * 18446744073709551616 + lo) / y : Nat) : Int), .int .u64 (((hi * 18446744073709551616 + lo) % y : Nat) : Int)]) ∧ w = w' := by
  have q0 : ((y : Int) == 0) = false := by simp; omega
  have q1 : ¬ (y : Int) ≤ (hi : Int) := by omega
  have q2 : ((hi : Int) == 0) = false := by simp; omega
  have hy0 : 0 < y := by omega
  obtain ⟨hs, hD1, hD2⟩ := clzN_spec hy0 hy
  have HC := Lib.hid (clz_any w y hy0 hy)
  generalize clzN y = s at *
  obtain ⟨H, A, D, U, L, d1, d0, u1, u0, Q1, R1, Q0, R0, Rf, v1, v3, v4, v5, eH, eA, eU, N⟩ := knu hi lo y s hlt hlo hs hD1 hD2
  rw [N.quo, N.rem]
  have eD := N.eD; have eL := N.eL; have e1 := N.e1; have e2 := N.e2; have e3 := N.e3; have e4 := N.e4
  have b1 := N.b1; have b2 := N.b2; have b3 := N.b3; have b4 := N.b4; have b5 := N.b5; have bU := N.bU
  obtain ⟨q, r, m, e5, e6, e7, bm, bq, br, G⟩ := guess_first b1 b2 b3 b5 N.hUD
  have HG := Lib.hid G; have HN := Lib.hid N
  clear G N hD1 hD2
  go_enter Tryz.func157, Tryz.ntmps157
  go_upto_block 0 with (go_at_call 165; refine HC.out.mono ?_; rintro e w1 ⟨rfl, rfl⟩)
  go_cut [15, 16] from 67 to 86 (fun s15 s16 wx => s15 = .int .u64 Q1 ∧ w = wx)
  case first =>
    clear eD eL e1 e2 e3 e4 e5 e6 e7 eH eA eU
    go_wp2_with fail
    go_loop [15, 16] (fun s15 s16 => ∃ a b : Nat, s15 = .int .u64 a ∧ s16 = .int .u64 b ∧ a ≤ 4294967297 ∧ b < 4294967296 ∧ Hid (Guess 4294967296 d1 d0 U u1 a b)) (fun s15 _ => (intOf s15).toNat)
    case atStart => exact ⟨q, r, rfl, rfl, bq, br, HG⟩
    case round =>
      rename_i hw0
      clear hw0
      obtain ⟨a, b, rfl, rfl, ba, bb, HGa⟩ := hrel
      by_cases ht : 4294967296 ≤ a
      · have hgt := guess_more HGa.out (by omega) HN.out.hUD b3 (.inl ht)
        obtain ⟨c, rfl⟩ : ∃ c, a = c + 1 := ⟨a - 1, by omega⟩
        by_cases hr : b + d1 < 4294967296
        · have HG2 := Lib.hid (guess_step HGa.out hgt hr)
          have HGT := Lib.hid hgt; clear hgt
          have ht' : (4294967296 : Int) ≤ (c : Int) + 1 := by omega
          have hr' : decide ((4294967296 : Int) ≤ (b : Int) + (d1 : Int)) = false := by simp; omega
          have HR := Lib.hid hr
          clear ht hr
          go_wp2_with fail
          go_round
          case rel => exact ⟨c, b + d1, by go_num, by go_num, by omega, by have := HR.out; omega, HG2⟩
          case measure => simp [intOf]
        · have hst := guess_stop HGa.out (by omega) b2 hgt (by omega)
          rw [← HN.out.hQ1] at hst
          subst hst
          have ht' : (4294967296 : Int) ≤ (c : Int) + 1 := by omega
          have hr' : decide ((4294967296 : Int) ≤ (b : Int) + (d1 : Int)) = true := decide_eq_true (by omega)
          clear hgt ht hr
          go_wp2_with fail
          go_meet
          exact ⟨by go_num, rfl⟩
      · obtain ⟨m2, hm2⟩ : ∃ m2, m2 = a * d0 := ⟨_, rfl⟩
        have lm : m2 ≤ 4294967295 * 4294967295 := by rw [hm2]; exact Nat.mul_le_mul (by omega) (by omega)
        have lm' : m2 ≤ 18446744065119617025 := by omega
        have ht' : decide ((4294967296 : Int) ≤ (a : Int)) = false := by simp; omega
        have e8 : IntKind.u64.wrap ((a : Int) * (d0 : Int)) = (m2 : Int) := by rw [mulN, ← hm2, wrapN _ (by omega)]
        clear lm
        by_cases hp : 4294967296 * b + u1 < m2
        · have hp' : decide ((4294967296 : Int) * (b : Int) + (u1 : Int) < (m2 : Int)) = true := decide_eq_true (by omega)
          have h0 : 0 < a := by
            rcases Nat.eq_zero_or_pos a with h | h
            · subst h; omega
            · exact h
          have hgt := guess_more HGa.out (by omega) HN.out.hUD b3 (.inr (by rw [← hm2]; exact hp))
          have HM := Lib.hid hm2; clear hm2
          have e9 : (a : Int) - 1 = ((a - 1 : Nat) : Int) := by omega
          obtain ⟨c, hc⟩ : ∃ c, c = a - 1 := ⟨_, rfl⟩
          have hca : a = c + 1 := by omega
          rw [← hc] at e9
          have HC := Lib.hid hc; have HCA := Lib.hid hca; clear hc hca
          by_cases hr : b + d1 < 4294967296
          · have hGa := HGa.out
            rw [HCA.out] at hGa hgt
            have HG2 := Lib.hid (guess_step hGa hgt hr)
            have hr' : decide ((4294967296 : Int) ≤ (b : Int) + (d1 : Int)) = false := by simp; omega
            have HR := Lib.hid hr
            clear hgt hGa ht hp hr
            go_wp2_with fail
            go_round
            case rel => exact ⟨c, b + d1, rfl, by go_num, by have := HCA.out; omega, by have := HR.out; omega, HG2⟩
            case measure => simp [intOf]; omega
          · have hGa := HGa.out
            rw [HCA.out] at hGa hgt
            have hst := guess_stop hGa (by omega) b2 hgt (by omega)
            rw [← HN.out.hQ1] at hst
            subst hst
            have hr' : decide ((4294967296 : Int) ≤ (b : Int) + (d1 : Int)) = true := decide_eq_true (by omega)
            clear hgt hGa ht hp hr
            go_wp2_with fail
            go_meet
            exact ⟨rfl, rfl⟩
        · have hp' : decide ((4294967296 : Int) * (b : Int) + (u1 : Int) < (m2 : Int)) = false := by simp; omega
          have hst := guess_end HGa.out (by omega) (by rw [← hm2]; omega)
          rw [← HN.out.hQ1] at hst
          subst hst
          have HM := Lib.hid hm2; clear hm2 ht hp
          go_wp2_with fail
          go_meet
          exact ⟨rfl, rfl⟩
  case rest =>
    obtain ⟨rfl, rfl⟩ := hcut
    clear eD eL e1 e2 e3 e4 eH eA eU bq br HG
    have eV1 := HN.out.eV1; have eV3 := HN.out.eV3; have eR1 := HN.out.eR1
    have bV1 := HN.out.bV1; have bR1 := HN.out.bR1; have bQ1 := HN.out.bQ1; have bQ0 := HN.out.bQ0
    obtain ⟨q2, r2, m2, f5, f6, f7, bm2, bq2, br2, G2⟩ := guess_first b1 b2 b4 b5 HN.out.hR1
    have HGS := Lib.hid G2
    clear G2
    go_upto_block 2 with fail
    go_cut [18, 16] from 102 to 121 (fun s18 s16 wx => s18 = .int .u64 Q0 ∧ w = wx)
    case first =>
      clear eV1 eV3 eR1 f5 f6 f7
      go_wp2_with fail
      go_loop [18, 16] (fun s18 s16 => ∃ a b : Nat, s18 = .int .u64 a ∧ s16 = .int .u64 b ∧ a ≤ 4294967297 ∧ b < 4294967296 ∧ Hid (Guess 4294967296 d1 d0 R1 u0 a b)) (fun s18 _ => (intOf s18).toNat)
      case atStart => exact ⟨q2, r2, rfl, rfl, bq2, br2, HGS⟩
      case round =>
        rename_i hw0
        clear hw0
        obtain ⟨a, b, rfl, rfl, ba, bb, HGa⟩ := hrel
        by_cases ht : 4294967296 ≤ a
        · have hgt := guess_more HGa.out (by omega) HN.out.hR1 b4 (.inl ht)
          obtain ⟨c, rfl⟩ : ∃ c, a = c + 1 := ⟨a - 1, by omega⟩
          by_cases hr : b + d1 < 4294967296
          · have HG2 := Lib.hid (guess_step HGa.out hgt hr)
            have HGT := Lib.hid hgt; clear hgt
            have ht' : (4294967296 : Int) ≤ (c : Int) + 1 := by omega
            have hr' : decide ((4294967296 : Int) ≤ (b : Int) + (d1 : Int)) = false := by simp; omega
            have HR := Lib.hid hr
            clear ht hr
            go_wp2_with fail
            go_round
            case rel => exact ⟨c, b + d1, by go_num, by go_num, by omega, by have := HR.out; omega, HG2⟩
            case measure => simp [intOf]
          · have hst := guess_stop HGa.out (by omega) b2 hgt (by omega)
            rw [← HN.out.hQ0] at hst
            subst hst
            have ht' : (4294967296 : Int) ≤ (c : Int) + 1 := by omega
            have hr' : decide ((4294967296 : Int) ≤ (b : Int) + (d1 : Int)) = true := decide_eq_true (by omega)
            clear hgt ht hr
            go_wp2_with fail
            go_meet
            exact ⟨by go_num, rfl⟩
        · obtain ⟨m2, hm2⟩ : ∃ m2, m2 = a * d0 := ⟨_, rfl⟩
          have lm : m2 ≤ 4294967295 * 4294967295 := by rw [hm2]; exact Nat.mul_le_mul (by omega) (by omega)
          have lm' : m2 ≤ 18446744065119617025 := by omega
          have ht' : decide ((4294967296 : Int) ≤ (a : Int)) = false := by simp; omega
          have e8 : IntKind.u64.wrap ((a : Int) * (d0 : Int)) = (m2 : Int) := by rw [mulN, ← hm2, wrapN _ (by omega)]
          clear lm
          by_cases hp : 4294967296 * b + u0 < m2
          · have hp' : decide ((4294967296 : Int) * (b : Int) + (u0 : Int) < (m2 : Int)) = true := decide_eq_true (by omega)
            have h0 : 0 < a := by
              rcases Nat.eq_zero_or_pos a with h | h
              · subst h; omega
              · exact h
            have hgt := guess_more HGa.out (by omega) HN.out.hR1 b4 (.inr (by rw [← hm2]; exact hp))
            have HM := Lib.hid hm2; clear hm2
            have e9 : (a : Int) - 1 = ((a - 1 : Nat) : Int) := by omega
            obtain ⟨c, hc⟩ : ∃ c, c = a - 1 := ⟨_, rfl⟩
            have hca : a = c + 1 := by omega
            rw [← hc] at e9
            have HC := Lib.hid hc; have HCA := Lib.hid hca; clear hc hca
            by_cases hr : b + d1 < 4294967296
            · have hGa := HGa.out
              rw [HCA.out] at hGa hgt
              have HG2 := Lib.hid (guess_step hGa hgt hr)
              have hr' : decide ((4294967296 : Int) ≤ (b : Int) + (d1 : Int)) = false := by simp; omega
              have HR := Lib.hid hr
              clear hgt hGa ht hp hr
              go_wp2_with fail
              go_round
              case rel => exact ⟨c, b + d1, rfl, by go_num, by have := HCA.out; omega, by have := HR.out; omega, HG2⟩
              case measure => simp [intOf]; omega
            · have hGa := HGa.out
              rw [HCA.out] at hGa hgt
              have hst := guess_stop hGa (by omega) b2 hgt (by omega)
              rw [← HN.out.hQ0] at hst
              subst hst
              have hr' : decide ((4294967296 : Int) ≤ (b : Int) + (d1 : Int)) = true := decide_eq_true (by omega)
              clear hgt hGa ht hp hr
              go_wp2_with fail
              go_meet
              exact ⟨rfl, rfl⟩
          · have hp' : decide ((4294967296 : Int) * (b : Int) + (u0 : Int) < (m2 : Int)) = false := by simp; omega
            have hst := guess_end HGa.out (by omega) (by rw [← hm2]; omega)
            rw [← HN.out.hQ0] at hst
            subst hst
            have HM := Lib.hid hm2; clear hm2 ht hp
            go_wp2_with fail
            go_meet
            exact ⟨rfl, rfl⟩
    case rest =>
      obtain ⟨rfl, rfl⟩ := hcut
      clear eV1 eV3 eR1 bq2 br2 HGS
      have eV4 := HN.out.eV4; have eV5 := HN.out.eV5; have eR0 := HN.out.eR0; have bV4 := HN.out.bV4; have eRf := HN.out.eRf
      go_wp2_with fail
      go_ret2
      exact ⟨rfl, rfl⟩

end Go.Proofs.YtcoohepkmhpdkaaGreat
