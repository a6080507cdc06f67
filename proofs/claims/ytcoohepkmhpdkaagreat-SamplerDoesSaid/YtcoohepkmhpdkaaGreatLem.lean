/-
  Bounded draws, word by word: Loss, wide.Mul, wide.Div, first, Takes, Rank, and the reference's Takes.
-/
import Derived.Test.YtcoohepkmhpdkaaGreatDiv64
import Derived.Test.YtcoohepkmhpdkaaGreatRef38
namespace Go.Proofs.YtcoohepkmhpdkaaGreat
open Go.RowKit
set_option linter.unusedVariables false

/-- how many words are not taken; whether a word is; what it tells; how many taken ones below it tell the same -/
def lossN (n : Nat) : Nat := 2 ^ 64 % n
def tknB (a n : Nat) : Bool := decide (0 < n ∧ 2 ^ 64 % n ≤ a * n % 2 ^ 64)
def telN (a n : Nat) : Nat := a * n / 2 ^ 64
def rnkN (a n : Nat) : Nat := a - firstN (a * n / 2 ^ 64) n
theorem tknB_iff {a n : Nat} : tknB a n = true ↔ Tkn a n := by simp [tknB, Tkn]

theorem p64 : (2 : Nat) ^ 64 = 18446744073709551616 := rfl
theorem lossN_lt {n : Nat} (h : 0 < n) : lossN n < n := Nat.mod_lt _ h
theorem lossN_le {n : Nat} (h : 0 < n) (hn : n < 2 ^ 64) : lossN n + n ≤ 2 ^ 64 := by
  unfold lossN
  generalize (2 : Nat) ^ 64 = P at *
  have h1 := Nat.div_add_mod P n
  have h2 : 1 ≤ P / n := (Nat.le_div_iff_mul_le h).2 (by omega)
  have h3 : n * 1 ≤ n * (P / n) := Nat.mul_le_mul_left _ h2
  omega
theorem lossN_neg {n : Nat} (h : 0 < n) (hn : n < 2 ^ 64) : (2 ^ 64 - n) % n = lossN n := by
  unfold lossN
  generalize (2 : Nat) ^ 64 = P at *
  have e : P = (P - n) + n := by omega
  conv => rhs; rw [e, Nat.add_mod_right]

theorem div64_any (w : World) (hi lo y : Nat) (hlt : hi < y) (hy : y ≤ 18446744073709551615) (hlo : lo ≤ 18446744073709551615) :
    Calls Tryz.prog 157 #[.int .u64 (hi : Int), .int .u64 (lo : Int), .int .u64 (y : Int)] w fun e w' => e = .returned (.tuple #[.int .u64 (((hi * 18446744073709551616 + lo) / y : Nat) : Int), .int .u64 (((hi * 18446744073709551616 + lo) % y : Nat) : Int)]) ∧ ∃ n, w' = w.drewN n := by
  by_cases h : 0 < hi
  · refine (div64_more w hi lo y hlt hy hlo h).mono ?_
    rintro e w' ⟨rfl, rfl⟩
    exact ⟨rfl, 0, rfl⟩
  · obtain rfl : hi = 0 := by omega
    rw [Nat.zero_mul, Nat.zero_add]
    exact div64_zero w lo y hlt hy hlo

set_option maxRecDepth 100000 in
set_option maxHeartbeats 2000000 in
theorem lloss_any (w : World) (n : Nat) (h0 : 0 < n) (hn : n < 2 ^ 64) :
    Calls Tryz.prog 93 #[.int .u64 (n : Int)] w fun e w' => e = .returned (.int .u64 (lossN n : Int)) ∧ w = w' := by
  have q0 : ((n : Int) == 0) = false := by simp; omega
  obtain ⟨m, hm⟩ : ∃ m, m = 2 ^ 64 - n := ⟨_, rfl⟩
  have e1 : IntKind.u64.wrap (-(n : Int)) = (m : Int) := by
    rw [IntKind.wrap_u64]
    rw [p64] at hm hn
    omega
  have bm : m ≤ 18446744073709551615 := by rw [p64] at hm; omega
  have bn : n ≤ 18446744073709551615 := by rw [p64] at hn; omega
  have HL := Lib.hid (lossN_neg h0 hn)
  have HM := Lib.hid hm
  clear hm hn
  go_enter Tryz.func93, Tryz.ntmps93
  go_wp2
  go_ret
  refine ⟨ret_int ?_, rfl⟩
  rw [← HL.out, ← HM.out]
  rfl

set_option maxRecDepth 100000 in
set_option maxHeartbeats 2000000 in
theorem wmul_any (w : World) (a b : Nat) (ha : a < 18446744073709551616) (hb : b < 18446744073709551616) :
    Calls Tryz.prog 130 #[.int .u64 (a : Int), .int .u64 (b : Int)] w fun e w' => e = .returned (.agg #[.int .u64 ((a * b / 18446744073709551616 : Nat) : Int), .int .u64 ((a * b % 18446744073709551616 : Nat) : Int)]) ∧ Below w.heap.size w w' := by
  obtain ⟨h, hh⟩ : ∃ h, h = a * b / 18446744073709551616 := ⟨_, rfl⟩
  obtain ⟨l, hl⟩ : ∃ l, l = a * b % 18446744073709551616 := ⟨_, rfl⟩
  have H := Lib.hid (Tryz.bits_Mul64 a b ha hb)
  rw [← hh, ← hl] at *
  clear ha hb hh hl
  go_enter Tryz.func130, Tryz.ntmps130
  go_wp2_with fail
  refine (H.out _).mono ?_
  rintro e w' ⟨rfl, rfl⟩
  go_wp2_with fail
  exact bodyPost_ret (v := .agg #[.int .u64 (h : Int), .int .u64 (l : Int)]) (by simp [results, Tryz.results130, go_sem]) rfl ⟨rfl, (Below.refl _ _).alloc (Nat.le_refl _) _⟩

set_option maxRecDepth 100000 in
set_option maxHeartbeats 2000000 in
theorem wdiv_any (w : World) (hi lo y : Nat) (h0 : 0 < y) (hhi : hi ≤ 18446744073709551615) (hy : y ≤ 18446744073709551615) (hlo : lo ≤ 18446744073709551615) :
    Calls Tryz.prog 129 #[.agg #[.int .u64 (hi : Int), .int .u64 (lo : Int)], .int .u64 (y : Int)] w fun e w' =>
      e = .returned (.tuple #[.agg #[.int .u64 ((hi / y : Nat) : Int), .int .u64 (((hi % y * 18446744073709551616 + lo) / y : Nat) : Int)], .int .u64 (((hi % y * 18446744073709551616 + lo) % y : Nat) : Int)]) ∧ Below w.heap.size w w' := by
  have q0 : ((y : Int) == 0) = false := by simp; omega
  have D1 := fun w' => div64_any w' 0 hi y h0 hy hhi
  have D2 := fun w' => div64_any w' (hi % y) lo y (Nat.mod_lt _ h0) hy hlo
  rw [Nat.zero_mul, Nat.zero_add] at D1
  obtain ⟨q, hq⟩ : ∃ q, q = hi / y := ⟨_, rfl⟩
  obtain ⟨r, hr⟩ : ∃ r, r = hi % y := ⟨_, rfl⟩
  rw [← hr] at D1 D2 ⊢
  rw [← hq] at D1 ⊢
  generalize (r * 18446744073709551616 + lo) / y = q2 at *
  generalize (r * 18446744073709551616 + lo) % y = r2 at *
  have H1 := Lib.hid D1; have H2 := Lib.hid D2
  clear D1 D2 hq hr
  go_enter Tryz.func129, Tryz.ntmps129
  go_wp2_with fail
  refine (H1.out _).mono ?_
  rintro e w' ⟨rfl, n1, rfl⟩
  go_wp2_with fail
  refine (H2.out _).mono ?_
  rintro e w' ⟨rfl, n2, rfl⟩
  go_wp2_with fail
  exact bodyPost_ret (v := .tuple #[.agg #[.int .u64 (q : Int), .int .u64 (q2 : Int)], .int .u64 (r2 : Int)]) (by simp [results, Tryz.results129, go_sem]) rfl ⟨rfl, ((below_drewN' (((Below.refl _ w).alloc (Nat.le_refl _) _).alloc (by simp) _) _).setCell (by simp) _).setCell (by simp) _⟩

/-- the least word that is taken, by a division with a rest -/
theorem firstN_div {v n : Nat} (h0 : 0 < n) : firstN v n = (v * 2 ^ 64 + 2 ^ 64 % n) / n + (if 0 < (v * 2 ^ 64 + 2 ^ 64 % n) % n then 1 else 0) := by
  unfold firstN
  generalize (2 : Nat) ^ 64 = P
  generalize v * P + P % n = X
  have h := Nat.div_add_mod X n
  have hm := Nat.mod_lt X h0
  generalize X / n = q at *
  generalize X % n = r at *
  subst h
  rw [Nat.add_assoc, Nat.mul_add_div h0]
  split
  · have : (r + (n - 1)) / n = 1 := by
      rw [show r + (n - 1) = n * 1 + (r - 1) by omega, Nat.mul_add_div h0, Nat.div_eq_of_lt (by omega)]
    omega
  · rw [Nat.div_eq_of_lt (by omega)]
theorem firstN_le {v n : Nat} (hv : v < n) (hn : n < 2 ^ 64) : firstN v n < 2 ^ 64 := by
  have h0 : 0 < n := by omega
  have hl := lossN_le h0 hn
  unfold firstN
  unfold lossN at hl
  generalize (2 : Nat) ^ 64 = P at *
  refine (Nat.div_lt_iff_lt_mul h0).2 ?_
  have h1 : (v + 1) * P ≤ n * P := Nat.mul_le_mul_right _ hv
  rw [Nat.add_mul] at h1
  rw [Nat.mul_comm P n]
  generalize P % n = L at *
  generalize v * P = z at *
  generalize n * P = t at *
  omega

set_option maxRecDepth 100000 in
set_option maxHeartbeats 2000000 in
theorem first_any (w : World) (v n : Nat) (hv : v < n) (hn : n < 2 ^ 64) :
    Calls Tryz.prog 91 #[.int .u64 (v : Int), .int .u64 (n : Int)] w fun e w' => e = .returned (.int .u64 (firstN v n : Int)) ∧ Below w.heap.size w w' := by
  have h0 : 0 < n := by omega
  have hL := Lib.hid (lloss_any w n h0 hn)
  have hl := lossN_lt h0
  have bn : n ≤ 18446744073709551615 := by rw [p64] at hn; omega
  have hf := firstN_div (v := v) h0
  have hb := firstN_le hv hn
  have D := fun w' => wdiv_any w' v (lossN n) n h0 (by omega) bn (by omega)
  rw [Nat.mod_eq_of_lt hv, Nat.div_eq_of_lt hv] at D
  rw [p64] at hf hb
  unfold lossN at D
  rw [p64] at D
  generalize (v * 18446744073709551616 + 18446744073709551616 % n) / n = q at *
  generalize (v * 18446744073709551616 + 18446744073709551616 % n) % n = r at *
  have HD := Lib.hid D
  by_cases hr : 0 < r
  · rw [if_pos hr] at hf
    have b1 : q ≤ 18446744073709551614 := by omega
    have hr' := hr
    have HF := Lib.hid hf
    clear D hf hr hb hn
    go_enter Tryz.func91, Tryz.ntmps91
    go_wp2_with fail
    refine hL.out.mono ?_
    rintro e w' ⟨rfl, rfl⟩
    go_wp2_with fail
    refine (HD.out _).mono ?_
    rintro e w' ⟨rfl, hb⟩
    have HB := Lib.hid hb; clear hb
    go_wp2_with fail
    go_ret
    refine ⟨ret_int ?_, HB.out.alloc HB.out.size _⟩
    rw [HF.out]
    rfl
  · rw [if_neg hr] at hf
    have b1 : q ≤ 18446744073709551615 := by omega
    have hr' : decide (0 < r) = false := by simp; omega
    have HF := Lib.hid hf
    clear D hf hr hb hn
    go_enter Tryz.func91, Tryz.ntmps91
    go_wp2_with fail
    refine hL.out.mono ?_
    rintro e w' ⟨rfl, rfl⟩
    go_wp2_with fail
    refine (HD.out _).mono ?_
    rintro e w' ⟨rfl, hb⟩
    have HB := Lib.hid hb; clear hb
    go_wp2_with fail
    go_ret
    refine ⟨ret_int ?_, HB.out.alloc HB.out.size _⟩
    rw [HF.out]
    rfl

set_option maxRecDepth 100000 in
set_option maxHeartbeats 2000000 in
theorem ltakes_any (w : World) (a n : Nat) (h0 : 0 < n) (ha : a < 2 ^ 64) (hn : n < 2 ^ 64) :
    Calls Tryz.prog 47 #[.int .u64 (a : Int), .int .u64 (n : Int)] w fun e w' => e = .returned (.bool (tknB a n)) ∧ w = w' := by
  have hL := Lib.hid (lloss_any w n h0 hn)
  obtain ⟨m, hm⟩ : ∃ m, m = a * n % 2 ^ 64 := ⟨_, rfl⟩
  have e1 : IntKind.u64.wrap ((a : Int) * (n : Int)) = (m : Int) := by rw [mulN, wrapM, hm]
  have hB : tknB a n = decide (lossN n ≤ m) := by
    rw [hm]; exact decide_eq_decide.2 ⟨fun h => h.2, fun h => ⟨h0, h⟩⟩
  rw [hB]
  have q0 : (0 : Int) < (n : Int) := by omega
  clear hm hB
  generalize lossN n = L at *
  clear ha hn
  go_enter Tryz.func47, Tryz.ntmps47
  go_wp2_with fail
  refine hL.out.mono ?_
  rintro e w' ⟨rfl, rfl⟩
  go_wp2_with fail
  go_ret
  exact ⟨ret_bool (by simp), rfl⟩

set_option maxRecDepth 100000 in
set_option maxHeartbeats 2000000 in
theorem rtakes_any (w : World) (a n : Nat) (h0 : 0 < n) (ha : a < 2 ^ 64) (hn : n < 2 ^ 64) :
    Calls Tryz.prog 63 #[.int .u64 (a : Int), .int .u64 (n : Int)] w fun e w' => e = .returned (.bool (tknB a n)) ∧ Below w.heap.size w w' := by
  have hL := Lib.hid (rloss_any w n hn h0)
  obtain ⟨m, hm⟩ : ∃ m, m = a * n % 2 ^ 64 := ⟨_, rfl⟩
  have e1 : IntKind.u64.wrap ((a : Int) * (n : Int)) = (m : Int) := by rw [mulN, wrapM, hm]
  have hB : tknB a n = decide (2 ^ 64 % n ≤ m) := by
    rw [hm]; exact decide_eq_decide.2 ⟨fun h => h.2, fun h => ⟨h0, h⟩⟩
  rw [hB]
  have q0 : (0 : Int) < (n : Int) := by omega
  clear hm hB
  generalize 2 ^ 64 % n = L at *
  clear ha hn
  go_enter Tryz.func63, Tryz.ntmps63
  go_wp2_with fail
  refine hL.out.mono ?_
  rintro e w' ⟨rfl, hb⟩
  have HB := Lib.hid hb; clear hb
  go_wp2_with fail
  go_ret
  exact ⟨ret_bool (by simp), HB.out⟩

set_option maxRecDepth 100000 in
set_option maxHeartbeats 2000000 in
theorem lrank_any (w : World) (a n : Nat) (ha : a < 2 ^ 64) (hn : n < 2 ^ 64) (ht : tknB a n = true) :
    Calls Tryz.prog 95 #[.int .u64 (a : Int), .int .u64 (n : Int)] w fun e w' => e = .returned (.tuple #[.int .u64 (telN a n : Int), .int .u64 (rnkN a n : Int), .int .i64 0]) ∧ Below w.heap.size w w' := by
  have hk := tknB_iff.1 ht
  have h0 := hk.1
  have q0 : ((n : Int) == 0) = false := by simp; omega
  have T := Lib.hid (ltakes_any w a n h0 ha hn)
  have M := fun w' => wmul_any w' a n ha hn
  have hv := tells_lt ha h0
  have F := Lib.hid (fun w' => first_any w' (telN a n) n hv hn)
  have hfa := first_le hk
  have e1 : ((a : Int) - (firstN (telN a n) n : Int)) = (rnkN a n : Int) := by
    unfold rnkN telN
    omega
  rw [show a * n / 18446744073709551616 = telN a n from rfl] at M
  generalize a * n % 18446744073709551616 = lo at *
  have hM := Lib.hid M
  rw [ht] at T
  have hfa' : firstN (telN a n) n ≤ a := hfa
  have ba : a ≤ 18446744073709551615 := by rw [p64] at ha; omega
  generalize firstN (telN a n) n = f at *
  generalize telN a n = v at *
  generalize rnkN a n = r at *
  have hfld : ∀ (w : World) (x y : Value), (Instr.field 117 (.agg #[x, y]) 0).run Tryz.prog w = .ok x w := fun _ _ _ => by kernel_rfl
  clear M ha hn ht hk hv hfa
  go_enter Tryz.func95, Tryz.ntmps95
  go_wp2_with fail
  refine T.out.mono ?_
  rintro e w' ⟨rfl, rfl⟩
  go_wp2_with fail
  refine (hM.out _).mono ?_
  rintro e w1 ⟨rfl, hb⟩
  have HB := Lib.hid hb; clear hb
  go_wp2_with fail
  refine (F.out _).mono ?_
  rintro e w2 ⟨rfl, hb⟩
  have HB2 := Lib.hid hb; clear hb
  go_wp2_with fail
  go_ret3
  exact ⟨rfl, below_two HB.out HB2.out⟩

end Go.Proofs.YtcoohepkmhpdkaaGreat
