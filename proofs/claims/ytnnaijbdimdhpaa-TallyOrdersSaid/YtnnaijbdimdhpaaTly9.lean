/-
  The reference's Mask; the example of tally.
-/
import Derived.Test.YtnnaijbdimdhpaaTly8
import Derived.Test.YtnnaijbdimdhpaaWords
namespace Go.Proofs.Ytnnaijbdimdhpaa
open Go.RowKit Go.Shelf
set_option linter.unusedVariables false

theorem wfU {x : Int} (h : (Lit.int .u64 x).wf = true) : 0 ≤ x ∧ x < 18446744073709551616 := by
  simp [Lit.wf, IntKind.min, IntKind.max, IntKind.bits, IntKind.signed] at h
  omega

/-- the bits of a limit are one number -/
theorem mask_uniq {n b c : Nat} (h1 : n ≤ 2 ^ b) (h2 : b = 0 ∨ 2 ^ (b - 1) < n) (h3 : n ≤ 2 ^ c) (h4 : c = 0 ∨ 2 ^ (c - 1) < n) : b = c := by
  have key : ∀ x y : Nat, n ≤ 2 ^ x → (y = 0 ∨ 2 ^ (y - 1) < n) → y ≤ x := by
    intro x y hx hy
    refine Nat.le_of_not_lt fun hlt => ?_
    rcases hy with hy | hy
    · omega
    · have := Nat.pow_le_pow_right (n := 2) (by omega) (show x ≤ y - 1 by omega)
      omega
  have := key b c h1 h4
  have := key c b h3 h2
  omega

/-- what a mask counts -/
theorem mask_facts {m n b : Nat} (hn0 : 0 < n) (hnN : n ≤ 2 ^ m) (h1 : n ≤ 2 ^ b) (h2 : b = 0 ∨ 2 ^ (b - 1) < n) :
    ∃ q g, 0 < q ∧ cntL (maskT (2 ^ b) n) n (List.range (2 ^ m)) = List.replicate n ((q : Nat) : Int) ∧ cntN (maskT (2 ^ b) n) (List.range (2 ^ m)) = g ∧ q * n + g = 2 ^ m ∧ 2 * g < 2 ^ m := by
  have hbm : b ≤ m := by
    refine Nat.le_of_not_lt fun hlt => ?_
    rcases h2 with h2 | h2
    · omega
    · have := Nat.pow_le_pow_right (n := 2) (by omega) (show m ≤ b - 1 by omega)
      omega
  have hq : 2 ^ m = 2 ^ b * 2 ^ (m - b) := by rw [← Nat.pow_add]; congr 1; omega
  obtain ⟨q, hqq⟩ : ∃ q, q = 2 ^ (m - b) := ⟨_, rfl⟩
  rw [← hqq] at hq
  have hq0 : 0 < q := by rw [hqq]; exact Nat.two_pow_pos _
  have hg := cntN_mask hq h1
  refine ⟨q, _, hq0, cntL_mask hq h1, rfl, by rw [Nat.mul_comm]; exact hg, ?_⟩
  have h3 : 2 ^ m < 2 * (n * q) := by
    rcases h2 with rfl | h2
    · rw [Nat.pow_zero, Nat.one_mul] at hq
      rw [hq]
      have : 1 * q ≤ n * q := Nat.mul_le_mul_right q hn0
      omega
    · rcases Nat.eq_zero_or_pos b with rfl | hb
      · rw [Nat.pow_zero, Nat.one_mul] at hq
        rw [hq]
        have : 1 * q ≤ n * q := Nat.mul_le_mul_right q hn0
        omega
      · have h4 : 2 ^ b = 2 * 2 ^ (b - 1) := by rw [← Nat.pow_succ']; congr 1; omega
        have h5 : 2 ^ (b - 1) * q < n * q := Nat.mul_lt_mul_of_pos_right h2 hq0
        rw [hq, h4, Nat.mul_assoc]
        omega
  omega

set_option maxRecDepth 100000 in
set_option maxHeartbeats 2000000 in
/-- the reference's counts of a mask -/
theorem refMask_any (m n : Nat) (w : World) (hm1 : 1 ≤ m) (hm : m ≤ 12) (hn0 : 0 < n) (hnN : n ≤ 2 ^ m) :
    Calls Try.prog 15 #[.int .i64 m, .int .u64 n] w fun e w' =>
      ∃ b v, n ≤ 2 ^ b ∧ (b = 0 ∨ 2 ^ (b - 1) < n) ∧ e = .returned (.tuple #[v, .int .u64 (cntN (maskT (2 ^ b) n) (List.range (2 ^ m)))]) ∧ Rd w' 1 v n (u64s (cntL (maskT (2 ^ b) n) n (List.range (2 ^ m)))) ∧ Below w.heap.size w w' := by
  obtain ⟨N, hN⟩ : ∃ N, N = 2 ^ m := ⟨_, rfl⟩
  have hN64 : N ≤ 4096 := by rw [hN]; exact Nat.pow_le_pow_right (n := 2) (j := 12) (by omega) hm
  have hp := fun W => power_any m W (by omega)
  rw [← hN] at hp hnN ⊢
  clear hN
  go_enter Try.func15, Try.ntmps15
  go_wp2_with (go_at_call 46; refine (zeros_any n w (by omega)).mono ?_; rintro e w1 ⟨sa, cap, rfl, hown, hb1⟩; have HO := Lib.hid hown; have HB := Lib.hid hb1; clear hown hb1)
  obtain ⟨g, rfl, hBg, hgl, hnc, -, -⟩ := row_ptr HO.out hn0
  go_loop [8] (fun s => ∃ b S : Nat, b ≤ 12 ∧ S ≤ 4096 ∧ Hid (S = 2 ^ b) ∧ Hid (b = 0 ∨ 2 ^ (b - 1) < n) ∧ s = .int .u64 S) (fun s => 4096 - (intOf s).toNat)
  case atStart => exact ⟨0, 1, by omega, by omega, rfl, .inl rfl, rfl⟩
  case round =>
    obtain ⟨b, S, hb, hS, HS, HB1, rfl⟩ := hrel
    by_cases hlt : S < n
    · have hS0 : 0 < S := by rw [HS.out]; exact Nat.two_pow_pos b
      have hb12 : b < 12 := by
        refine Nat.lt_of_le_of_ne hb fun e => ?_
        have := HS.out
        rw [e] at this
        omega
      have hS2 : S * 2 = 2 ^ (b + 1) := by rw [HS.out, Nat.pow_succ]
      have hS3 : S * 2 ≤ 4096 := by rw [hS2]; exact Nat.pow_le_pow_right (n := 2) (j := 12) (by omega) (by omega)
      have HS2 := Lib.hid hS2
      clear hS2
      go_wp2
      go_round
      case rel => exact ⟨b + 1, S * 2, by omega, hS3, HS2, .inr (by rw [Nat.add_sub_cancel, ← HS.out]; exact hlt), by go_num⟩
      case measure => simp [intOf]; omega
    · have hnS : n ≤ S := by omega
      have HP : Hid (n ≤ 2 ^ b ∧ (b = 0 ∨ 2 ^ (b - 1) < n)) := ⟨by rw [← HS.out]; exact hnS, HB1.out⟩
      clear HB1
      obtain ⟨t, ht⟩ : ∃ t, t = maskT (2 ^ b) n := ⟨_, rfl⟩
      have htx : ∀ x, (x % S < n → t x = some (x % S)) ∧ (¬ x % S < n → t x = none) := by
        intro x
        rw [ht, ← HS.out]; unfold maskT
        exact ⟨fun h => if_pos h, fun h => if_neg h⟩
      have HT := Lib.hid ht
      clear ht
      go_wp2
      go_loopw [7, 9] (fun a i wr => ∃ k : Nat, k ≤ N ∧ i = .int .u64 k ∧ ∃ c : Nat, a = .int .u64 c ∧ Hid (c = cntN t (List.range k)) ∧ Hid (wr.ownsRow w.heap.size 22 1 (.slice (some ⟨g, 0, none⟩) n cap) n (u64s (cntL t n (List.range k)))) ∧ Hid (Below w.heap.size w wr)) (fun _ i _ => N - (intOf i).toNat)
      case atStart => exact ⟨0, Nat.zero_le _, rfl, 0, rfl, rfl, by show World.ownsRow _ _ _ _ _ _ _; rw [show List.range 0 = [] from rfl, cntL_nil]; exact HO.out, HB.out⟩
      case round =>
        obtain ⟨k, hk, rfl, c, rfl, HC, HR, HW⟩ := hrel
        have hcb : c ≤ 4096 := by rw [HC.out]; exact Nat.le_trans List.countP_le_length (by rw [List.length_range]; omega)
        by_cases hlt2 : k < N
        · by_cases hd : k % S < n
          · obtain ⟨v, hv⟩ : ∃ v, v = k % S := ⟨_, rfl⟩
            have htk := (htx k).1 hd
            have hq : (k : Int) % (S : Int) = (v : Int) := by rw [hv]; omega
            rw [← hv] at htk hd
            obtain ⟨d, hdc⟩ : ∃ d : Nat, d = (List.range k).countP fun x => t x == some v := ⟨_, rfl⟩
            have hdb : d ≤ 4096 := by rw [hdc]; exact Nat.le_trans List.countP_le_length (by rw [List.length_range]; omega)
            have hdv : (cntL t n (List.range k)).getD v 0 = (d : Int) := by rw [cntL_at _ n _ hd, hdc]
            obtain ⟨g', eg, _, _, _, hcell, hfro⟩ := row_ptr HR.out hn0
            cases eg
            have hcv : wr.cell? ⟨g, v, none⟩ = some (.int .u64 d) := by
              have := hcell v _ (u64s_at (cntL t n (List.range k)) v (by rw [cntL_len]; exact hd)); rwa [hdv] at this
            have hfv := hfro v
            have hS0 : 0 < S := by rw [HS.out]; exact Nat.two_pow_pos b
            have HV := Lib.hid hv
            clear hv hdc hcell hfro htx hlt
            go_wp2_with (go_at_call 17; refine (hp _).mono ?_; rintro e w2 ⟨rfl, rfl⟩)
            go_roundw
            case rel =>
              refine ⟨k + 1, by omega, by go_num, c, rfl, ?_, ?_, HW.out.setCell hBg _⟩
              · show c = _; rw [List.range_succ, cntN_some _ htk, ← HC.out]
              · show World.ownsRow _ _ _ _ _ _ _; rw [List.range_succ, cntL_some _ _ htk hd, hdv, u64s_set]; exact row_set HR.out hd _
            case measure => simp [intOf]; omega
          · have htk := (htx k).2 hd
            have hdZ : ¬ (k : Int) % (S : Int) < (n : Int) := by omega
            have hS0 : 0 < S := by rw [HS.out]; exact Nat.two_pow_pos b
            clear htx hlt
            go_wp2_with (go_at_call 17; refine (hp _).mono ?_; rintro e w2 ⟨rfl, rfl⟩)
            go_roundw
            case rel =>
              refine ⟨k + 1, by omega, by go_num, c + 1, by go_num, ?_, ?_, HW.out⟩
              · show c + 1 = _; rw [List.range_succ, cntN_none _ htk, ← HC.out]
              · show World.ownsRow _ _ _ _ _ _ _; rw [List.range_succ, cntL_none _ _ htk]; exact HR.out
            case measure => simp [intOf]; omega
        · obtain rfl : k = N := by omega
          clear htx
          go_wp2_with (go_at_call 17; refine (hp _).mono ?_; rintro e w2 ⟨rfl, rfl⟩)
          refine bodyPost_ret (results_tmp2 rfl _ _ _) rfl ?_
          have hr := HR.out
          have hc := HC.out
          rw [HT.out] at hr hc
          exact ⟨b, _, HP.out.1, HP.out.2, by rw [← hc]; rfl, rd_of_row hr, HW.out⟩

set_option maxRecDepth 100000 in
set_option maxHeartbeats 2000000 in
/-- the example -/
theorem awake51 (w : World) : Calls Try.prog 10 #[] w fun e w' => e = .returned (.bool true) ∧ Below w.heap.size w w' := by
  have hL := lemire_ok 3 3 w (by omega) (by omega) (by omega) (by omega)
  go_enter Try.func10, Try.ntmps10
  go_wp2_with (go_at_call 11; refine hL.mono ?_; rintro e w1 ⟨b, rfl, hr, hb⟩; (have c0 : w1.cell? ⟨b, 0, none⟩ = some (.int .u64 2) := by (obtain ⟨b', off, e1, e2⟩ := hr.at (by omega); cases e1; exact e2 0 _ rfl)); (have c2 : w1.cell? ⟨b, 2, none⟩ = some (.int .u64 2) := by (obtain ⟨b', off, e1, e2⟩ := hr.at (by omega); cases e1; exact e2 2 _ rfl)))
  go_ret
  exact ⟨rfl, hb⟩

end Go.Proofs.Ytnnaijbdimdhpaa
