/-
  The references of tally: powers, zeros, what is wrong, the counts of Lemire's words, whether all are alike.
-/
import Derived.Test.YtnnaijbdimdhpaaTly4
namespace Go.Proofs.Ytnnaijbdimdhpaa
open Go.RowKit Go.Shelf
set_option linter.unusedVariables false

set_option maxRecDepth 100000 in
set_option maxHeartbeats 1000000 in
theorem power_any (n : Nat) (w : World) (hn : n ≤ 63) :
    Calls Try.prog 17 #[.int .i64 n] w fun e w' => e = .returned (.int .u64 (2 ^ n : Nat)) ∧ w' = w := by
  go_enter Try.func17, Try.ntmps17
  go_wp2
  go_loop [3, 4] (fun x i => ∃ k : Nat, k ≤ n ∧ i = .int .i64 k ∧ ∃ p : Nat, Hid (p = 2 ^ k) ∧ x = .int .u64 p) (fun _ i => n - (intOf i).toNat)
  case atStart => exact ⟨0, Nat.zero_le _, rfl, 1, rfl, rfl⟩
  case round =>
    obtain ⟨k, hk, rfl, p, HP, rfl⟩ := hrel
    by_cases hlt : k < n
    · have hpb : 2 * p ≤ 9223372036854775808 := by
        rw [HP.out, ← Nat.pow_succ']; exact Nat.pow_le_pow_right (n := 2) (j := 63) (by omega) (by omega)
      go_wp2
      go_round
      case rel => exact ⟨k + 1, by omega, by go_num, 2 * p, by show 2 * p = _; rw [HP.out, Nat.pow_succ'], by go_num⟩
      case measure => simp [intOf]; omega
    · obtain rfl : k = n := by omega
      go_wp2
      go_ret
      exact ⟨ret_int (by rw [HP.out]; simp), rfl⟩

set_option maxRecDepth 100000 in
set_option maxHeartbeats 1000000 in
theorem zeros_any (n : Nat) (w : World) (hn : n ≤ 100000) :
    Calls Try.prog 46 #[.int .u64 n] w fun e w' => ∃ sa cap, e = .returned (.slice sa n cap) ∧ w'.ownsRow w.heap.size 22 1 (.slice sa n cap) n (u64s (List.replicate n 0)) ∧ Below w.heap.size w w' := by
  go_enter Try.func46, Try.ntmps46
  go_wp2
  go_loopw [3, 4] (fun v i wr => ∃ (k : Nat) (sa : Option Addr) (cap : Nat), k ≤ n ∧ i = .int .u64 k ∧ v = .slice sa k cap ∧ Hid (wr.ownsRow w.heap.size 22 1 (.slice sa k cap) k (u64s (List.replicate k 0))) ∧ Hid (Below w.heap.size w wr)) (fun _ i _ => n - (intOf i).toNat)
  case atStart => exact ⟨0, none, 0, Nat.zero_le _, rfl, rfl, World.ownsRow_nil _ _ _ _, Below.refl _ _⟩
  case round =>
    obtain ⟨k, sa, cap, hk, rfl, rfl, HO, HB⟩ := hrel
    by_cases hlt : k < n
    · go_wp2_with (at_builtin; refine app_u64 _ rfl _ _ rfl w.heap.size _ _ _ rfl HO.out _ _ rfl ?qg ?qn ?qb ?_)
      case qg => rfl
      case qn => omega
      case qb => exact HB.out.size
      intro v' w1 hown hchg hfresh
      obtain ⟨sa', cap', rfl⟩ := (rd_of_row hown).form
      have HO1 := Lib.hid hown; have HC1 := Lib.hid hchg
      clear hown hchg hfresh
      go_wp2
      go_roundw
      case rel =>
        refine ⟨k + 1, sa', cap', by omega, by go_num, rfl, ?_, ?_⟩
        · have := HO1.out; rw [List.replicate_succ', u64s_snoc]; exact this
        · exact HB.out.trans (HC1.out.below HB.out.size fun i hi => (HO.out.lt i hi).1)
      case measure => simp [intOf]; omega
    · obtain rfl : k = n := by omega
      go_wp2
      go_ret
      exact ⟨sa, cap, rfl, HO.out, HB.out⟩

set_option maxRecDepth 100000 in
set_option maxHeartbeats 2000000 in
/-- the reference's counts of Lemire's words -/
theorem refLem_any (m n : Nat) (w : World) (hm1 : 1 ≤ m) (hm : m ≤ 12) (hn0 : 0 < n) (hnN : n ≤ 2 ^ m) :
    Calls Try.prog 14 #[.int .i64 m, .int .u64 n] w fun e w' =>
      ∃ v, e = .returned (.tuple #[v, .int .u64 (2 ^ m % n : Nat)]) ∧ Rd w' 1 v n (u64s (List.replicate n ((2 ^ m / n : Nat) : Int))) ∧ Below w.heap.size w w' := by
  obtain ⟨N, hN⟩ : ∃ N, N = 2 ^ m := ⟨_, rfl⟩
  have hN64 : N ≤ 4096 := by rw [hN]; exact Nat.pow_le_pow_right (j := 12) (by omega) hm
  have hp := fun W => power_any m W (by omega)
  have hL := lem_lost hn0 hnN
  have hE := cntL_lem hn0 hnN
  rw [← hN] at hp hnN hL hE ⊢
  clear hN
  have hlemt : ∀ x, x < N → ∀ v, lemT N n x = some v → v < n := fun x hx v h => lemT_lt hnN hn0 hx h
  go_enter Try.func14, Try.ntmps14
  go_wp2_with (first
    | (go_at_call 46; refine (zeros_any n w (by omega)).mono ?_; rintro e w1 ⟨sa, cap, rfl, hown, hb1⟩; have HO := Lib.hid hown; have HB := Lib.hid hb1; clear hown hb1)
    | (go_at_call 17; refine (hp _).mono ?_; rintro e w2 ⟨rfl, rfl⟩))
  obtain ⟨g, rfl, hBg, hgl, hnc, -, -⟩ := row_ptr HO.out hn0
  go_loopw [7, 9] (fun a i wr => ∃ k : Nat, k ≤ N ∧ i = .int .u64 k ∧ ∃ c : Nat, a = .int .u64 c ∧ Hid (c = cntN (lemT N n) (List.range k)) ∧ Hid (wr.ownsRow w.heap.size 22 1 (.slice (some ⟨g, 0, none⟩) n cap) n (u64s (cntL (lemT N n) n (List.range k)))) ∧ Hid (Below w.heap.size w wr)) (fun _ i _ => N - (intOf i).toNat)
  case atStart => exact ⟨0, Nat.zero_le _, rfl, 0, rfl, rfl, by show World.ownsRow _ _ _ _ _ _ _; rw [show List.range 0 = [] from rfl, cntL_nil]; exact HO.out, HB.out⟩
  case round =>
    obtain ⟨k, hk, rfl, c, rfl, HC, HR, HW⟩ := hrel
    have hcb : c ≤ 4096 := by rw [HC.out]; exact Nat.le_trans List.countP_le_length (by rw [List.length_range]; omega)
    by_cases hlt : k < N
    · obtain ⟨M, hM⟩ : ∃ M, M = k * n := ⟨_, rfl⟩
      have hMb : M ≤ 4096 * 4096 := by rw [hM]; exact Nat.mul_le_mul (by omega) (by omega)
      have hmul : IntKind.u64.wrap ((k : Int) * (n : Int)) = (M : Int) := by
        rw [show ((k : Int) * (n : Int)) = (M : Int) by rw [hM]; simp, IntKind.wrap_u64]; omega
      have hltp := hlemt k hlt
      have hN0 : 0 < N := by omega
      by_cases hd : M % N < N % n
      · have htx : lemT N n k = none := by unfold lemT; rw [← hM, if_pos hd]
        have hdZ : (M : Int) % (N : Int) < (N : Int) % (n : Int) := by omega
        have HM := Lib.hid hM
        clear hM hlemt hltp hd
        go_wp2
        go_region
        all_goals go_wp2
        go_roundw
        case rel =>
          refine ⟨k + 1, by omega, by go_num, c + 1, by go_num, ?_, ?_, HW.out.drew⟩
          · show c + 1 = _; rw [List.range_succ, cntN_none _ htx, ← HC.out]
          · show World.ownsRow _ _ _ _ _ _ _; rw [List.range_succ, cntL_none _ _ htx]; exact HR.out
        case measure => simp [intOf]; omega
      · have htx : lemT N n k = some (M / N) := by unfold lemT; rw [← hM, if_neg hd]
        have hv := hltp _ htx
        have hdZ : ¬ (M : Int) % (N : Int) < (N : Int) % (n : Int) := by omega
        obtain ⟨v, hvq⟩ : ∃ v, v = M / N := ⟨_, rfl⟩
        have hq : (M : Int) / (N : Int) = (v : Int) := by rw [hvq]; omega
        rw [← hvq] at htx hv
        obtain ⟨d, hdc⟩ : ∃ d : Nat, d = (List.range k).countP fun x => lemT N n x == some v := ⟨_, rfl⟩
        have hdb : d ≤ 4096 := by rw [hdc]; exact Nat.le_trans List.countP_le_length (by rw [List.length_range]; omega)
        have hdv : (cntL (lemT N n) n (List.range k)).getD v 0 = (d : Int) := by rw [cntL_at _ n _ hv, hdc]
        obtain ⟨g', eg, _, _, _, hcell, hfro⟩ := row_ptr HR.out hn0
        cases eg
        have hcv : wr.cell? ⟨g, v, none⟩ = some (.int .u64 d) := by
          have := hcell v _ (u64s_at (cntL (lemT N n) n (List.range k)) v (by rw [cntL_len]; exact hv)); rwa [hdv] at this
        have hfv := hfro v
        have HM := Lib.hid hM
        have HV := Lib.hid hvq
        clear hM hlemt hltp hd hvq hdc hcell hfro
        go_wp2
        go_region
        all_goals go_wp2
        go_roundw
        case rel =>
          refine ⟨k + 1, by omega, by go_num, c, rfl, ?_, ?_, HW.out.drew.setCell hBg _⟩
          · show c = _; rw [List.range_succ, cntN_some _ htx, ← HC.out]
          · show World.ownsRow _ _ _ _ _ _ _; rw [List.range_succ, cntL_some _ _ htx hv, hdv, u64s_set]; exact row_set HR.out hv _
        case measure => simp [intOf]; omega
    · obtain rfl : k = N := by omega
      have hcN : c = k % n := HC.out.trans hL
      have HCN := Lib.hid hcN
      have HRR := HR.out
      rw [hE] at HRR
      have HR2 := Lib.hid HRR
      clear hcN HRR hL hE hp
      go_wp2
      refine bodyPost_ret (results_tmp2 rfl _ _ _) rfl ?_
      exact ⟨_, by rw [← HCN.out]; rfl, rd_of_row HR2.out, HW.out⟩

end Go.Proofs.Ytnnaijbdimdhpaa
