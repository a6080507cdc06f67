/-
  The reference's Add; tally.Add where something is wrong.
-/
import Derived.Test.YtnnaijbdimdhpaaTly13
namespace Go.Proofs.Ytnnaijbdimdhpaa
open Go.RowKit Go.Shelf
set_option linter.unusedVariables false

/-- of all pairs whose first one is below a -/
def addO (N S P x y a : Nat) : List Nat := (List.range a).flatMap fun a => (List.range N).map (addI N S P x y a)
theorem addO_succ (N S P x y a : Nat) : addO N S P x y a ++ (List.range N).map (addI N S P x y a) = addO N S P x y (a + 1) := by
  simp [addO, List.range_succ, List.flatMap_append]
theorem addO_len (N S P x y a : Nat) : (addO N S P x y a).length = a * N := by
  unfold addO
  rw [flatMap_len _ N _ (by simp), List.length_range]

set_option maxRecDepth 100000 in
set_option maxHeartbeats 4000000 in
theorem refAdd_any (m b x y : Nat) (w : World) (hm1 : 1 ≤ m) (hm : m ≤ 3) (hb1 : 1 ≤ b) (hb : b ≤ m) (hx : x < 2 ^ m) (hy : y < 2 ^ m) :
    Calls Try.prog 21 #[.int .i64 m, .int .i64 b, .int .u64 x, .int .u64 y] w fun e w' => ∃ v, e = .returned v ∧ Rd w' 1 v (4 ^ b) (u64s (cnt (4 ^ b) (addL (2 ^ (m + b - 1)) (2 ^ (m - 1)) (2 ^ b) x y))) ∧ Below w.heap.size w w' := by
  obtain ⟨al, hal⟩ : ∃ al, al = m + b - 1 := ⟨_, rfl⟩
  obtain ⟨s, hs⟩ : ∃ s, s = m - 1 := ⟨_, rfl⟩
  have hal5 : al ≤ 5 := by omega
  have hals : al = s + b := by omega
  have halz : (m : Int) + (b : Int) - 1 = (al : Int) := by omega
  have hsz : (m : Int) - 1 = (s : Int) := by omega
  obtain ⟨c, hc⟩ : ∃ c, c = 2 * b := ⟨_, rfl⟩
  have hcz : 2 * (b : Int) = (c : Int) := by omega
  have hc6 : c ≤ 6 := by omega
  obtain ⟨n, hn⟩ : ∃ n, n = 4 ^ b := ⟨_, rfl⟩
  have hnc : n = 2 ^ c := by rw [hn, hc, Nat.pow_mul]
  have hn64 : n ≤ 64 := by rw [hnc]; exact Nat.pow_le_pow_right (n := 2) (j := 6) (by omega) hc6
  have hn0 : 0 < n := by rw [hnc]; exact Nat.two_pow_pos c
  obtain ⟨N, hN⟩ : ∃ N, N = 2 ^ al := ⟨_, rfl⟩
  have hN64 : N ≤ 32 := by rw [hN]; exact Nat.pow_le_pow_right (n := 2) (j := 5) (by omega) hal5
  have hN0 : 0 < N := by rw [hN]; exact Nat.two_pow_pos al
  obtain ⟨S, hS⟩ : ∃ S, S = 2 ^ s := ⟨_, rfl⟩
  have hS0 : 0 < S := by rw [hS]; exact Nat.two_pow_pos s
  have hS64 : S ≤ 4 := by rw [hS]; exact Nat.pow_le_pow_right (n := 2) (j := 2) (by omega) (by omega)
  obtain ⟨P, hP⟩ : ∃ P, P = 2 ^ b := ⟨_, rfl⟩
  have hP0 : 0 < P := by rw [hP]; exact Nat.two_pow_pos b
  have hP64 : P ≤ 8 := by rw [hP]; exact Nat.pow_le_pow_right (n := 2) (j := 3) (by omega) (by omega)
  have hx8 : x < 8 := Nat.lt_of_lt_of_le hx (Nat.pow_le_pow_right (n := 2) (j := 3) (by omega) hm)
  have hy8 : y < 8 := Nat.lt_of_lt_of_le hy (Nat.pow_le_pow_right (n := 2) (j := 3) (by omega) hm)
  have hpA := fun W => power_any al W (by omega)
  have hpS := fun W => power_any s W (by omega)
  have hpC := fun W => power_any c W (by omega)
  have hpB := fun W => power_any b W (by omega)
  rw [← hN] at hpA
  rw [← hS] at hpS
  rw [← hnc] at hpC
  rw [← hP] at hpB
  rw [← hal, ← hs, ← hn, ← hN, ← hS, ← hP]
  have HNP : Hid (n = P * P ∧ N = S * P) := ⟨by rw [hn, hP, ← Nat.mul_pow], by rw [hN, hS, hP, hals, Nat.pow_add]⟩
  clear hs hx hy hal hc hn hnc hN hS hP hals
  go_enter Try.func21, Try.ntmps21
  go_wp2_with (first
    | (go_at_call 46; refine (zeros_any n _ (by omega)).mono ?_; rintro e w1 ⟨sa, cap, rfl, hown, hb1⟩; have HO := Lib.hid hown; have HB := Lib.hid hb1; clear hown hb1)
    | (go_at_call 17; (first | (with_reducible refine (hpA _).mono ?_) | (with_reducible refine (hpS _).mono ?_) | (with_reducible refine (hpC _).mono ?_)); rintro e w ⟨rfl, rfl⟩))
  obtain ⟨g, rfl, hBg, hgl, hnc, -, -⟩ := row_ptr HO.out hn0
  clear hpA hpS hpC
  go_loopw [12, 13, 14, 15] (fun i j u v wr => ∃ k : Nat, k ≤ N ∧ i = .int .u64 k ∧ Hid (wr.ownsRow w.heap.size 22 1 (.slice (some ⟨g, 0, none⟩) n cap) n (u64s (cnt n (addO N S P x y k)))) ∧ Hid (Below w.heap.size w wr)) (fun i _ _ _ _ => N - (intOf i).toNat)
  case atStart => exact ⟨0, Nat.zero_le _, rfl, by show World.ownsRow _ _ _ _ _ _ _; rw [show addO N S P x y 0 = [] from rfl, cnt_nil]; exact HO.out, HB.out⟩
  case round =>
    obtain ⟨k, hk, rfl, HR, HW⟩ := hrel
    by_cases hlt : k < N
    · go_wp2
      go_loopw [13, 14, 15] (fun j u v wr => ∃ q : Nat, q ≤ N ∧ j = .int .u64 q ∧ Hid (wr.ownsRow w.heap.size 22 1 (.slice (some ⟨g, 0, none⟩) n cap) n (u64s (cnt n (addO N S P x y k ++ (List.range q).map (addI N S P x y k))))) ∧ Hid (Below w.heap.size w wr)) (fun j _ _ _ => N - (intOf j).toNat)
      case atStart => exact ⟨0, Nat.zero_le _, rfl, by show World.ownsRow _ _ _ _ _ _ _; rw [show (List.range 0).map (addI N S P x y k) = [] from rfl, List.append_nil]; exact HR.out, HW.out⟩
      case round =>
        clear HR HW
        obtain ⟨q, hq, rfl, HR, HW⟩ := hrel
        by_cases hltq : q < N
        · obtain ⟨idx, hidx⟩ : ∃ idx, idx = addI N S P x y k q := ⟨_, rfl⟩
          have hin : idx < n := by
            rw [hidx, HNP.out.1]
            exact addI_lt hS0 hP0 HNP.out.2
          obtain ⟨L, hL⟩ : ∃ L, L = addO N S P x y k ++ (List.range q).map (addI N S P x y k) := ⟨_, rfl⟩
          have hLS : addO N S P x y k ++ (List.range (q + 1)).map (addI N S P x y k) = L ++ [idx] := by
            rw [hL, hidx, List.range_succ, List.map_append, List.append_assoc]; rfl
          have hLl : L.length ≤ 2048 := by
            rw [hL, List.length_append, addO_len, List.length_map, List.length_range]
            have := Nat.mul_le_mul hk (Nat.le_refl N)
            have := Nat.mul_le_mul hN64 hN64
            omega
          have hR := HR.out
          rw [← hL] at hR
          obtain ⟨d, hd⟩ : ∃ d, d = L.count idx := ⟨_, rfl⟩
          have hdb : d ≤ 2048 := by rw [hd]; exact Nat.le_trans List.count_le_length hLl
          have hdv := cnt_at n L hin
          rw [← hd] at hdv
          obtain ⟨g', eg, _, _, _, hcell, hfro⟩ := row_ptr hR hn0
          cases eg
          have hcv : wr.cell? ⟨g, idx, none⟩ = some (.int .u64 d) := by
            have := hcell idx _ (u64s_at (cnt n L) idx (by rw [cnt_len]; exact hin)); rwa [hdv] at this
          have hfv := hfro idx
          have HR2 : Hid (World.ownsRow (wr.setCell ⟨g, idx, none⟩ (.int .u64 ((d : Int) + 1))) w.heap.size 22 1 (.slice (some ⟨g, 0, none⟩) n cap) n (u64s (cnt n (addO N S P x y k ++ (List.range (q + 1)).map (addI N S P x y k))))) := by
            rw [hLS, cnt_snoc n L hin, hdv, u64s_set]; exact row_set hR hin _
          obtain ⟨X1, hX1⟩ : ∃ X, X = k * x := ⟨_, rfl⟩
          obtain ⟨Y1, hY1⟩ : ∃ X, X = k * y := ⟨_, rfl⟩
          have hX1b : X1 ≤ 32 * 8 := by rw [hX1]; exact Nat.mul_le_mul (by omega) (by omega)
          have hY1b : Y1 ≤ 32 * 8 := by rw [hY1]; exact Nat.mul_le_mul (by omega) (by omega)
          have hw1 : IntKind.u64.wrap ((k : Int) * (x : Int)) = (X1 : Int) := by rw [show ((k : Int) * (x : Int)) = (X1 : Int) by rw [hX1]; simp, IntKind.wrap_u64]; omega
          have hw2 : IntKind.u64.wrap ((k : Int) * (y : Int)) = (Y1 : Int) := by rw [show ((k : Int) * (y : Int)) = (Y1 : Int) by rw [hY1]; simp, IntKind.wrap_u64]; omega
          have hidx2 : idx = (X1 + q) % N / S * P + (Y1 + q) % N / S := by rw [hidx, hX1, hY1]; rfl
          have hr1 : ((X1 : Int) + (q : Int)) % (N : Int) = (((X1 + q) % N : Nat) : Int) := by rw [Int.natCast_emod, Int.natCast_add]
          have hr2 : ((Y1 : Int) + (q : Int)) % (N : Int) = (((Y1 + q) % N : Nat) : Int) := by rw [Int.natCast_emod, Int.natCast_add]
          have hR1 := Nat.mod_lt (X1 + q) hN0
          have hR2 := Nat.mod_lt (Y1 + q) hN0
          generalize (X1 + q) % N = R1 at *
          generalize (Y1 + q) % N = R2 at *
          have hd1 : (R1 : Int) / (S : Int) = ((R1 / S : Nat) : Int) := by omega
          have hd2 : (R2 : Int) / (S : Int) = ((R2 / S : Nat) : Int) := by omega
          have hU1 := Nat.div_le_self R1 S
          have hU2 := Nat.div_le_self R2 S
          generalize R1 / S = U1 at *
          generalize R2 / S = U2 at *
          obtain ⟨UP, hUP⟩ : ∃ X, X = U1 * P := ⟨_, rfl⟩
          rw [← hUP] at hidx2
          have hmul : IntKind.u64.wrap ((U1 : Int) * (P : Int)) = (UP : Int) := by rw [show ((U1 : Int) * (P : Int)) = (UP : Int) by rw [hUP]; simp, IntKind.wrap_u64]; omega
          have hsum : (UP : Int) + (U2 : Int) = (idx : Int) := by omega
          clear hd hdv hUP hidx hidx2 hL hLS hX1 hY1 hcell hfro hR HR
          go_wp2_with (go_at_call 17; refine (hpB _).mono ?_; rintro e w2 ⟨rfl, rfl⟩)
          go_roundw
          case rel =>
            exact ⟨q + 1, by omega, by go_num, HR2, HW.out.setCell hBg _⟩
          case measure => simp [intOf]; omega
        · obtain rfl : q = N := by omega
          have HR2 : Hid (World.ownsRow wr w.heap.size 22 1 (.slice (some ⟨g, 0, none⟩) n cap) n (u64s (cnt n (addO q S P x y (k + 1))))) := by
            rw [← addO_succ]; exact HR.out
          clear HR
          go_wp2
          go_roundw
          case rel => exact ⟨k + 1, by omega, by go_num, HR2, HW⟩
          case measure => simp [intOf]; omega
    · obtain rfl : k = N := by omega
      go_wp2
      go_ret
      exact ⟨_, rfl, rd_of_row HR.out, HW.out⟩

set_option maxRecDepth 100000 in
set_option maxHeartbeats 2000000 in
theorem add_bad (m b : Int) (x y : Nat) (w : World) (hx : x < 18446744073709551616) (hy : y < 18446744073709551616) (hE : keysE 3 m b x y ≠ 0) :
    Calls Try.prog 19 #[.int .i64 m, .int .i64 b, .int .u64 x, .int .u64 y] w fun e w' => e = .returned (.tuple #[.slice none 0 0, .int .i64 (keysE 3 m b x y)]) ∧ Below w.heap.size w w' := by
  have h2 := fun W => two_any 3 m b x y W (by omega) hx hy
  obtain ⟨W1, e1, s1, n1, k1⟩ := alloc_facts w (.cells #[.int .i64 b] 3)
  obtain ⟨W2, e2, s2, n2, k2⟩ := alloc_facts W1 (.cells #[.int .u64 x] 22)
  obtain ⟨W3, e3, s3, n3, k3⟩ := alloc_facts W2 (.cells #[.int .u64 y] 22)
  rw [s1] at n2 s2
  rw [s2] at n3 s3
  have hb4 : Below w.heap.size w W3 := by
    rw [e3, e2, e1]
    exact (((Below.refl _ w).alloc (Nat.le_refl _) _).alloc (by simp) _).alloc (by simp; omega) _
  generalize keysE 3 m b x y = E at h2 hE ⊢
  have hne : (E != 0) = true := by simpa using hE
  clear hE
  refine (callsIn_wide (n := 0)).1 ?_
  refine callsIn_of_wp_marks Try.func19 rfl trivial ?_ rfl
  simp only [Try.ntmps19, List.size_toArray, List.length_cons, List.length_nil, Nat.reduceAdd, Nat.reduceSub, Array.replicate_succ, Array.replicate_zero, List.push_toArray, List.append_toArray, List.nil_append, List.cons_append]
  gi_wp2_with ((try refine ⟨trivial, ?_⟩); (try refine ⟨rfl, ?_⟩); (refine (callsIn_wide.2 (h2 _)).mono ?_; rintro e w' ⟨rfl, rfl⟩))
  rw [← e1, ← e2, ← e3]
  exact ⟨_, results_tmp2 rfl _ _ _, rfl, hb4⟩

end Go.Proofs.Ytnnaijbdimdhpaa
