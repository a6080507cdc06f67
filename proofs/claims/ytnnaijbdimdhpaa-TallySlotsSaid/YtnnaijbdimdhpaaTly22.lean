/-
  The reference's Poly.
-/
import Derived.Test.YtnnaijbdimdhpaaTly21
namespace Go.Proofs.Ytnnaijbdimdhpaa
open Go.RowKit Go.Shelf
set_option linter.unusedVariables false

theorem evN_snoc {p : Nat} (hp : 0 < p) (x a : Nat) : ∀ c : List Nat, evN p x (c ++ [a]) = (evN p x c + a * (x ^ c.length % p)) % p
  | [] => by
    show (0 * x + a) % p = (0 + a * (1 % p)) % p
    rw [Nat.zero_mul, Nat.zero_add, Nat.zero_add, Nat.mul_mod, Nat.mod_mod, ← Nat.mul_mod, Nat.mul_one]
  | b :: c => by
    show (evN p x (c ++ [a]) * x + b) % p = ((evN p x c * x + b) % p + a * (x ^ (c.length + 1) % p)) % p
    rw [evN_snoc hp x a c, mod_mul_add]
    generalize evN p x c = e
    obtain ⟨q, hq⟩ : ∃ q, q = x ^ c.length := ⟨_, rfl⟩
    rw [Nat.pow_succ, ← hq]
    have h1 : (e + a * (q % p)) * x + b = (a * x) * (q % p) + (e * x + b) := by
      rw [Nat.add_mul, Nat.mul_right_comm]; omega
    have h2 : a * (q * x) = a * x * q := by rw [Nat.mul_comm q x, Nat.mul_assoc]
    rw [h1, Nat.add_comm ((e * x + b) % p), mod_add_mod', h2, ← Nat.add_mod_mod, mod_add_mod']
theorem digs_len (p : Nat) : ∀ k s, (digs p k s).length = k
  | 0, _ => rfl
  | k + 1, s => by simp [digs, digs_len p k]
theorem digs_take {p : Nat} : ∀ (k i s : Nat), i < k → (digs p k s).take (i + 1) = (digs p k s).take i ++ [s / p ^ i % p]
  | 0, i, s, h => by omega
  | k + 1, 0, s, h => by simp [digs]
  | k + 1, i + 1, s, h => by
    show s % p :: (digs p k (s / p)).take (i + 1) = s % p :: (digs p k (s / p)).take i ++ [_]
    rw [digs_take k i (s / p) (by omega), Nat.div_div_eq_div_mul, ← Nat.pow_succ', List.cons_append]

/-- the counts of the numbers below s -/
def polyS (p k : Nat) (xs : List Nat) (s : Nat) : List Nat := (List.range s).map fun s => idxP p xs (digs p k s)

set_option maxRecDepth 100000 in
set_option maxHeartbeats 4000000 in
theorem refPoly_any (p k : Nat) (xs : List Nat) (v : Value) (w : World) (hr : Rd w 1 v xs.length (u64s (castL xs))) (hp : smallP p) (hk1 : 1 ≤ k) (hk : k ≤ 4) (hn1 : 1 ≤ xs.length) (hn : xs.length ≤ k) (hxs : ∀ x ∈ xs, x < p) :
    Calls Try.prog 26 #[.int .u64 p, .int .i64 k, v] w fun e w' => ∃ v', e = .returned v' ∧ Rd w' 1 v' (p ^ xs.length) (u64s (cnt (p ^ xs.length) (polyR p k xs))) ∧ Below w.heap.size w w' := by
  obtain ⟨sa, cap, rfl⟩ := hr.form
  have hcap := hr.cap_le.1
  obtain ⟨hp7, hp1, -⟩ := smallP_facts hp
  have hp2 : 2 ≤ p := by unfold smallP at hp; omega
  obtain ⟨n, hnn⟩ : ∃ n, n = xs.length := ⟨_, rfl⟩
  rw [← hnn] at hr hn1 hn hcap ⊢
  obtain ⟨N, hN⟩ : ∃ N, N = p ^ n := ⟨_, rfl⟩
  have hN64 : N ≤ 2401 := by
    rw [hN]
    exact Nat.le_trans (Nat.pow_le_pow_left hp7 n) (Nat.pow_le_pow_right (n := 7) (j := 4) (by omega) (by omega))
  have hN0 : 0 < N := by rw [hN]; exact Nat.pow_pos (by omega)
  obtain ⟨M, hM⟩ : ∃ M, M = p ^ k := ⟨_, rfl⟩
  have hM64 : M ≤ 2401 := by
    rw [hM]
    exact Nat.le_trans (Nat.pow_le_pow_left hp7 k) (Nat.pow_le_pow_right (n := 7) (j := 4) (by omega) (by omega))
  have hfin : polyS p k xs M = polyR p k xs := by rw [hM]; rfl
  rw [← hN, ← hfin]
  have HN := Lib.hid hN; have HM := Lib.hid hM; have HNN := Lib.hid hnn; have HRD := Lib.hid hr; have HXS := Lib.hid hxs
  have hpow : ∀ j, j ≤ 4 → p ^ j ≤ 2401 := fun j hj => Nat.le_trans (Nat.pow_le_pow_left hp7 j) (Nat.pow_le_pow_right (n := 7) (j := 4) (by omega) hj)
  have HPW := Lib.hid hpow
  clear hN hM hnn hr hxs hp hfin hpow
  go_enter Try.func26, Try.ntmps26
  go_wp2
  go_loop [7, 8] (fun z i => ∃ j : Nat, j ≤ k ∧ i = .int .i64 j ∧ ∃ y : Nat, Hid (y = p ^ j) ∧ z = .int .u64 y) (fun _ i => k - (intOf i).toNat)
  case atStart => exact ⟨0, Nat.zero_le _, rfl, 1, rfl, rfl⟩
  case round =>
    obtain ⟨j, hj, rfl, z, HZ, rfl⟩ := hrel
    have hzb : z ≤ 2401 := by rw [HZ.out]; exact HPW.out j (by omega)
    by_cases hlt : j < k
    · have hzp2 : z * p ≤ 2401 * 7 := Nat.mul_le_mul hzb hp7
      obtain ⟨Z, hZ⟩ : ∃ Z, Z = z * p := ⟨_, rfl⟩
      rw [← hZ] at hzp2
      have hmul : IntKind.u64.wrap ((z : Int) * (p : Int)) = (Z : Int) := by rw [show ((z : Int) * (p : Int)) = (Z : Int) by rw [hZ]; simp, IntKind.wrap_u64]; omega
      have HZ2 : Hid (Z = p ^ (j + 1)) := by show Z = _; rw [hZ, HZ.out, Nat.pow_succ]
      clear hZ HZ
      go_wp2
      go_round
      case rel => exact ⟨j + 1, by omega, by go_num, Z, HZ2, rfl⟩
      case measure => simp [intOf]; omega
    · obtain rfl : z = M := by rw [HZ.out, HM.out, show j = k by omega]
      obtain rfl : k = j := by omega
      clear HZ hlt hj
      go_wp2
      go_loop [9, 29] (fun z i => ∃ j : Nat, j ≤ n ∧ i = .int .i64 j ∧ ∃ y : Nat, Hid (y = p ^ j) ∧ z = .int .u64 y) (fun _ i => n - (intOf i).toNat)
      case atStart => exact ⟨0, Nat.zero_le _, rfl, 1, rfl, rfl⟩
      case round =>
        obtain ⟨j, hj, rfl, y, HY, rfl⟩ := hrel
        have hyb : y ≤ 2401 := by rw [HY.out]; exact HPW.out j (by omega)
        by_cases hlt : j < n
        · have hzp2 : y * p ≤ 2401 * 7 := Nat.mul_le_mul hyb hp7
          obtain ⟨Z, hZ⟩ : ∃ Z, Z = y * p := ⟨_, rfl⟩
          rw [← hZ] at hzp2
          have hmul : IntKind.u64.wrap ((y : Int) * (p : Int)) = (Z : Int) := by rw [show ((y : Int) * (p : Int)) = (Z : Int) by rw [hZ]; simp, IntKind.wrap_u64]; omega
          have HZ2 : Hid (Z = p ^ (j + 1)) := by show Z = _; rw [hZ, HY.out, Nat.pow_succ]
          clear hZ HY
          go_wp2
          go_round
          case rel => exact ⟨j + 1, by omega, by go_num, Z, HZ2, rfl⟩
          case measure => simp [intOf]; omega
        · obtain rfl : y = N := by rw [HY.out, HN.out, show j = n by omega]
          obtain rfl : n = j := by omega
          clear HY hlt hj
          go_wp2_with (go_at_call 46; refine (zeros_any y _ (by omega)).mono ?_; rintro e w1 ⟨sb, capb, rfl, hown, hb1⟩; have HO := Lib.hid hown; have HB := Lib.hid hb1; clear hown hb1)
          obtain ⟨g, rfl, hBg, hgl, hnc, -, -⟩ := row_ptr HO.out hN0
          go_loopw [11, 12, 14, 15, 16, 17, 18, 44] (fun u11 u12 u14 u15 u16 u17 u18 u44 wr => ∃ s : Nat, s ≤ z ∧ u11 = .int .u64 s ∧ Hid (wr.ownsRow w.heap.size 22 1 (.slice (some ⟨g, 0, none⟩) y capb) y (u64s (cnt y (polyS p k xs s)))) ∧ Hid (Below w.heap.size w wr)) (fun u11 _ _ _ _ _ _ _ _ => z - (intOf u11).toNat)
          case atStart => exact ⟨0, Nat.zero_le _, rfl, by show World.ownsRow _ _ _ _ _ _ _; rw [show polyS p k xs 0 = [] from rfl, cnt_nil]; exact HO.out, HB.out⟩
          case round =>
            clear HO HB
            obtain ⟨s, hs, rfl, HR, HW⟩ := hrel
            by_cases hlt : s < z
            · go_wp2
              go_loop [12, 14, 15, 16, 17, 18, 44] (fun u12 u14 u15 u16 u17 u18 u44 => ∃ q : Nat, q ≤ n ∧ u44 = .int .i64 q ∧ ∃ at' : Nat, at' ≤ 2401 ∧ u12 = .int .u64 at' ∧ Hid (at' = valN p 0 ((xs.take q).map fun y => evN p y (digs p k s)))) (fun _ _ _ _ _ _ u44 => n - (intOf u44).toNat)
              case atStart => exact ⟨0, Nat.zero_le _, rfl, 0, by omega, rfl, rfl⟩
              case round =>
                obtain ⟨q, hq, rfl, a, hab, rfl, HA⟩ := hrel
                by_cases hltq : q < n
                · have hrdx : Rd wr 1 (.slice sa n cap) n (u64s (castL xs)) := HRD.out.below HW.out
                  have hqx : q < xs.length := by rw [← HNN.out]; exact hltq
                  obtain ⟨b, off, rfl, hcell⟩ := hrdx.at (by omega)
                  have hc := hcell q _ (u64s_at (castL xs) q (by rw [castL_len]; exact hqx))
                  rw [castL_at xs hqx] at hc
                  obtain ⟨x, hx⟩ : ∃ x, x = xs.getD q 0 := ⟨_, rfl⟩
                  rw [← hx] at hc
                  have hgx : xs[q] = x := by rw [hx]; simp [List.getD, List.getElem?_eq_getElem hqx]
                  have hxp : x < p := by rw [← hgx]; exact HXS.out _ (List.getElem_mem hqx)
                  have HGX := Lib.hid hgx
                  have HQX := Lib.hid hqx
                  clear hcell hrdx hx hgx
                  go_wp2
                  go_loop [15, 16, 17, 18] (fun u15 u16 u17 u18 => ∃ i : Nat, i ≤ k ∧ u18 = .int .i64 i ∧ ∃ y pw rest : Nat, u15 = .int .u64 y ∧ u16 = .int .u64 pw ∧ u17 = .int .u64 rest ∧ y < p ∧ pw < p ∧ rest ≤ 2401 ∧ Hid (y = evN p x ((digs p k s).take i)) ∧ Hid (pw = x ^ i % p) ∧ Hid (rest = s / p ^ i)) (fun _ _ _ u18 => k - (intOf u18).toNat)
                  case atStart => exact ⟨0, Nat.zero_le _, rfl, 0, 1, s, rfl, rfl, rfl, by omega, by omega, by omega, rfl, by show 1 = x ^ 0 % p; rw [Nat.pow_zero, Nat.mod_eq_of_lt (by omega)], by show s = s / p ^ 0; rw [Nat.pow_zero, Nat.div_one]⟩
                  case round =>
                    obtain ⟨i, hi, rfl, y, pw, rest, rfl, rfl, rfl, hyp, hpwp, hrb, HY, HP, HRS⟩ := hrel
                    by_cases hlti : i < k
                    · obtain ⟨dg, hdg⟩ : ∃ dg, dg = rest % p := ⟨_, rfl⟩
                      have hdp : dg < p := by rw [hdg]; exact Nat.mod_lt _ (by omega)
                      obtain ⟨M1, hM1⟩ : ∃ X, X = dg * pw := ⟨_, rfl⟩
                      have hM1b : M1 ≤ 7 * 7 := by rw [hM1]; exact Nat.mul_le_mul (by omega) (by omega)
                      obtain ⟨M2, hM2⟩ : ∃ X, X = pw * x := ⟨_, rfl⟩
                      have hM2b : M2 ≤ 7 * 7 := by rw [hM2]; exact Nat.mul_le_mul (by omega) (by omega)
                      have g1 : (rest : Int) % (p : Int) = (dg : Int) := by rw [hdg, Int.natCast_emod]
                      have g2 : IntKind.u64.wrap ((dg : Int) * (pw : Int)) = (M1 : Int) := by rw [show ((dg : Int) * (pw : Int)) = (M1 : Int) by rw [hM1]; simp, IntKind.wrap_u64]; omega
                      obtain ⟨y', hy'⟩ : ∃ X, X = (y + M1) % p := ⟨_, rfl⟩
                      have g3 : ((y : Int) + (M1 : Int)) % (p : Int) = (y' : Int) := by rw [hy', Int.natCast_emod, Int.natCast_add]
                      have g4 : IntKind.u64.wrap ((pw : Int) * (x : Int)) = (M2 : Int) := by rw [show ((pw : Int) * (x : Int)) = (M2 : Int) by rw [hM2]; simp, IntKind.wrap_u64]; omega
                      obtain ⟨pw', hpw'⟩ : ∃ X, X = M2 % p := ⟨_, rfl⟩
                      have g5 : (M2 : Int) % (p : Int) = (pw' : Int) := by rw [hpw', Int.natCast_emod]
                      obtain ⟨rest', hrest'⟩ : ∃ X, X = rest / p := ⟨_, rfl⟩
                      have g6 : (rest : Int) / (p : Int) = (rest' : Int) := by rw [hrest', Int.natCast_ediv]
                      have hy'p : y' < p := by rw [hy']; exact Nat.mod_lt _ (by omega)
                      have hpw'p : pw' < p := by rw [hpw']; exact Nat.mod_lt _ (by omega)
                      have hrb' : rest' ≤ 2401 := by rw [hrest']; exact Nat.le_trans (Nat.div_le_self _ _) hrb
                      have HY2 : Hid (y' = evN p x ((digs p k s).take (i + 1))) := by
                        show y' = _
                        rw [digs_take k i s hlti, evN_snoc (by omega), ← HY.out, ← HRS.out, ← hdg, List.length_take, digs_len, Nat.min_eq_left (by omega), ← HP.out, ← hM1, hy']
                      have HP2 : Hid (pw' = x ^ (i + 1) % p) := by
                        show pw' = _
                        rw [hpw', hM2, HP.out, Nat.pow_succ, Nat.mod_mul_mod]
                      have HR2 : Hid (rest' = s / p ^ (i + 1)) := by
                        show rest' = _
                        rw [hrest', HRS.out, Nat.div_div_eq_div_mul, Nat.pow_succ]
                      clear hdg hM1 hM2 hy' hpw' hrest' HY HP HRS
                      go_wp2
                      go_round
                      case rel => exact ⟨i + 1, by omega, by go_num, y', pw', rest', by first | rfl | rw [g3], by first | rfl | rw [g5], by first | rfl | rw [g6], hy'p, hpw'p, hrb', HY2, HP2, HR2⟩
                      case measure => simp [intOf]; omega
                    · obtain rfl : k = i := by omega
                      obtain ⟨MM, hMM⟩ : ∃ X, X = a * p := ⟨_, rfl⟩
                      have hMMb : MM ≤ 2401 * 7 := by rw [hMM]; exact Nat.mul_le_mul hab hp7
                      have g7 : IntKind.u64.wrap ((a : Int) * (p : Int)) = (MM : Int) := by rw [show ((a : Int) * (p : Int)) = (MM : Int) by rw [hMM]; simp, IntKind.wrap_u64]; omega
                      have hye : y = evN p x (digs p k s) := by
                        have := HY.out
                        rwa [List.take_of_length_le (by rw [digs_len]; exact Nat.le_refl _)] at this
                      have hnew : MM + y = valN p 0 ((xs.take (q + 1)).map fun y => evN p y (digs p k s)) := by
                        rw [List.take_add_one, List.getElem?_eq_getElem HQX.out, List.map_append, HGX.out]
                        unfold valN
                        rw [List.foldl_append]
                        have := HA.out
                        unfold valN at this
                        rw [← this, hMM, hye]
                        rfl
                      have hMy : MM + y ≤ 2401 := by
                        have h1 := valN_lt (p := p) (by omega) ((xs.take (q + 1)).map fun y => evN p y (digs p k s)) (by
                          intro z hz
                          obtain ⟨z', _, rfl⟩ := List.mem_map.1 hz
                          exact evN_lt (by omega) z' _)
                        rw [← hnew, List.length_map, List.length_take] at h1
                        have h2 := HPW.out (min (q + 1) xs.length) (by have := HNN.out; omega)
                        omega
                      have HNEW := Lib.hid hnew
                      clear hMM hye hnew HY HP HRS HA
                      go_wp2
                      go_round
                      case rel => exact ⟨q + 1, by omega, by go_num, MM + y, hMy, by go_num, HNEW.out⟩
                      case measure => simp [intOf]; omega
                · obtain rfl : n = q := by omega
                  have ha : a = idxP p xs (digs p k s) := by
                    have h1 := HA.out
                    rw [List.take_of_length_le (by have := HNN.out; omega)] at h1
                    exact h1
                  have hin : a < y := by
                    rw [ha, HN.out, HNN.out]
                    exact idxP_lt (by omega) xs _
                  obtain ⟨L, hL⟩ : ∃ L, L = polyS p k xs s := ⟨_, rfl⟩
                  have hLS : polyS p k xs (s + 1) = L ++ [a] := by
                    rw [hL, ha]; unfold polyS; rw [List.range_succ, List.map_append]; rfl
                  have hLl : L.length ≤ 2401 := by
                    rw [hL]; unfold polyS; rw [List.length_map, List.length_range]; omega
                  have hR := HR.out
                  rw [← hL] at hR
                  obtain ⟨d, hd⟩ : ∃ d, d = L.count a := ⟨_, rfl⟩
                  have hdb : d ≤ 2401 := by rw [hd]; exact Nat.le_trans List.count_le_length hLl
                  have hdv := cnt_at y L hin
                  rw [← hd] at hdv
                  obtain ⟨g', eg, _, _, _, hcell, hfro⟩ := row_ptr hR hN0
                  cases eg
                  have hcv : wr.cell? ⟨g, a, none⟩ = some (.int .u64 d) := by
                    have := hcell a _ (u64s_at (cnt y L) a (by rw [cnt_len]; exact hin)); rwa [hdv] at this
                  have hfv := hfro a
                  have HR2 : Hid (World.ownsRow (wr.setCell ⟨g, a, none⟩ (.int .u64 ((d : Int) + 1))) w.heap.size 22 1 (.slice (some ⟨g, 0, none⟩) y capb) y (u64s (cnt y (polyS p k xs (s + 1))))) := by
                    rw [hLS, cnt_snoc y L hin, hdv, u64s_set]; exact row_set hR hin _
                  clear hd hdv hL hLS hcell hfro hR HR ha HA
                  go_wp2
                  go_roundw
                  case rel => exact ⟨s + 1, by omega, by go_num, HR2, HW.out.setCell hBg _⟩
                  case measure => simp [intOf]; omega
            · obtain rfl : s = z := by omega
              go_wp2
              go_ret
              exact ⟨_, rfl, rd_of_row HR.out, HW.out⟩

end Go.Proofs.Ytnnaijbdimdhpaa
