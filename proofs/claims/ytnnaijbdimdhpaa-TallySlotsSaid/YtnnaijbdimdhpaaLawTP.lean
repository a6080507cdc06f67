/-
  TallyPolys: the law's walk.
-/
import Derived.Test.YtnnaijbdimdhpaaTly22
namespace Go.Proofs.Ytnnaijbdimdhpaa
open Go.RowKit Go.Shelf
set_option linter.unusedVariables false
set_option linter.unusedSimpArgs false

theorem rd_blk {w : World} {sa : Option Addr} {n cap : Nat} {L : List Int} (h : Rd w 1 (.slice sa n cap) n (u64s L)) (hn : 0 < n) : ∀ b, sBlk (.slice sa n cap) = some b → b < w.heap.size := by
  intro b hb
  have hl := h.len_u64
  obtain ⟨b', off, rfl, hc⟩ := h.at hn
  cases hb
  exact World.block_lt_of_cell? _ _ (hc 0 _ (u64s_at L 0 (by omega)))

theorem poly_any_bad (p k : Int) (L : List Int) (sa : Option Addr) (n cap : Nat) (w : World) (hr : Rd w 1 (.slice sa n cap) n (u64s L)) (hp : 0 ≤ p ∧ p < 18446744073709551616) (hL : ∀ x ∈ L, 0 ≤ x) (h : pointsE p k L ≠ 0) :
    Calls Try.prog 24 #[.int .u64 p, .int .i64 k, .slice sa n cap] w (fun e w' => e = .returned (.tuple #[.slice none 0 0, .int .i64 (pointsE p k L)]) ∧ Below w.heap.size w w') ∧
    ∀ W, Below w.heap.size w W → Calls Try.prog 25 #[.int .u64 p, .int .i64 k, .slice sa n cap] W fun e w' => e = .returned (.int .i64 (pointsE p k L)) ∧ w' = W := by
  have hlen := hr.len_u64
  have hmax : n ≤ maxLen := hr.2.1
  by_cases h1 : ¬ p ∈ [(2 : Int), 3, 5, 7] ∨ k < 1 ∨ 4 < k ∨ L.length < 1 ∨ k < (L.length : Int)
  · rw [pointsE_one h1]
    rw [← hlen] at h1
    exact ⟨poly_bad1 p k sa n cap w hmax hp h1, fun W _ => points_bad1 p k sa n cap W hmax hp h1⟩
  · have hp' : p ∈ [(2 : Int), 3, 5, 7] := Decidable.byContradiction fun hn => h1 (.inl hn)
    obtain ⟨P, rfl⟩ : ∃ P : Nat, p = P := ⟨p.toNat, by omega⟩
    have hP : smallP P := by
      simp only [List.mem_cons, List.not_mem_nil, or_false] at hp'
      unfold smallP
      omega
    obtain ⟨K, rfl⟩ : ∃ K : Nat, k = K := ⟨k.toNat, by omega⟩
    have e : pointsE (P : Int) (K : Int) L = if ∃ x ∈ L, (P : Int) ≤ x then 2 else if ¬ L.Nodup then 15 else 0 := by
      unfold pointsE
      rw [if_neg h1]
    have hbad : (∃ x ∈ L, (P : Int) ≤ x) ∨ ¬ L.Nodup := by
      rw [e] at h
      by_cases hx : ∃ x ∈ L, (P : Int) ≤ x
      · exact .inl hx
      · rw [if_neg hx] at h
        by_cases hn : L.Nodup
        · rw [if_neg (fun h => h hn)] at h; exact absurd rfl h
        · exact .inr hn
    have e2 : pointsE (P : Int) (K : Int) L = if ∃ x ∈ L, (P : Int) ≤ x then 2 else 15 := by
      rw [e]
      by_cases hx : ∃ x ∈ L, (P : Int) ≤ x
      · rw [if_pos hx, if_pos hx]
      · rw [if_neg hx, if_neg hx, if_pos (hbad.resolve_left hx)]
    refine ⟨?_, fun W hb => ?_⟩
    · rw [e2]
      exact poly_bad2 P K L _ n w hr (rd_blk hr (by omega)) hP (by omega) (by omega) (by omega) (by omega) hbad
    · rw [e]
      exact points_rest P K L _ n W (hr.below hb) hP (by omega) (by omega) (by omega) (by omega)

set_option maxRecDepth 100000 in
set_option maxHeartbeats 4000000 in
theorem law_TallyPolys (w : World) (p k : Int) (sa : Option Addr) (n cap : Nat) (L : List Int) (hp : 0 ≤ p ∧ p < 18446744073709551616) (hL : ∀ x ∈ L, 0 ≤ x) (hr : Rd w 1 (.slice sa n cap) n (u64s L)) :
    Calls Try.prog 6 #[.int .u64 p, .int .i64 k, .slice sa n cap] w fun e w' => e = .returned (.bool true) ∧ Below w.heap.size w w' := by
  have CA := awake51 w
  by_cases hE : pointsE p k L = 0
  · obtain ⟨q, m, xs, rfl, rfl, rfl, hq, hm1, hm, hx1, hxm, hxs, hnd⟩ := pointsE_zero hE hL
    have hn := hr.len_u64
    rw [castL_len] at hn
    subst hn
    obtain ⟨hq7, hq1, -⟩ := smallP_facts hq
    have C1 := Lib.hid (fun W (hb : Below w.heap.size w W) => poly_ok q m xs _ W (hr.below hb) (rd_blk (hr.below hb) (by omega)) hq hm1 hm hx1 hxm hxs hnd)
    have C2 := Lib.hid (fun W (hb : Below w.heap.size w W) => points_rest q m (castL xs) _ xs.length W (hr.below hb) hq hm1 hm hx1 hxm)
    have C3 := Lib.hid (fun W (hb : Below w.heap.size w W) => refPoly_any q m xs _ W (hr.below hb) hq hm1 hm hx1 hxm hxs)
    have e0 : (if ∃ x ∈ castL xs, (q : Int) ≤ x then (2 : Int) else if ¬ (castL xs).Nodup then 15 else 0) = 0 := by
      have h1 : ¬ ∃ x ∈ castL xs, (q : Int) ≤ x := by
        rintro ⟨x, hx, hpx⟩
        obtain ⟨y, hy, rfl⟩ := List.mem_map.1 hx
        have := hxs y hy
        omega
      have h2 : (castL xs).Nodup := by
        unfold castL
        exact List.Pairwise.map _ (fun a b h e => h (by omega)) hnd
      rw [if_neg h1, if_neg (fun h => h h2)]
    rw [e0] at C2
    rw [polyL_even hq hxm hxs hnd] at C1
    rw [polyR_even hq hxm hxs hnd] at C3
    obtain ⟨N, hN⟩ : ∃ N, N = q ^ xs.length := ⟨_, rfl⟩
    have hN64 : N ≤ 2401 := by
      rw [hN]
      exact Nat.le_trans (Nat.pow_le_pow_left hq7 _) (Nat.pow_le_pow_right (n := 7) (j := 4) (by omega) (by omega))
    have hN0 : 0 < N := by rw [hN]; exact Nat.pow_pos (by omega)
    obtain ⟨E, hEE⟩ : ∃ E, E = q ^ (m - xs.length) := ⟨_, rfl⟩
    have hE64 : E ≤ 2401 := by
      rw [hEE]
      exact Nat.le_trans (Nat.pow_le_pow_left hq7 _) (Nat.pow_le_pow_right (n := 7) (j := 4) (by omega) (by omega))
    rw [← hN, ← hEE] at C1 C3
    have HPW : Hid (∀ j, j ≤ 4 → q ^ j ≤ 2401) := fun j hj => Nat.le_trans (Nat.pow_le_pow_left hq7 j) (Nat.pow_le_pow_right (n := 7) (j := 4) (by omega) hj)
    have HE := Lib.hid hEE
    obtain ⟨r, hrr⟩ : ∃ r, r = xs.length := ⟨_, rfl⟩
    rw [← hrr] at hr hx1 hxm C1 C2 C3 HE ⊢
    clear hE hL hEE hN e0 hnd hxs hq hr hrr
    go_enter Try.func6, Try.ntmps6
    go_wp2_with fail
    refine CA.mono ?_
    rintro e w1 ⟨rfl, hb1⟩
    have HB1 := Lib.hid hb1
    clear hb1 CA
    go_wp2_with fail
    refine (C1.out w1 HB1.out).mono ?_
    rintro e w2 ⟨bk, rfl, hr1, hb⟩
    have HB2 := Lib.hid (HB1.out.trans (hb.mono HB1.out.size))
    have HR := Lib.hid hr1
    clear hb HB1 C1 hr1
    go_wp2_with fail
    refine (C2.out w2 HB2.out).mono ?_
    rintro e w2 ⟨rfl, rfl⟩
    clear C2
    go_wp2_with fail
    go_loop [10, 11] (fun u i => ∃ j : Nat, r ≤ j ∧ j ≤ m ∧ i = .int .i64 j ∧ ∃ z : Nat, z ≤ 2401 ∧ Hid (z = q ^ (j - r)) ∧ u = .int .u64 z) (fun _ i => m - (intOf i).toNat)
    case atStart => exact ⟨r, Nat.le_refl _, hxm, rfl, 1, by omega, by show 1 = q ^ (r - r); rw [Nat.sub_self, Nat.pow_zero], rfl⟩
    case round =>
      obtain ⟨j, hj1, hj, rfl, z, hz, HZ, rfl⟩ := hrel
      by_cases hlt : j < m
      · have hzp2 : z * q ≤ 2401 * 7 := Nat.mul_le_mul hz hq7
        obtain ⟨Z, hZ⟩ : ∃ Z, Z = z * q := ⟨_, rfl⟩
        rw [← hZ] at hzp2
        have hmul : IntKind.u64.wrap ((z : Int) * (q : Int)) = (Z : Int) := by rw [show ((z : Int) * (q : Int)) = (Z : Int) by rw [hZ]; simp, IntKind.wrap_u64]; omega
        have HZ2 : Hid (Z = q ^ (j + 1 - r)) := by show Z = _; rw [hZ, HZ.out, ← Nat.pow_succ]; congr 1; omega
        have hZb : Z ≤ 2401 := by rw [HZ2.out]; exact HPW.out _ (by omega)
        clear hZ HZ
        go_wp2_with fail
        go_round
        case rel => exact ⟨j + 1, by omega, by omega, by go_num, Z, hZb, HZ2, rfl⟩
        case measure => simp [intOf]; omega
      · obtain rfl : j = m := by omega
        obtain rfl : z = E := by rw [HZ.out, HE.out]
        clear HZ HPW HE
        go_wp2_with fail
        refine (C3.out w2 HB2.out).mono ?_
        rintro e w3 ⟨v3, rfl, hr3, hb⟩
        obtain ⟨s3, c3, rfl⟩ := hr3.form
        have HB3 := Lib.hid (HB2.out.trans (hb.mono HB2.out.size)); have HR1 := Lib.hid (HR.out.below hb); have HR3 := Lib.hid hr3
        clear hb HB2 HR hr3 C3
        have W1 := Lib.hid (words_any w3 _ _ _ _ _ _ HR1.out HR3.out (by omega) (by omega))
        simp only [eqL_self] at W1
        go_wp2_with fail
        refine W1.out.mono ?_
        rintro e w4 ⟨rfl, n1, rfl⟩
        have hb4 : Below w3.heap.size w3 (w3.drewN n1) := below_drewN' (Below.refl _ _) n1
        have E1 := Lib.hid (refEven_rep _ _ _ (w3.drewN n1) (HR1.out.below hb4) (by omega))
        have HB4 := Lib.hid (HB3.out.trans (hb4.mono HB3.out.size))
        clear hb4 W1 HR1 HR3 HB3
        go_wp2_with fail
        refine E1.out.mono ?_
        rintro e w7 ⟨rfl, rfl⟩
        go_wp2_with fail
        go_ret
        exact ⟨rfl, HB4.out⟩
  · have hbd := fun W (hb : Below w.heap.size w W) => poly_any_bad p k L sa n cap W (hr.below hb) hp hL hE
    have C1 := Lib.hid (fun W hb => (hbd W hb).1)
    have C3 := Lib.hid (fun W hb => (hbd W hb).2 W (Below.refl _ _))
    obtain ⟨E, hEE⟩ : ∃ E, E = pointsE p k L := ⟨_, rfl⟩
    rw [← hEE] at C1 C3 hE
    have hne : (E != 0) = true := by simpa using hE
    clear hEE hE hbd hr hL
    go_enter Try.func6, Try.ntmps6
    go_wp2_with fail
    refine CA.mono ?_
    rintro e w1 ⟨rfl, hb1⟩
    have HB1 := Lib.hid hb1
    clear hb1 CA
    go_wp2_with fail
    refine (C1.out w1 HB1.out).mono ?_
    rintro e w2 ⟨rfl, hb⟩
    have HB2 := Lib.hid (HB1.out.trans (hb.mono HB1.out.size))
    clear hb HB1 C1
    go_wp2_with fail
    refine (C3.out w2 HB2.out).mono ?_
    rintro e w4 ⟨rfl, rfl⟩
    go_wp2_with fail
    go_ret
    exact ⟨rfl, HB2.out⟩

end Go.Proofs.Ytnnaijbdimdhpaa
