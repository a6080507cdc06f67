/-
  tally.Poly: the errors of keys; how many lists of coefficients come to any targets.
-/
import Derived.Test.YtnnaijbdimdhpaaTly17
namespace Go.Proofs.Ytnnaijbdimdhpaa
open Go.RowKit Go.Shelf
set_option linter.unusedVariables false
attribute [local go_sem] Oper.semAt_some

set_option maxRecDepth 100000 in
set_option maxHeartbeats 2000000 in
/-- what tally.Poly says of keys that are too great, or alike -/
theorem poly_bad2 (p k : Nat) (L : List Int) (v : Value) (n : Nat) (w : World) (hr : Rd w 1 v n (u64s L)) (hlv : ∀ b, sBlk v = some b → b < w.heap.size) (hp : smallP p) (hk1 : 1 ≤ k) (hk : k ≤ 4) (hn1 : 1 ≤ n) (hn : n ≤ k) (h : (∃ x ∈ L, (p : Int) ≤ x) ∨ ¬ L.Nodup) :
    Calls Try.prog 24 #[.int .u64 p, .int .i64 k, v] w fun e w' => e = .returned (.tuple #[.slice none 0 0, .int .i64 (if ∃ x ∈ L, (p : Int) ≤ x then 2 else 15)]) ∧ Below w.heap.size w w' := by
  obtain ⟨sa, cap, rfl⟩ := hr.form
  have hcap := hr.cap_le.1
  obtain ⟨W, hW, sW, i1, i2, hb, hC⟩ := poly_head p (.slice sa n cap) w
  obtain ⟨hp7, hp1, hd⟩ := smallP_facts hp
  rw [hd] at hC
  have hrW := hr.below hb
  have c1 := cell0_of i1
  have c2 := cell0_of i2
  have hO := uover_any L _ n w.heap.size p W hrW (by omega) c1
  have hS := fun j (hj : j ≤ n) x => ucontains_any (L.take j) _ j x W (hrW.to_u64 hj cap (by omega)) (by omega)
  have HB := Lib.hid hb
  obtain rfl := hr.len_u64
  have HRW := Lib.hid hrW
  by_cases hx : ∃ x ∈ L, (p : Int) ≤ x
  · have hd2 : decide (∃ x ∈ L, (p : Int) ≤ x) = true := decide_eq_true hx
    rw [hd2] at hO
    simp only [if_pos hx]
    clear hx hd2 h hd hS hrW hb i1 i2 sW hlv hr HRW hp
    subst hW
    go_enter Try.func24, Try.ntmps24
    go_wp2_with (first | (refine hC.mono ?_; rintro e w' ⟨rfl, rfl⟩) | (refine hO.mono ?_; rintro e w' ⟨rfl, rfl⟩))
    exact bodyPost_ret (results_tmp2 rfl _ _ _) rfl ⟨rfl, HB.out⟩
  · have hd2 : decide (∃ x ∈ L, (p : Int) ≤ x) = false := decide_eq_false hx
    rw [hd2] at hO
    simp only [if_neg hx]
    have hnd : ¬ L.Nodup := h.resolve_left hx
    have HND := Lib.hid hnd
    have HS := Lib.hid hS
    clear hx hd2 h hd hS hrW hb i1 i2 sW hlv hr hp hnd
    obtain ⟨W', hW'⟩ : ∃ W', W' = W := ⟨_, rfl⟩
    subst hW
    go_enter Try.func24, Try.ntmps24
    go_wp2_with (first | (refine hC.mono ?_; rintro e w' ⟨rfl, rfl⟩) | (refine hO.mono ?_; rintro e w' ⟨rfl, rfl⟩))
    clear hC hO
    go_loop [8, 9, 10, 44] (fun u1 u2 u3 i => ∃ j : Nat, j ≤ L.length ∧ i = .int .i64 j ∧ Hid ((L.take j).Nodup) ∧ ∃ z : Nat, z ≤ 7 ^ j ∧ u1 = .int .u64 z) (fun _ _ _ i => L.length - (intOf i).toNat)
    case atStart => exact ⟨0, Nat.zero_le _, rfl, by show List.Nodup _; simp, 1, by omega, rfl⟩
    case round =>
      obtain ⟨j, hj, rfl, HN, z, hz, rfl⟩ := hrel
      have hzb : z ≤ 2401 := Nat.le_trans hz (Nat.pow_le_pow_right (n := 7) (j := 4) (by omega) (by omega))
      by_cases hlt : j < L.length
      · obtain ⟨b, off, rfl, hcell⟩ := HRW.out.at (by omega)
        have hc := hcell j _ (u64s_at L j hlt)
        have hSj := HS.out j (by omega) (L.getD j 0)
        have hT := take_dup (L := L) hlt
        have hT2 := take_nodup_succ (L := L) hlt HN.out
        generalize L.getD j 0 = x at *
        have hzp : z * p ≤ 7 ^ (j + 1) := by rw [Nat.pow_succ]; exact Nat.mul_le_mul hz hp7
        have hzp2 : z * p ≤ 2401 * 7 := Nat.mul_le_mul hzb hp7
        obtain ⟨Z, hZ⟩ : ∃ Z, Z = z * p := ⟨_, rfl⟩
        rw [← hZ] at hzp hzp2
        have hmul : IntKind.u64.wrap ((z : Int) * (p : Int)) = (Z : Int) := by rw [show ((z : Int) * (p : Int)) = (Z : Int) by rw [hZ]; simp, IntKind.wrap_u64]; omega
        have HZ := Lib.hid hzp
        clear hcell hZ HS hz hzp
        by_cases hx : x ∈ L.take j
        · have hd : decide (x ∈ L.take j) = true := decide_eq_true hx
          rw [hd] at hSj
          clear hx hd hT hT2
          go_wp2_with ((refine hSj.mono ?_; rintro e w' ⟨rfl, rfl⟩))
          exact bodyPost_ret (results_tmp2 rfl _ _ _) rfl ⟨rfl, HB.out⟩
        · have hd : decide (x ∈ L.take j) = false := decide_eq_false hx
          rw [hd] at hSj
          have HN2 := Lib.hid (hT2 hx)
          clear hx hd hT hT2
          go_wp2_with ((refine hSj.mono ?_; rintro e w' ⟨rfl, rfl⟩))
          go_round
          case rel => exact ⟨j + 1, by omega, by go_num, HN2.out, Z, HZ.out, rfl⟩
          case measure => simp [intOf]; omega
      · exfalso
        have := HN.out
        rw [List.take_of_length_le (by omega)] at this
        exact HND.out this

end Go.Proofs.Ytnnaijbdimdhpaa
