/-
  pdqsort's small helpers at few distinct words: whether a part is sorted, and the pivot.
-/
import Derived.Test.YtamjhblhkabpaaaSo1
namespace Go.Proofs.Ytamjhblhkabpaaa
open Go.RowKit
set_option linter.unusedVariables false
set_option linter.unusedSimpArgs false

theorem rise_more {a i : Nat} {L : List Int} (h : Rise a i L) (hi : a < i) (hx : L.getD (i - 1) 0 < L.getD i 0) : Rise a (i + 1) L := by
  intro s t h1 h2 h3
  by_cases e : t = i
  · subst e
    by_cases e2 : s = t - 1
    · rw [e2]; exact hx
    · have := h s (t - 1) h1 (by omega) (by omega)
      omega
  · exact h s t h1 h2 (by omega)

set_option maxRecDepth 100000 in
set_option maxHeartbeats 4000000 in
theorem partU_any (w : World) (g n cap a b : Nat) (L : List Int) (h : RowU w g n cap L) (hnd : L.Nodup) (hab : a < b) (hb : b ≤ n) (h16 : n ≤ 16) :
    Calls Try.prog 32 #[.slice (some ⟨g, 0, none⟩) n cap, .int .i64 a, .int .i64 b] w fun e w' => ∃ r q, e = .returned (.bool r) ∧ (r = true → Rise a b L) ∧ w' = w.drewN q := by
  obtain ⟨hLn, hg, hcap, hcell, hfz⟩ := h.ptr (by omega)
  have HLN := Lib.hid hLn; have HCE := Lib.hid hcell; have HND := Lib.hid hnd
  have h50 : (b : Int) - (a : Int) < 50 := by omega
  clear hLn hcell hfz hnd h hcap
  go_enter Try.func32, Try.ntmps32
  go_wp2
  go_loopw [7, 8] (fun u v wr => u = .int .i64 ((a : Int) + 1) ∧ v = .int .i64 0 ∧ Hid (wr = w)) (fun _ _ _ => 0)
  case atStart => exact ⟨rfl, rfl, rfl⟩
  case round =>
    obtain ⟨rfl, rfl, HW0⟩ := hrel
    go_wp2
    go_loopw [7] (fun u w2 => ∃ i q : Nat, a + 1 ≤ i ∧ i ≤ b ∧ u = .int .i64 (i : Int) ∧ Hid (Rise a i L) ∧ Hid (w2 = w.drewN q)) (fun u _ => b - (intOf u).toNat)
    case atStart => exact ⟨a + 1, 0, Nat.le_refl _, hab, by go_num, fun s t h1 h2 h3 => by omega, HW0⟩
    case round =>
      obtain ⟨i, q, hi1, hi2, rfl, HR, HW⟩ := hrel
      have hce : ∀ t, t < n → wr.cell? ⟨g, t, none⟩ = some (.int .u64 (L.getD t 0)) := fun t ht => by rw [HW.out]; simpa using HCE.out t (by rw [← HLN.out]; exact ht)
      by_cases hlt : i < b
      · obtain ⟨i, rfl⟩ : ∃ i', i = i' + 1 := ⟨i - 1, by omega⟩
        have c1 := hce (i + 1) (by omega)
        have c2 := hce i (by omega)
        have e1 : (i : Int) + 1 - 1 = (i : Int) := by omega
        have u1 : IntKind.i64.wrap (i : Int) = (i : Int) := by rw [IntKind.wrap_i64]; omega
        have z0 : (i : Int) + 1 < (b : Int) := by omega
        have z1 : (i : Int) + 1 < (n : Int) := by omega
        have z2 : (i : Int) < (n : Int) := by omega
        have z3 : (0 : Int) ≤ (i : Int) := by omega
        have z4 : (0 : Int) ≤ (i : Int) + 1 := by omega
        have hLL := fun W => lessU_any (L.getD (i + 1) 0) (L.getD i 0) W
        by_cases hlt2 : L.getD (i + 1) 0 < L.getD i 0
        · rw [decide_eq_true hlt2] at hLL
          generalize L.getD (i + 1) 0 = x at *
          generalize L.getD i 0 = y at *
          have hne : ((i : Int) + 1 == (b : Int)) = false := by rw [beq_eq_false_iff_ne]; omega
          have HLL := Lib.hid hLL
          clear hce hLL hlt2 HCE
          go_wp2
          go_quiet ((go_at_call 33; exact Calls.quiet_of_same (HLL.out _)))
          go_wp2
          go_ret
          exact ⟨false, q + nq, rfl, (fun h => by cases h), by rw [HW.out]; simp⟩
        · have hx : L.getD i 0 < L.getD (i + 1) 0 := by
            by_cases he : L.getD i 0 = L.getD (i + 1) 0
            · have := nodup_inj HND.out (by have := HLN.out; omega) (by have := HLN.out; omega) he
              omega
            · omega
          have hR := rise_more HR.out (by omega) hx
          rw [decide_eq_false hlt2] at hLL
          generalize L.getD (i + 1) 0 = x at *
          generalize L.getD i 0 = y at *
          have HLL := Lib.hid hLL; have HR2 := Lib.hid hR
          clear hce hLL hlt2 hx hR HCE
          go_wp2
          go_quiet ((go_at_call 33; exact Calls.quiet_of_same (HLL.out _)))
          go_wp2
          go_roundw
          case rel => exact ⟨i + 1 + 1, q + nq, by omega, by omega, by go_num, HR2, by show _ = _; rw [HW.out]; simp⟩
          case measure => simp [intOf]; omega
      · obtain rfl : i = b := by omega
        clear hce HCE
        go_wp2
        go_quiet (fail)
        go_wp2
        go_ret
        exact ⟨true, q + nq, rfl, fun _ => HR.out, by rw [HW.out]; simp⟩

/-- two places in order; nothing is written but the count -/
theorem order2U_any (w : World) (g n cap i j cb c : Nat) (L : List Int) (h : RowU w g n cap L) (hi : i < n) (hj : j < n) (h16 : n ≤ 16) (hc : w.heap[cb]? = some (.cells #[.int .i64 (c : Int)] 3 (0, 0))) (hc9 : c ≤ 9) (hne : cb ≠ g) :
    Calls Try.prog 44 #[.slice (some ⟨g, 0, none⟩) n cap, .int .i64 i, .int .i64 j, .pointer (some ⟨cb, 0, none⟩)] w fun e w' => ∃ i' j' c' : Nat, e = .returned (.tuple #[.int .i64 i', .int .i64 j']) ∧ i' < n ∧ j' < n ∧ (i' = i ∨ i' = j) ∧ (j' = i ∨ j' = j) ∧ c' ≤ c + 1 ∧ w'.heap[cb]? = some (.cells #[.int .i64 (c' : Int)] 3 (0, 0)) ∧ Chg (fun k => k = cb) w w' := by
  obtain ⟨hLn, hg, hcap, hcell, hfz⟩ := h.ptr (by omega)
  have c1 := hcell i (by omega)
  have c2 := hcell j (by omega)
  have k0 := cell_of hc 0 rfl
  have f0 := frozen_of hc 0
  have hLL := fun W => lessU_any (L.getD j 0) (L.getD i 0) W
  have z1 : (i : Int) < (n : Int) := by omega
  have z2 : (j : Int) < (n : Int) := by omega
  generalize L.getD i 0 = x at *
  generalize L.getD j 0 = y at *
  have HC := Lib.hid hc
  by_cases hlt : y < x
  · rw [decide_eq_true hlt] at hLL
    have HLL := Lib.hid hLL
    clear hLn hcell hfz h hcap hlt hLL hc
    go_enter Try.func44, Try.ntmps44
    go_wp2
    go_quiet ((go_at_call 33; exact Calls.quiet_of_same (HLL.out _)))
    go_wp2
    go_ret2
    exact ⟨j, i, c + 1, rfl, hj, hi, .inr rfl, .inl rfl, Nat.le_refl _, by rw [set_of (w := w.drewN nq) (by rw [drewN_heap]; exact HC.out) 0 _]; rfl, ((Chg.refl (fun k => k = cb) w).drewN nq).setCell (p := ⟨cb, 0, none⟩) (.inl rfl) _⟩
  · rw [decide_eq_false hlt] at hLL
    have HLL := Lib.hid hLL
    clear hLn hcell hfz h hcap hlt hLL hc
    go_enter Try.func44, Try.ntmps44
    go_wp2
    go_quiet ((go_at_call 33; exact Calls.quiet_of_same (HLL.out _)))
    go_wp2
    go_ret2
    exact ⟨i, j, c, rfl, hi, hj, .inl rfl, .inr rfl, by omega, by rw [drewN_heap]; exact HC.out, (Chg.refl _ w).drewN nq⟩

end Go.Proofs.Ytamjhblhkabpaaa
