/-
  The references' comparisons of two slices of numbers.
-/
import Derived.Test.YtnnaijbdimdhpaaBs
namespace Go.Proofs.Ytnnaijbdimdhpaa
open Go.RowKit
set_option linter.unusedVariables false

set_option maxRecDepth 100000 in
set_option maxHeartbeats 1000000 in
theorem words_any (w : World) (va vb : Value) (a b : List Int) (na nb : Nat) (ha : Rd w 1 va na (u64s a)) (hb : Rd w 1 vb nb (u64s b)) (la : na < 50000) (lb : nb < 50000) :
    Calls Try.prog 16 #[va, vb] w fun e w' => e = .returned (.bool (eqL a b)) ∧ ∃ n, w' = w.drewN n := by
  obtain rfl := ha.len_u64
  obtain rfl := hb.len_u64
  obtain ⟨sa, ca, rfl⟩ := ha.form
  obtain ⟨sb, cb, rfl⟩ := hb.form
  by_cases hl : a.length = b.length
  · have hne : ((a.length : Int) != (b.length : Int)) = false := by simp [hl]
    have HA := Lib.hid ha; have HB := Lib.hid hb; have HL := Lib.hid hl
    clear ha hb hl
    go_enter Try.func16, Try.ntmps16
    go_wp2
    go_loopw [13] (fun i wr => ∃ k n : Nat, k ≤ a.length ∧ i = .int .i64 k ∧ wr = w.drewN n ∧ Hid (∀ j, j < k → a.getD j 0 = b.getD j 0)) (fun i _ => a.length - (intOf i).toNat)
    case atStart => exact ⟨0, 0, Nat.zero_le _, rfl, rfl, fun j hj => by omega⟩
    case round =>
      obtain ⟨k, n, hk, rfl, rfl, HK⟩ := hrel
      by_cases hlt : k < a.length
      · obtain ⟨b1, o1, rfl, hc1⟩ := HA.out.at (by omega)
        obtain ⟨b2, o2, rfl, hc2⟩ := HB.out.at (by have := HL.out; omega)
        have x1 := hc1 k _ (u64s_at a k hlt)
        have x2 := hc2 k _ (u64s_at b k (by have := HL.out; omega))
        have hkb : (k : Int) < (b.length : Int) := by have := HL.out; omega
        have hka : (k : Int) < (a.length : Int) := by omega
        have hk0 : (0 : Int) ≤ (k : Int) := by omega
        generalize hxa : a.getD k 0 = xa at *
        generalize hxb : b.getD k 0 = xb at *
        have HXA := Lib.hid hxa; have HXB := Lib.hid hxb
        clear hc1 hc2 hxa hxb
        by_cases hx : xa = xb
        · have hxx : (xa != xb) = false := by simp [hx]
          have HX := Lib.hid hx
          clear hx
          go_wp2
          go_quiet (fail)
          go_wp2
          go_roundw
          case rel =>
            refine ⟨k + 1, _, by omega, by go_num, by rfl, fun j hj => ?_⟩
            by_cases hjk : j = k
            · subst hjk; rw [HXA.out, HXB.out, HX.out]
            · exact HK.out j (by omega)
          case measure => simp [intOf]; omega
        · have hxx : (xa != xb) = true := by simp [hx]
          have HX := Lib.hid hx
          clear hx
          go_wp2
          go_quiet (fail)
          go_wp2
          go_ret
          exact ⟨ret_bool (eqL_not k (by rw [HXA.out, HXB.out]; exact HX.out)).symm, n + nq, by simp⟩
      · go_wp2
        go_ret
        exact ⟨ret_bool (eqL_all HL.out (fun j hj => HK.out j (by omega))).symm, _, rfl⟩
  · have hne : ((a.length : Int) != (b.length : Int)) = true := by simp; omega
    have HL := Lib.hid hl
    clear hl
    go_enter Try.func16, Try.ntmps16
    go_wp2
    go_ret
    exact ⟨ret_bool (eqL_len HL.out).symm, 0, rfl⟩

end Go.Proofs.Ytnnaijbdimdhpaa
