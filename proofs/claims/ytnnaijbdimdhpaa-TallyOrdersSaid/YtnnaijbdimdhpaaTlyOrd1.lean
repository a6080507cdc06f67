/-
  slices.Compare at []int; the reference's count of the choices of an order.
-/
import Derived.Test.YtnnaijbdimdhpaaTlyOrdN
import Derived.Test.YtnnaijbdimdhpaaShuf2
namespace Go.Proofs.Ytnnaijbdimdhpaa
open Go.RowKit Go.Shelf
set_option linter.unusedVariables false
set_option linter.unusedSimpArgs false

theorem compare_int (x y : Int) : Lib.compareInt x y = if x < y then -1 else if y < x then 1 else 0 := by
  unfold Lib.compareInt
  split
  · rfl
  · split <;> rfl
/-- where the first i are alike -/
theorem cmpL_drop : ∀ (i : Nat) (a b : List Int), i ≤ a.length → i ≤ b.length → a.take i = b.take i → cmpL a b = cmpL (a.drop i) (b.drop i)
  | 0, a, b, _, _, _ => by simp
  | i + 1, [], b, h, _, _ => by simp at h
  | i + 1, _ :: _, [], _, h, _ => by simp at h
  | i + 1, x :: xs, y :: ys, h1, h2, h => by
    simp only [List.take_succ_cons, List.cons.injEq] at h
    obtain ⟨rfl, h⟩ := h
    simp only [cmpL, List.drop_succ_cons]
    rw [if_neg (by omega), if_neg (by omega)]
    exact cmpL_drop i xs ys (by simpa using h1) (by simpa using h2) h
theorem cmpL_at {i : Nat} {a b : List Int} (ha : i < a.length) (hb : i < b.length) (h : a.take i = b.take i) : cmpL a b = if a.getD i 0 < b.getD i 0 then -1 else if b.getD i 0 < a.getD i 0 then 1 else cmpL (a.drop (i + 1)) (b.drop (i + 1)) := by
  rw [cmpL_drop i a b (by omega) (by omega) h, List.drop_eq_getElem_cons ha, List.drop_eq_getElem_cons hb]
  simp [cmpL, List.getD, List.getElem?_eq_getElem ha, List.getElem?_eq_getElem hb]

set_option maxRecDepth 100000 in
set_option maxHeartbeats 1000000 in
theorem compare_any (w : World) (va vb : Value) (n m : Nat) (a b : List Int) (ha : Rd w 1 va n (i64s a)) (hb : Rd w 1 vb m (i64s b)) (hbig : n ≤ 100000) :
    Calls Try.prog 73 #[va, vb] w fun e w' => e = .returned (.int .i64 (cmpL a b)) ∧ w = w' := by
  have hln := ha.len_i64
  have hlm := hb.len_i64
  subst hln; subst hlm
  obtain ⟨sa, ca, rfl⟩ := ha.form
  obtain ⟨sb, cb, rfl⟩ := hb.form
  have HA := Lib.hid ha; have HB := Lib.hid hb
  clear ha hb
  go_enter Try.func73, Try.ntmps73
  go_wp2
  go_loop [5, 6, 7, 8, 11] (fun _ _ _ _ i => ∃ j : Nat, j ≤ a.length ∧ j ≤ b.length ∧ i = .int .i64 j ∧ Hid (a.take j = b.take j)) (fun _ _ _ _ i => a.length - (intOf i).toNat)
  case atStart => exact ⟨0, Nat.zero_le _, Nat.zero_le _, rfl, rfl⟩
  case round =>
    obtain ⟨j, hja, hjb, rfl, HJ⟩ := hrel
    by_cases hlt : j < a.length
    · obtain ⟨ba, oa, rfl, hca⟩ := HA.out.at (by omega)
      have c1 := hca j _ (i64s_at a j hlt)
      by_cases hlb : j < b.length
      · obtain ⟨bb, ob, rfl, hcb⟩ := HB.out.at (by omega)
        have c2 := hcb j _ (i64s_at b j hlb)
        have hat := cmpL_at hlt hlb HJ.out
        have hcmp := fun W => Try.cmp_Compare_int (a.getD j 0) (b.getD j 0) W
        rw [compare_int] at hcmp
        have hnx : a.getD j 0 = b.getD j 0 → a.take (j + 1) = b.take (j + 1) := fun e => by
          rw [List.take_succ_eq_append_getElem hlt, List.take_succ_eq_append_getElem hlb, HJ.out]
          congr 2
          simpa [List.getD, List.getElem?_eq_getElem hlt, List.getElem?_eq_getElem hlb] using e
        clear hca hcb
        generalize a.getD j 0 = x at *
        generalize b.getD j 0 = y at *
        by_cases h1 : x < y
        · rw [if_pos h1] at hat
          have hcmp' : ∀ W, Calls Try.prog 96 #[.int .i64 x, .int .i64 y] W fun e w' => e = .returned (.int .i64 (-1)) ∧ w' = W := fun W => by have := hcmp W; rwa [if_pos h1] at this
          have HAT := Lib.hid hat
          clear hat hcmp hnx h1
          go_wp2_with (refine (hcmp' _).mono ?_; rintro e w' ⟨rfl, rfl⟩)
          go_ret
          exact ⟨ret_int HAT.out.symm, rfl⟩
        · by_cases h2 : y < x
          · rw [if_neg h1, if_pos h2] at hat
            have hcmp' : ∀ W, Calls Try.prog 96 #[.int .i64 x, .int .i64 y] W fun e w' => e = .returned (.int .i64 1) ∧ w' = W := fun W => by have := hcmp W; rwa [if_neg h1, if_pos h2] at this
            have HAT := Lib.hid hat
            clear hat hcmp hnx h1 h2
            go_wp2_with (refine (hcmp' _).mono ?_; rintro e w' ⟨rfl, rfl⟩)
            go_ret
            exact ⟨ret_int HAT.out.symm, rfl⟩
          · have hcmp' : ∀ W, Calls Try.prog 96 #[.int .i64 x, .int .i64 y] W fun e w' => e = .returned (.int .i64 0) ∧ w' = W := fun W => by have := hcmp W; rwa [if_neg h1, if_neg h2] at this
            have HN := Lib.hid (hnx (by omega))
            clear hat hcmp hnx h1 h2
            go_wp2_with (refine (hcmp' _).mono ?_; rintro e w' ⟨rfl, rfl⟩)
            go_round
            case rel => exact ⟨j + 1, by omega, by omega, by go_num, HN.out⟩
            case measure => simp [intOf]; omega
      · have hd := cmpL_drop j a b hja hjb HJ.out
        rw [List.drop_eq_getElem_cons hlt, List.drop_eq_nil_of_le (show b.length ≤ j by omega)] at hd
        have HD := Lib.hid hd
        clear hca hd
        go_wp2
        go_ret
        exact ⟨ret_int HD.out.symm, rfl⟩
    · have hd := cmpL_drop j a b hja hjb HJ.out
      rw [List.drop_eq_nil_of_le (show a.length ≤ j by omega)] at hd
      by_cases hlb : a.length < b.length
      · rw [List.drop_eq_getElem_cons (show j < b.length by omega)] at hd
        have HD := Lib.hid hd
        clear hd
        go_wp2
        go_ret
        exact ⟨ret_int HD.out.symm, rfl⟩
      · rw [List.drop_eq_nil_of_le (show b.length ≤ j by omega)] at hd
        have HD := Lib.hid hd
        clear hd
        go_wp2
        go_ret
        exact ⟨ret_int HD.out.symm, rfl⟩


end Go.Proofs.Ytnnaijbdimdhpaa
