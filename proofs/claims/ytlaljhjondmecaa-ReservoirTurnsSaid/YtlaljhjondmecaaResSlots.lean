/-
  ReservoirSlots: what any decisions leave in the slots, and the order that they lead to, or what is wrong; the slots are its first ones.
-/
import Derived.Test.YtlaljhjondmecaaRes3
namespace Go.Proofs.Ytlaljhjondmecaa
open Go.RowKit
set_option linter.unusedVariables false

set_option maxRecDepth 100000 in
set_option maxHeartbeats 2000000 in
theorem awake42 (w : World) : Calls Try.prog 23 #[] w fun e w' => e = .returned (.bool true) ∧ Below w.heap.size w w' := by
  go_enter Try.func23, Try.ntmps23
  go_wp2_with fail
  refine (slots_ok _ 3 1 _ _ [0, 2] (rd_new w #[.int .i64 0, .int .i64 2] _ 2 1 rfl (by decide) _ _ rfl (by decide)) (by decide) (by decide) (by decide)).mono ?_
  rintro e w1 ⟨sa, ca, rfl, hown, hbel⟩
  obtain ⟨g, rfl, hg1, hg2, hg3, hcell, hfz⟩ := row_ptr hown (by decide)
  have c0 : w1.cell? ⟨g, 0, none⟩ = some (.int .i64 1) := hcell 0 _ rfl
  have HB := Lib.hid hbel
  clear hown hbel hcell hfz
  go_wp2
  go_ret
  exact ⟨rfl, ((Below.refl _ w).alloc (Nat.le_refl _) _).trans (HB.out.mono (by simp))⟩

set_option maxRecDepth 100000 in
set_option maxHeartbeats 4000000 in
theorem law_ReservoirSlots (w : World) (n k : Int) (vd : Value) (nd : Nat) (d : List Int) (hr : Rd w 1 vd nd (i64s d)) :
    Calls Try.prog 5 #[.int .i64 n, .int .i64 k, vd] w fun e w' => e = .returned (.bool true) ∧ Below w.heap.size w w' := by
  obtain rfl := hr.len_i64
  obtain ⟨sd, cd, rfl⟩ := hr.form
  have HR := Lib.hid hr; clear hr
  by_cases hbig : 60 < n ∧ n ≤ 256
  · obtain ⟨h1, h2⟩ := hbig
    go_enter Try.func5, Try.ntmps5
    go_wp2_with (go_at_call 23; refine (awake42 _).mono ?_; rintro e w1 ⟨rfl, hb1⟩; have HB1 := Lib.hid hb1; clear hb1)
    go_ret
    exact ⟨rfl, HB1.out⟩
  · have hq : (decide (60 < n) && decide (n ≤ 256)) = false := by
      rw [Bool.and_eq_false_iff, decide_eq_false_iff_not, decide_eq_false_iff_not]; omega
    by_cases hc : resChk n k = 0
    · obtain ⟨h0, h1, h2, h3⟩ := resChk_zero.1 hc
      have hn60 : n ≤ 60 := by omega
      clear hbig hq
      obtain ⟨n, rfl⟩ := Int.eq_ofNat_of_zero_le h0
      obtain ⟨k, rfl⟩ := Int.eq_ofNat_of_zero_le h1
      have HC := Lib.hid hc; clear hc
      have hkn : k ≤ n := by omega
      cases hd : resRightB n k d with
      | true =>
        have hrd := resRightB_iff.1 hd
        have e1 := slotsL_eq k d (fun i hi => (hrd.2 i hi).1)
        have e2 := orderL_eq k d hrd.2
        have e3 := take_order k d hrd.2
        have hnd : d.length = n - k := hrd.1
        have HD := Lib.hid hd; have HRD := Lib.hid hrd; have E1 := Lib.hid e1; have E2 := Lib.hid e2; have E3 := Lib.hid e3; have HN := Lib.hid hnd
        clear hd hrd e1 e2 e3 hnd
        go_enter Try.func5, Try.ntmps5
        go_wp2_with (first
          | (go_at_call 23; refine (awake42 _).mono ?_; rintro e w1 ⟨rfl, hb1⟩; have HB1 := Lib.hid hb1; clear hb1)
          | (go_at_call 24; go_must (refine (slots_ok _ n k _ _ d (HR.out.below HB1.out) hkn (by omega) HD.out).mono ?_); rintro e w2 ⟨sa, ca, rfl, hown2, hb2⟩; have HO2 := Lib.hid hown2; have HB2 := Lib.hid hb2; clear hown2 hb2)
          | (go_at_call 25; go_must (refine (order_ok _ n k _ _ d ((HR.out.below HB1.out).below HB2.out) hkn (by omega) HD.out).mono ?_); rintro e w3 ⟨so, co, rfl, hown3, hb3⟩; have HO3 := Lib.hid hown3; have HB3 := Lib.hid hb3; clear hown3 hb3)
          | (go_at_call 26; go_must (refine (refchk_any _ _ _).mono ?_); rintro e w4 ⟨rfl, rfl⟩; rw [HC.out])
          | (go_at_call 27; go_must (refine (reschk_any _ _ _).mono ?_); rintro e w4 ⟨rfl, rfl⟩; rw [HC.out])
          | (go_at_call 28; go_must (refine (refright_any _ n k _ _ d (((HR.out.below HB1.out).below HB2.out).below HB3.out) hkn (by omega)).mono ?_); rintro e w4 ⟨rfl, rfl⟩; rw [HD.out])
          | (go_at_call 30; fail))
        refine (refslots_any _ _ k _ _ d (((HR.out.below HB1.out).below HB2.out).below HB3.out) (by omega) (by have := HN.out; omega)).mono ?_
        rintro e w4 ⟨s4, c4, rfl, hown4, hb4⟩
        rw [← E1.out] at hown4
        have HO4 := Lib.hid hown4; have HB4 := Lib.hid hb4; clear hown4 hb4
        go_wp2_with fail
        refine (ints_any _ _ _ _ _ _ _ (((rd_of_row HO2.out).below HB3.out).below HB4.out) (rd_of_row HO4.out) (by omega) (by omega)).mono ?_
        rintro e w5 ⟨rfl, n5, rfl⟩
        rw [eqL_self]
        have hb5 := below_drewN' HB4.out n5
        have HB5 := Lib.hid hb5; clear hb5
        go_wp2_with fail
        refine (reforder_any _ _ k _ _ d ((((HR.out.below HB1.out).below HB2.out).below HB3.out).below HB5.out) (by omega) (by have := HN.out; omega) HRD.out.2).mono ?_
        rintro e w6 ⟨s6, c6, rfl, hown6, hb6⟩
        rw [← E2.out] at hown6
        have HO6 := Lib.hid hown6; have HB6 := Lib.hid hb6; clear hown6 hb6
        go_wp2_with fail
        refine (ints_any _ _ _ _ _ _ _ (((rd_of_row HO3.out).below HB5.out).below HB6.out) (rd_of_row HO6.out) (by omega) (by have := HN.out; omega)).mono ?_
        rintro e w7 ⟨rfl, n7, rfl⟩
        rw [eqL_self]
        have hb7 := below_drewN' HB6.out n7
        have HB7 := Lib.hid hb7; clear hb7
        have hco := (rd_of_row HO3.out).cap_le
        have hkc : (k : Int) ≤ (co : Int) := by omega
        have hkn' : (k : Int) ≤ (n : Int) := by omega
        have hk0 : (0 : Int) ≤ (k : Int) := by omega
        clear hco
        go_wp2_with fail
        refine (ints_any _ _ _ _ _ _ _ ((((rd_of_row HO3.out).below HB5.out).below HB7.out).to_i64 hkn _ (by omega)) ((((rd_of_row HO2.out).below HB3.out).below HB5.out).below HB7.out) (by omega) (by omega)).mono ?_
        rintro e w8 ⟨rfl, n8, rfl⟩
        rw [E3.out, eqL_self]
        go_wp2
        go_ret
        exact ⟨rfl, below_two (below_two (below_two (below_two HB1.out HB2.out) HB3.out) HB5.out) (below_drewN' HB6.out (n7 + n8))⟩
      | false =>
        have hz : rightE n k d = 2 := by unfold rightE; rw [hd]; rfl
        have hbad : ∀ w2, Below w.heap.size w w2 → ∀ w3, Below w2.heap.size w2 w3 → Calls Try.prog 74 #[.int .i64 (n : Int), .int .i64 (k : Int), .slice sd d.length cd] w3 fun e w' => e = .returned (.int .i64 2) ∧ w3 = w' := fun w2 hb w3 hb3 => by
          have := right_any w3 n k _ _ d (HR.out.below (below_two hb hb3)) hkn (by omega)
          rw [hz] at this
          exact this
        have HD := Lib.hid hd; have HBAD := Lib.hid hbad; clear hd hz hbad
        go_enter Try.func5, Try.ntmps5
        go_wp2_with (first
          | (go_at_call 23; refine (awake42 _).mono ?_; rintro e w1 ⟨rfl, hb1⟩; have HB1 := Lib.hid hb1; clear hb1)
          | (go_at_call 24; go_must (refine (slots_bad _ _ _ 2 _ _ _ (by decide) (HBAD.out _ HB1.out)).mono ?_); rintro e w2 ⟨rfl, hb2⟩; have HB2 := Lib.hid hb2; clear hb2)
          | (go_at_call 25; go_must (refine (order_bad _ _ _ 2 _ _ _ (by decide) (HBAD.out _ (below_two HB1.out HB2.out))).mono ?_); rintro e w3 ⟨rfl, rfl⟩)
          | (go_at_call 26; go_must (refine (refchk_any _ _ _).mono ?_); rintro e w4 ⟨rfl, rfl⟩; rw [HC.out])
          | (go_at_call 27; go_must (refine (reschk_any _ _ _).mono ?_); rintro e w4 ⟨rfl, rfl⟩; rw [HC.out])
          | (go_at_call 28; go_must (refine (refright_any _ n k _ _ d ((HR.out.below HB1.out).below HB2.out) hkn (by omega)).mono ?_); rintro e w4 ⟨rfl, rfl⟩; rw [HD.out]))
        go_ret
        exact ⟨rfl, below_two HB1.out HB2.out⟩
    · have hbad : ∀ w2, Below w.heap.size w w2 → ∀ w3, Below w2.heap.size w2 w3 → Calls Try.prog 74 #[.int .i64 n, .int .i64 k, .slice sd d.length cd] w3 fun e w' => e = .returned (.int .i64 (resChk n k)) ∧ w3 = w' := fun w2 hb w3 hb3 => right_bad w3 n k (.slice none 0 0) _ _ _ hc
      generalize hE : resChk n k = E at *
      have HBAD := Lib.hid hbad; have HE := Lib.hid hE; clear hbad hE
      have q1 : (E == 0) = false := by simp [hc]
      have q2 : (E != 0) = true := by simp [hc]
      have q3 : (E != E) = false := by simp
      have q4 : (E == E) = true := by simp
      have HC := Lib.hid hc
      clear hc hq
      have hsplit : n ≤ 60 ∨ 256 < n := by omega
      clear hbig
      rcases hsplit with h60 | h256
      all_goals
        go_enter Try.func5, Try.ntmps5
        go_wp2_with (first
          | (go_at_call 23; refine (awake42 _).mono ?_; rintro e w1 ⟨rfl, hb1⟩; have HB1 := Lib.hid hb1; clear hb1)
          | (go_at_call 24; go_must (refine (slots_bad _ _ _ E _ _ _ HC.out (HBAD.out _ HB1.out)).mono ?_); rintro e w2 ⟨rfl, hb2⟩; have HB2 := Lib.hid hb2; clear hb2)
          | (go_at_call 25; go_must (refine (order_bad _ _ _ E _ _ _ HC.out (HBAD.out _ (below_two HB1.out HB2.out))).mono ?_); rintro e w3 ⟨rfl, rfl⟩)
          | (go_at_call 26; go_must (refine (refchk_any _ _ _).mono ?_); rintro e w4 ⟨rfl, rfl⟩; rw [HE.out])
          | (go_at_call 27; go_must (refine (reschk_any _ _ _).mono ?_); rintro e w4 ⟨rfl, rfl⟩; rw [HE.out]))
        go_ret
        exact ⟨rfl, below_two HB1.out HB2.out⟩

end Go.Proofs.Ytlaljhjondmecaa
