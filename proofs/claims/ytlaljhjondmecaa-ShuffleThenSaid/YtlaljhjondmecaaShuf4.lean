/-
  The law ShuffleThen.
-/
import Derived.Test.YtlaljhjondmecaaShuf3
namespace Go.Proofs.Ytlaljhjondmecaa
open Go.RowKit
set_option linter.unusedVariables false

set_option maxRecDepth 100000 in
set_option maxHeartbeats 4000000 in
theorem law_ShuffleThen (w : World) (vp vq : Value) (np nq : Nat) (p q : List Int) (hp : Rd w 1 vp np (i64s p)) (hq : Rd w 1 vq nq (i64s q)) :
    Calls Try.prog 8 #[vp, vq] w fun e w' => e = .returned (.bool true) ∧ Below w.heap.size w w' := by
  have hlp := hp.len_i64
  have hlq := hq.len_i64
  subst hlp; subst hlq
  obtain ⟨sp, cp, rfl⟩ := hp.form
  obtain ⟨sq, cq, rfl⟩ := hq.form
  have HP := Lib.hid hp; have HQ := Lib.hid hq; clear hp hq
  by_cases h60 : 60 < p.length
  · have h60' : (60 : Int) < (p.length : Int) := by omega
    go_enter Try.func8, Try.ntmps8
    go_wp2_with (go_at_call 32; refine (awake40 _).mono ?_; rintro e w1 ⟨rfl, hb1⟩; have HB1 := Lib.hid hb1; clear hb1)
    go_ret
    exact ⟨rfl, HB1.out⟩
  · by_cases h60p : 60 < q.length
    · have h60' : (60 : Int) < (q.length : Int) := by omega
      have h60'' : ¬ (60 : Int) < (p.length : Int) := by omega
      go_enter Try.func8, Try.ntmps8
      go_wp2_with (go_at_call 32; refine (awake40 _).mono ?_; rintro e w1 ⟨rfl, hb1⟩; have HB1 := Lib.hid hb1; clear hb1)
      go_ret
      exact ⟨rfl, HB1.out⟩
    · have h60' : ¬ (60 : Int) < (q.length : Int) := by omega
      have h60'' : ¬ (60 : Int) < (p.length : Int) := by omega
      cases ep : isPB p with
      | false =>
        have EP := Lib.hid ep; clear ep
        have BAD : Hid (p.length ≠ q.length ∨ isPB p = false ∨ isPB q = false) := .inr (.inl EP.out)
        go_enter Try.func8, Try.ntmps8
        go_wp2_with (go_at_call 32; refine (awake40 _).mono ?_; rintro e w1 ⟨rfl, hb1⟩; have HB1 := Lib.hid hb1; clear hb1)
        refine (then_bad _ _ _ _ _ p q (HP.out.below HB1.out) (HQ.out.below HB1.out) (by omega) (by omega) BAD.out).mono ?_
        rintro e w2 ⟨rfl, hb2⟩
        have HB2 := Lib.hid hb2; clear hb2
        go_wp2_with fail
        refine (back_bad _ _ _ p ((HP.out.below HB1.out).below HB2.out) (by omega) EP.out).mono ?_
        rintro e w3 ⟨rfl, hb3⟩
        have HB3 := Lib.hid hb3; clear hb3
        go_wp2_with fail
        refine (refis_any _ _ _ p (((HP.out.below HB1.out).below HB2.out).below HB3.out) (by omega)).mono ?_
        rintro e w4 ⟨rfl, rfl⟩
        rw [EP.out]
        go_wp2
        go_ret
        exact ⟨rfl, below_two (below_two HB1.out HB2.out) HB3.out⟩
      | true =>
        have ip := isPB_iff.1 ep
        have tb := then_back ip
        have bp := back_isP ip
        have EP := Lib.hid ep; have IP := Lib.hid ip; have TB := Lib.hid tb; have BP := Lib.hid bp
        clear ep ip tb bp
        by_cases hl : p.length = q.length
        · have ql : ((p.length : Int) != (q.length : Int)) = false := by simp [hl]
          have QL := Lib.hid ql; have HL := Lib.hid hl
          clear ql hl
          cases eq : isPB q with
          | true =>
            have iq := isPB_iff.1 eq
            have EQ := Lib.hid eq; have IQ := Lib.hid iq; clear eq iq
            go_enter Try.func8, Try.ntmps8
            go_wp2_with (go_at_call 32; refine (awake40 _).mono ?_; rintro e w1 ⟨rfl, hb1⟩; have HB1 := Lib.hid hb1; clear hb1)
            refine (then_ok _ _ _ _ _ p q (HP.out.below HB1.out) (HQ.out.below HB1.out) (by omega) HL.out IP.out IQ.out).mono ?_
            rintro e w2 ⟨s2, c2, rfl, hown2, hb2⟩
            have HO2 := Lib.hid hown2; have HB2 := Lib.hid hb2; clear hown2 hb2
            go_wp2_with fail
            refine (back_ok _ _ _ p ((HP.out.below HB1.out).below HB2.out) (by omega) IP.out).mono ?_
            rintro e w3 ⟨s3, c3, rfl, hown3, hb3⟩
            have HO3 := Lib.hid hown3; have HB3 := Lib.hid hb3; clear hown3 hb3
            go_wp2_with fail
            refine (refis_any _ _ _ p (((HP.out.below HB1.out).below HB2.out).below HB3.out) (by omega)).mono ?_
            rintro e w4 ⟨rfl, rfl⟩
            rw [EP.out]
            go_wp2_with fail
            refine (then_ok _ _ _ _ _ p (backL p) (((HP.out.below HB1.out).below HB2.out).below HB3.out) (rd_of_row HO3.out) (by omega) rfl IP.out BP.out).mono ?_
            rintro e w5 ⟨s5, c5, rfl, hown5, hb5⟩
            rw [TB.out] at hown5
            have HO5 := Lib.hid hown5; have HB5 := Lib.hid hb5; clear hown5 hb5
            have q11 : ((p.length : Int) != (p.length : Int)) = false := by simp
            go_wp2_with fail
            refine (refrow_any _ p.length (by omega)).mono ?_
            rintro e w6 ⟨s6, c6, rfl, hown6, hb6⟩
            have HO6 := Lib.hid hown6; have HB6 := Lib.hid hb6; clear hown6 hb6
            go_wp2_with fail
            refine (ints_any _ _ _ _ _ _ _ ((rd_of_row HO5.out).below HB6.out) (rd_of_row HO6.out) (by omega) (by omega)).mono ?_
            rintro e w7 ⟨rfl, n7, rfl⟩
            rw [eqL_self]
            have hbe : Below w2.heap.size w2 (w6.drewN n7) := below_two (below_two HB3.out HB5.out) (below_drewN' HB6.out n7)
            have hbx : Below w.heap.size w (w6.drewN n7) := below_two (below_two HB1.out HB2.out) hbe
            have HBX := Lib.hid hbx; have HBE := Lib.hid hbe; clear hbx hbe q11
            obtain ⟨wx, hwx⟩ : ∃ wx : World, wx = w6.drewN n7 := ⟨_, rfl⟩
            rw [← hwx] at HBX HBE ⊢
            clear hwx
            have ql := QL.out
            go_wp2_with fail
            refine (refis_any _ _ _ q (HQ.out.below HBX.out) (by omega)).mono ?_
            rintro e w8 ⟨rfl, rfl⟩
            rw [EQ.out]
            clear ql
            go_wp2
            go_loopw [66] (fun i wr => ∃ k n : Nat, k ≤ q.length ∧ i = .int .i64 k ∧ wr = wx.drewN n) (fun i _ => q.length - (intOf i).toNat)
            case atStart => exact ⟨0, 0, Nat.zero_le _, rfl, rfl⟩
            case round =>
              obtain ⟨k, n, hk, rfl, rfl⟩ := hrel
              by_cases hlt : k < q.length
              · have hl := HL.out
                obtain ⟨b1, o1, hs1, hc1⟩ := (HQ.out.below HBX.out).at (by omega)
                obtain ⟨b2, o2, hs2, hc2⟩ := (HP.out.below HBX.out).at (by omega)
                obtain ⟨b3, o3, hs3, hc3⟩ := ((rd_of_row HO2.out).below HBE.out).at (by omega)
                subst hs1; subst hs2; subst hs3
                have hxr := IQ.out.get (i := k) hlt
                obtain ⟨a, ha⟩ : ∃ a : Nat, q.getD k 0 = (a : Int) := ⟨(q.getD k 0).toNat, by omega⟩
                have hap : a < p.length := by omega
                have x1 := hc1 k _ (i64s_at q k hlt)
                rw [ha] at x1
                have x2 := hc2 a _ (i64s_at p a hap)
                have x3 := hc3 k _ (i64s_at (thenL p q) k (by rw [thenL_len]; exact hlt))
                rw [thenL_get _ _ _ hlt, ha, Int.toNat_natCast] at x3
                generalize hy : p.getD a 0 = y at *
                have ha0 : (0 : Int) ≤ (a : Int) := by omega
                have hap' : (a : Int) < (p.length : Int) := by omega
                have hkq : (k : Int) < (q.length : Int) := by omega
                have hkp : (k : Int) < (p.length : Int) := by omega
                have hk0 : (0 : Int) ≤ (k : Int) := by omega
                have q5 : ((p.length : Int) != (q.length : Int)) = false := by simp [hl]
                have q6 : (y != y) = false := by simp
                clear hc1 hc2 hc3 hxr ha hy hl
                go_wp2
                go_quiet (fail)
                go_wp2
                go_roundw
                case rel => exact ⟨k + 1, _, by omega, by go_num, by rfl⟩
                case measure => simp [intOf]; omega
              · obtain rfl : k = q.length := by omega
                go_wp2
                go_ret
                exact ⟨rfl, below_drewN' HBX.out n⟩
          | false =>
            have EQ := Lib.hid eq; clear eq
            have BAD : Hid (p.length ≠ q.length ∨ isPB p = false ∨ isPB q = false) := .inr (.inr EQ.out)
            go_enter Try.func8, Try.ntmps8
            go_wp2_with (go_at_call 32; refine (awake40 _).mono ?_; rintro e w1 ⟨rfl, hb1⟩; have HB1 := Lib.hid hb1; clear hb1)
            refine (then_bad _ _ _ _ _ p q (HP.out.below HB1.out) (HQ.out.below HB1.out) (by omega) (by omega) BAD.out).mono ?_
            rintro e w2 ⟨rfl, hb2⟩
            have HB2 := Lib.hid hb2; clear hb2
            go_wp2_with fail
            refine (back_ok _ _ _ p ((HP.out.below HB1.out).below HB2.out) (by omega) IP.out).mono ?_
            rintro e w3 ⟨s3, c3, rfl, hown3, hb3⟩
            have HO3 := Lib.hid hown3; have HB3 := Lib.hid hb3; clear hown3 hb3
            go_wp2_with fail
            refine (refis_any _ _ _ p (((HP.out.below HB1.out).below HB2.out).below HB3.out) (by omega)).mono ?_
            rintro e w4 ⟨rfl, rfl⟩
            rw [EP.out]
            go_wp2_with fail
            refine (then_ok _ _ _ _ _ p (backL p) (((HP.out.below HB1.out).below HB2.out).below HB3.out) (rd_of_row HO3.out) (by omega) rfl IP.out BP.out).mono ?_
            rintro e w5 ⟨s5, c5, rfl, hown5, hb5⟩
            rw [TB.out] at hown5
            have HO5 := Lib.hid hown5; have HB5 := Lib.hid hb5; clear hown5 hb5
            have q11 : ((p.length : Int) != (p.length : Int)) = false := by simp
            go_wp2_with fail
            refine (refrow_any _ p.length (by omega)).mono ?_
            rintro e w6 ⟨s6, c6, rfl, hown6, hb6⟩
            have HO6 := Lib.hid hown6; have HB6 := Lib.hid hb6; clear hown6 hb6
            go_wp2_with fail
            refine (ints_any _ _ _ _ _ _ _ ((rd_of_row HO5.out).below HB6.out) (rd_of_row HO6.out) (by omega) (by omega)).mono ?_
            rintro e w7 ⟨rfl, n7, rfl⟩
            rw [eqL_self]
            have hbe : Below w2.heap.size w2 (w6.drewN n7) := below_two (below_two HB3.out HB5.out) (below_drewN' HB6.out n7)
            have hbx : Below w.heap.size w (w6.drewN n7) := below_two (below_two HB1.out HB2.out) hbe
            have HBX := Lib.hid hbx; have HBE := Lib.hid hbe; clear hbx hbe q11
            obtain ⟨wx, hwx⟩ : ∃ wx : World, wx = w6.drewN n7 := ⟨_, rfl⟩
            rw [← hwx] at HBX HBE ⊢
            clear hwx
            have ql := QL.out
            go_wp2_with fail
            refine (refis_any _ _ _ q (HQ.out.below HBX.out) (by omega)).mono ?_
            rintro e w8 ⟨rfl, rfl⟩
            rw [EQ.out]
            go_wp2
            go_ret
            exact ⟨rfl, HBX.out⟩
        · have ql : ((p.length : Int) != (q.length : Int)) = true := by simp; omega
          have QL := Lib.hid ql
          have BAD : Hid (p.length ≠ q.length ∨ isPB p = false ∨ isPB q = false) := .inl hl
          clear ql hl
          go_enter Try.func8, Try.ntmps8
          go_wp2_with (go_at_call 32; refine (awake40 _).mono ?_; rintro e w1 ⟨rfl, hb1⟩; have HB1 := Lib.hid hb1; clear hb1)
          refine (then_bad _ _ _ _ _ p q (HP.out.below HB1.out) (HQ.out.below HB1.out) (by omega) (by omega) BAD.out).mono ?_
          rintro e w2 ⟨rfl, hb2⟩
          have HB2 := Lib.hid hb2; clear hb2
          go_wp2_with fail
          refine (back_ok _ _ _ p ((HP.out.below HB1.out).below HB2.out) (by omega) IP.out).mono ?_
          rintro e w3 ⟨s3, c3, rfl, hown3, hb3⟩
          have HO3 := Lib.hid hown3; have HB3 := Lib.hid hb3; clear hown3 hb3
          go_wp2_with fail
          refine (refis_any _ _ _ p (((HP.out.below HB1.out).below HB2.out).below HB3.out) (by omega)).mono ?_
          rintro e w4 ⟨rfl, rfl⟩
          rw [EP.out]
          go_wp2_with fail
          refine (then_ok _ _ _ _ _ p (backL p) (((HP.out.below HB1.out).below HB2.out).below HB3.out) (rd_of_row HO3.out) (by omega) rfl IP.out BP.out).mono ?_
          rintro e w5 ⟨s5, c5, rfl, hown5, hb5⟩
          rw [TB.out] at hown5
          have HO5 := Lib.hid hown5; have HB5 := Lib.hid hb5; clear hown5 hb5
          have q11 : ((p.length : Int) != (p.length : Int)) = false := by simp
          go_wp2_with fail
          refine (refrow_any _ p.length (by omega)).mono ?_
          rintro e w6 ⟨s6, c6, rfl, hown6, hb6⟩
          have HO6 := Lib.hid hown6; have HB6 := Lib.hid hb6; clear hown6 hb6
          go_wp2_with fail
          refine (ints_any _ _ _ _ _ _ _ ((rd_of_row HO5.out).below HB6.out) (rd_of_row HO6.out) (by omega) (by omega)).mono ?_
          rintro e w7 ⟨rfl, n7, rfl⟩
          rw [eqL_self]
          have hbe : Below w2.heap.size w2 (w6.drewN n7) := below_two (below_two HB3.out HB5.out) (below_drewN' HB6.out n7)
          have hbx : Below w.heap.size w (w6.drewN n7) := below_two (below_two HB1.out HB2.out) hbe
          have HBX := Lib.hid hbx; have HBE := Lib.hid hbe; clear hbx hbe q11
          obtain ⟨wx, hwx⟩ : ∃ wx : World, wx = w6.drewN n7 := ⟨_, rfl⟩
          rw [← hwx] at HBX HBE ⊢
          clear hwx
          have ql := QL.out
          go_wp2
          go_ret
          exact ⟨rfl, HBX.out⟩

end Go.Proofs.Ytlaljhjondmecaa
