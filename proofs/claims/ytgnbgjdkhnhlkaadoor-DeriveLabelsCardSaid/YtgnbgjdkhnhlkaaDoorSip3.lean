/-
  SipHash's rounds in the document's words, and a word.
-/
import Derived.Test.YtgnbgjdkhnhlkaaDoorSip2
namespace Go.Proofs.YtgnbgjdkhnhlkaaDoor
open Go.RowKit
set_option linter.unusedVariables false
set_option linter.unusedSimpArgs false

theorem Lan.set4 {w0 wx : World} {a b c d : Nat} (h : Lan w0 wx a b c d) (x y z u : Nat) :
    Lan w0 ((((wx.setCell ⟨w0.heap.size, 0, none⟩ (.int .u64 (x : Int))).setCell ⟨w0.heap.size, 1, none⟩ (.int .u64 (y : Int))).setCell ⟨w0.heap.size, 2, none⟩ (.int .u64 (z : Int))).setCell ⟨w0.heap.size, 3, none⟩ (.int .u64 (u : Int))) x y z u :=
  (((h.set0 x).set1 y).set2 z).set3 u

set_option maxRecDepth 100000 in
set_option maxHeartbeats 4000000 in
theorem refrounds_any (v : V4) (hv : v.ok) (n : Nat) (hn : n ≤ 100) (w : World) :
    Calls Tryd.prog 49 #[aggV v, .int .i64 (n : Int)] w fun e w' => e = .returned (aggV (sipRs n v)) ∧ Below w.heap.size w w' := by
  obtain ⟨R, hR⟩ : ∃ R, R = sipRs n v := ⟨_, rfl⟩
  rw [← hR]
  have HR := Lib.hid hR; have HV := Lib.hid hv
  clear hR hv
  have hst := Lan.start w v.a v.b v.c v.d
  have HST := Lib.hid hst
  clear hst
  unfold aggV
  obtain ⟨A0, hA0⟩ : ∃ A0, A0 = v.a := ⟨_, rfl⟩
  obtain ⟨B0, hB0⟩ : ∃ B0, B0 = v.b := ⟨_, rfl⟩
  obtain ⟨C0, hC0⟩ : ∃ C0, C0 = v.c := ⟨_, rfl⟩
  obtain ⟨D0, hD0⟩ : ∃ D0, D0 = v.d := ⟨_, rfl⟩
  rw [← hA0, ← hB0, ← hC0, ← hD0] at HST ⊢
  have HV0 : Hid (sipRs 0 v = ⟨A0, B0, C0, D0⟩) := Lib.hid (by rw [hA0, hB0, hC0, hD0]; rfl)
  clear hA0 hB0 hC0 hD0
  go_enter Tryd.func49, Tryd.ntmps49
  go_wp2_with fail
  go_loopw [5] (fun i wr => ∃ k a b c d : Nat, k ≤ n ∧ i = .int .i64 (k : Int) ∧ Hid (Lan w wr a b c d) ∧ Hid (sipRs k v = ⟨a, b, c, d⟩)) (fun i _ => n - (intOf i).toNat)
  case atStart => exact ⟨0, A0, B0, C0, D0, Nat.zero_le _, rfl, HST, HV0⟩
  case round =>
    obtain ⟨k, a, b, c, d, hk, rfl, HL, HK⟩ := hrel
    by_cases hlt : k < n
    · have hok : (⟨a, b, c, d⟩ : V4).ok := by rw [← HK.out]; exact sipRs_ok HV.out k
      obtain ⟨oa, ob, oc, od⟩ := hok
      have ml : ∀ x : Nat, x % 18446744073709551616 < 18446744073709551616 := fun x => Nat.mod_lt _ (by decide)
      have e1 := saddN a b
      have l1 := ml (a + b)
      obtain ⟨a1, ha1⟩ : ∃ a1, a1 = (a + b) % 18446744073709551616 := ⟨_, rfl⟩
      rw [← ha1] at e1 l1
      have r2 := fun w => refrot_any b 13 ob (by decide) w
      have l2 := rotN_lt b 13 ob (by decide)
      obtain ⟨x1, hx1⟩ : ∃ x1, x1 = rotN b 13 := ⟨_, rfl⟩
      rw [← hx1] at r2 l2
      have e2 := sxorN x1 a1 l2 l1
      have l3 := xor_lt l2 l1
      obtain ⟨b1, hb1⟩ : ∃ b1, b1 = x1 ^^^ a1 := ⟨_, rfl⟩
      rw [← hb1] at e2 l3
      have r3 := fun w => refrot_any a1 32 l1 (by decide) w
      have l4 := rotN_lt a1 32 l1 (by decide)
      obtain ⟨a2, ha2⟩ : ∃ a2, a2 = rotN a1 32 := ⟨_, rfl⟩
      rw [← ha2] at r3 l4
      have e4 := saddN c d
      have l5 := ml (c + d)
      obtain ⟨c1, hc1⟩ : ∃ c1, c1 = (c + d) % 18446744073709551616 := ⟨_, rfl⟩
      rw [← hc1] at e4 l5
      have r5 := fun w => refrot_any d 16 od (by decide) w
      have l6 := rotN_lt d 16 od (by decide)
      obtain ⟨x2, hx2⟩ : ∃ x2, x2 = rotN d 16 := ⟨_, rfl⟩
      rw [← hx2] at r5 l6
      have e5 := sxorN x2 c1 l6 l5
      have l7 := xor_lt l6 l5
      obtain ⟨d1, hd1⟩ : ∃ d1, d1 = x2 ^^^ c1 := ⟨_, rfl⟩
      rw [← hd1] at e5 l7
      have e6 := saddN a2 d1
      have l8 := ml (a2 + d1)
      obtain ⟨a3, ha3⟩ : ∃ a3, a3 = (a2 + d1) % 18446744073709551616 := ⟨_, rfl⟩
      rw [← ha3] at e6 l8
      have r7 := fun w => refrot_any d1 21 l7 (by decide) w
      have l9 := rotN_lt d1 21 l7 (by decide)
      obtain ⟨x3, hx3⟩ : ∃ x3, x3 = rotN d1 21 := ⟨_, rfl⟩
      rw [← hx3] at r7 l9
      have e7 := sxorN x3 a3 l9 l8
      obtain ⟨d2, hd2⟩ : ∃ d2, d2 = x3 ^^^ a3 := ⟨_, rfl⟩
      rw [← hd2] at e7
      have e8 := saddN c1 b1
      have l10 := ml (c1 + b1)
      obtain ⟨c2, hc2⟩ : ∃ c2, c2 = (c1 + b1) % 18446744073709551616 := ⟨_, rfl⟩
      rw [← hc2] at e8 l10
      have r9 := fun w => refrot_any b1 17 l3 (by decide) w
      have l11 := rotN_lt b1 17 l3 (by decide)
      obtain ⟨x4, hx4⟩ : ∃ x4, x4 = rotN b1 17 := ⟨_, rfl⟩
      rw [← hx4] at r9 l11
      have e9 := sxorN x4 c2 l11 l10
      obtain ⟨b2, hb2⟩ : ∃ b2, b2 = x4 ^^^ c2 := ⟨_, rfl⟩
      rw [← hb2] at e9
      have r10 := fun w => refrot_any c2 32 l10 (by decide) w
      obtain ⟨c3, hc3⟩ : ∃ c3, c3 = rotN c2 32 := ⟨_, rfl⟩
      rw [← hc3] at r10
      have hnext : sipRs (k + 1) v = ⟨a3, b2, c3, d2⟩ := by
        show sipR (sipRs k v) = _
        rw [HK.out]
        simp only [sipR, ← ha1, ← hx1, ← hb1, ← ha2, ← hc1, ← hx2, ← hd1, ← ha3, ← hx3, ← hd2, ← hc2, ← hx4, ← hb2, ← hc3]
      have HN := Lib.hid hnext
      have R2 := Lib.hid r2; have R3 := Lib.hid r3; have R5 := Lib.hid r5; have R7 := Lib.hid r7; have R9 := Lib.hid r9; have R10 := Lib.hid r10
      clear hnext ha1 hx1 hb1 ha2 hc1 hx2 hd1 ha3 hx3 hd2 hc2 hx4 hb2 hc3 ml oa ob oc od l1 l2 l3 l4 l5 l6 l7 l8 l9 l10 l11 r2 r3 r5 r7 r9 r10 HK HST HV0
      obtain ⟨p0, p1, p2, p3⟩ := HL.out.cells
      obtain ⟨q0, q1, q2, q3⟩ := HL.out.frees
      go_wp2_with fail
      refine (R2.out _).mono ?_
      rintro e w' ⟨rfl, rfl⟩
      go_wp2_with fail
      refine (R5.out _).mono ?_
      rintro e w' ⟨rfl, rfl⟩
      go_wp2_with fail
      refine (R3.out _).mono ?_
      rintro e w' ⟨rfl, rfl⟩
      go_wp2_with fail
      refine (R9.out _).mono ?_
      rintro e w' ⟨rfl, rfl⟩
      go_wp2_with fail
      refine (R10.out _).mono ?_
      rintro e w' ⟨rfl, rfl⟩
      go_wp2_with fail
      refine (R7.out _).mono ?_
      rintro e w' ⟨rfl, rfl⟩
      go_wp2_with fail
      go_roundw
      case rel => exact ⟨k + 1, a3, b2, c3, d2, by omega, by go_num, HL.out.set4 a3 b2 c3 d2, HN⟩
      case measure => simp [intOf]; omega
    · obtain rfl : k = n := by omega
      obtain ⟨p0, p1, p2, p3⟩ := HL.out.cells
      obtain ⟨d0, d1, d2, d3⟩ := HL.out.rcells
      obtain ⟨q0, q1, q2, q3⟩ := HL.out.rfrees
      go_wp2_with fail
      refine bodyPost_ret (v := aggV ⟨a, b, c, d⟩) (by simp [aggV, results, Tryd.results49, go_sem, d0, d1, d2, d3]) rfl ⟨?_, HL.out.ends _ _ _ _⟩
      rw [HR.out, HK.out]
      exact (rfl : _ = _)

/-- what is known of a call of the rounds -/
theorem Lan.below {w0 wx wy : World} {a b c d : Nat} (h : Lan w0 wx a b c d) (hb : Below wx.heap.size wx wy) : Lan w0 wy a b c d :=
  ⟨(hb.block _ (block_lt h.box)).trans h.box, (hb.block _ (block_lt h.res)).trans h.res, h.bel.trans (hb.mono h.bel.size)⟩

set_option maxRecDepth 100000 in
set_option maxHeartbeats 4000000 in
theorem word_any (v : V4) (hv : v.ok) (m : Nat) (hm : m < 18446744073709551616) (w : World) :
    Calls Tryd.prog 42 #[aggV v, .int .u64 (m : Int), .int .i64 2] w fun e w' => e = .returned (aggV (sipW m v)) ∧ Below w.heap.size w w' := by
  have C := fun W => turned_any (xorD m v) (xorD_ok hm hv) 2 (by decide) W
  have hok := sipRs_ok (xorD_ok hm hv) 2
  have hst := Lan.start w v.a v.b v.c v.d
  have e1 := sxorN v.d m hv.2.2.2 hm
  have e2 := sxorN (sipRs 2 (xorD m v)).a m hok.1 hm
  have hR : sipW m v = xorA m (sipRs 2 (xorD m v)) := rfl
  rw [hR]
  generalize sipRs 2 (xorD m v) = u at *
  obtain ⟨ua, ub, uc, ud⟩ := u
  obtain ⟨va, vb, vc, vd⟩ := v
  simp only [aggV, xorD, xorA] at *
  generalize vd ^^^ m = d1 at *
  generalize ua ^^^ m = a1 at *
  have HST := Lib.hid hst; have HC := Lib.hid C
  clear hst C hok hR hv
  go_enter Tryd.func42, Tryd.ntmps42
  go_upto_region 1 with fail
  generalize ((w.alloc _).alloc _) = w1 at *
  have HL := HST; clear HST
  obtain ⟨p0, p1, p2, p3⟩ := HL.out.cells
  obtain ⟨q0, q1, q2, q3⟩ := HL.out.frees
  go_cut [] (fun wx => Hid (Lan w wx va vb vc d1))
  case first =>
    go_wp2_with fail
    go_meet
    exact HL.out.set3 d1
  case rest =>
    clear HL p0 p1 p2 p3 q0 q1 q2 q3
    have HL := hcut; clear hcut
    obtain ⟨p0, p1, p2, p3⟩ := HL.out.cells
    go_upto_region 2 with fail
    go_cut [] (fun wx => Hid (Lan w wx ua ub uc ud))
    case first =>
      go_wp2_with fail
      refine (HC.out _).mono ?_
      rintro e w3 ⟨rfl, hb⟩
      have HL3 := Lib.hid (HL.out.below hb)
      clear hb HL p0 p1 p2 p3
      obtain ⟨p0, p1, p2, p3⟩ := HL3.out.cells
      obtain ⟨q0, q1, q2, q3⟩ := HL3.out.frees
      go_wp2_with fail
      go_meet
      exact HL3.out.set4 ua ub uc ud
    case rest =>
      clear HL p0 p1 p2 p3
      have HL := hcut; clear hcut
      obtain ⟨p0, p1, p2, p3⟩ := HL.out.cells
      obtain ⟨q0, q1, q2, q3⟩ := HL.out.frees
      go_upto_region 3 with fail
      go_cut [] (fun wx => Hid (Lan w wx a1 ub uc ud))
      case first =>
        go_wp2_with fail
        go_meet
        exact HL.out.set0 a1
      case rest =>
        clear HL p0 p1 p2 p3 q0 q1 q2 q3
        have HL := hcut; clear hcut
        obtain ⟨p0, p1, p2, p3⟩ := HL.out.cells
        obtain ⟨d0, d1, d2, d3⟩ := HL.out.rcells
        obtain ⟨q0, q1, q2, q3⟩ := HL.out.rfrees
        go_wp2_with fail
        refine bodyPost_ret (v := aggV ⟨a1, ub, uc, ud⟩) (by simp [aggV, results, Tryd.results42, go_sem, d0, d1, d2, d3]) rfl ⟨?_, HL.out.ends _ _ _ _⟩
        exact (rfl : _ = _)

end Go.Proofs.YtgnbgjdkhnhlkaaDoor
