/-
  The law SubsetPicks.
-/
import Derived.Test.YtlaljhjondmecaaSub4
import Derived.Test.YtlaljhjondmecaaRefSet
namespace Go.Proofs.Ytlaljhjondmecaa
open Go.RowKit
set_option linter.unusedVariables false
set_option linter.unusedSimpArgs false

theorem cntS_01 (n k : Int) (h : cntS n k ≠ 0) : cntS n k = 1 := by
  unfold cntS at h ⊢; split <;> simp_all

set_option maxRecDepth 100000 in
set_option maxHeartbeats 4000000 in
theorem picks_early (w : World) (n : Int) (vc vl : Value) (nc nl : Nat) (c l : List Int) (hc : Rd w 1 vc nc (i64s c)) (hl : Rd w 1 vl nl (i64s l))
    (h : (60 < n ∧ n ≤ 256) ∨ (60 < c.length ∧ c.length ≤ 256) ∨ (60 < l.length ∧ l.length ≤ 256)) :
    Calls Try.prog 12 #[.int .i64 n, vc, vl] w fun e w' => e = .returned (.bool true) ∧ Below w.heap.size w w' := by
  have hlc := hc.len_i64
  have hll := hl.len_i64
  subst hlc; subst hll
  obtain ⟨sc, cc, rfl⟩ := hc.form
  obtain ⟨sl, cl, rfl⟩ := hl.form
  clear hc hl
  by_cases hn : 60 < n ∧ n ≤ 256
  · obtain ⟨h1, h2⟩ := hn
    clear h
    go_enter Try.func12, Try.ntmps12
    go_wp2_with (go_at_call 52; refine (awake41 _).mono ?_; rintro e w1 ⟨rfl, hb1⟩; have HB1 := Lib.hid hb1; clear hb1)
    go_ret
    exact ⟨rfl, HB1.out⟩
  · have hn' : n ≤ 60 ∨ 256 < n := by omega
    by_cases hc : 60 < c.length ∧ c.length ≤ 256
    · obtain ⟨h1, h2⟩ := hc
      have h1' : (60 : Int) < (c.length : Int) := by omega
      have h2' : (c.length : Int) ≤ 256 := by omega
      clear h hn h1 h2
      rcases hn' with hn' | hn'
      all_goals
        go_enter Try.func12, Try.ntmps12
        go_wp2_with (go_at_call 52; refine (awake41 _).mono ?_; rintro e w1 ⟨rfl, hb1⟩; have HB1 := Lib.hid hb1; clear hb1)
        go_ret
        exact ⟨rfl, HB1.out⟩
    · have hc' : (c.length : Int) ≤ 60 ∨ 256 < (c.length : Int) := by omega
      have h1' : (60 : Int) < (l.length : Int) := by omega
      have h2' : (l.length : Int) ≤ 256 := by omega
      clear h hn hc
      rcases hn' with hn' | hn' <;> rcases hc' with hc' | hc'
      all_goals
        go_enter Try.func12, Try.ntmps12
        go_wp2_with (go_at_call 52; refine (awake41 _).mono ?_; rintro e w1 ⟨rfl, hb1⟩; have HB1 := Lib.hid hb1; clear hb1)
        go_ret
        exact ⟨rfl, HB1.out⟩

set_option maxRecDepth 100000 in
set_option maxHeartbeats 4000000 in
theorem picks_none (w : World) (n : Int) (vc vl : Value) (nc nl : Nat) (c l : List Int) (hc : Rd w 1 vc nc (i64s c)) (hl : Rd w 1 vl nl (i64s l))
    (hn : n ≤ 60 ∨ 256 < n) (hcn : (c.length : Int) ≤ 60 ∨ 256 < (c.length : Int)) (hln : (l.length : Int) ≤ 60 ∨ 256 < (l.length : Int)) (h1 : cntS n (c.length : Int) = 1) (h2 : cntS n (l.length : Int) = 1) :
    Calls Try.prog 12 #[.int .i64 n, vc, vl] w fun e w' => e = .returned (.bool true) ∧ Below w.heap.size w w' := by
  have hlc := hc.len_i64
  have hll := hl.len_i64
  subst hlc; subst hll
  obtain ⟨sc, cc, rfl⟩ := hc.form
  obtain ⟨sl, cl, rfl⟩ := hl.form
  have HC := Lib.hid hc; have HL := Lib.hid hl; have CC := Lib.hid h1; have CL := Lib.hid h2
  clear hc hl h1 h2
  rcases hn with hn | hn <;> rcases hcn with hcn | hcn <;> rcases hln with hln | hln
  all_goals
    go_enter Try.func12, Try.ntmps12
    go_wp2_with (go_at_call 52; refine (awake41 _).mono ?_; rintro e w1 ⟨rfl, hb1⟩; have HB1 := Lib.hid hb1; clear hb1)
    refine (pick_cnt _ _ _ _ c (HC.out.below HB1.out) (by rw [CC.out]; decide)).mono ?_
    rintro e x1 ⟨rfl, rfl⟩
    go_wp2_with fail
    refine (cnt41_any _ _ _).mono ?_
    rintro e x2 ⟨rfl, rfl⟩
    rw [CC.out]
    have HBX := HB1
    go_wp2_with fail
    refine (subcho_cnt _ _ _ _ l (HL.out.below HBX.out) (by rw [CL.out]; decide)).mono ?_
    rintro e y1 ⟨rfl, rfl⟩
    go_wp2_with fail
    refine (cnt41_any _ _ _).mono ?_
    rintro e y2 ⟨rfl, rfl⟩
    rw [CL.out]
    go_wp2
    go_ret
    exact ⟨rfl, HBX.out⟩

set_option maxRecDepth 100000 in
set_option maxHeartbeats 4000000 in
theorem picks_c (w : World) (n : Nat) (vc vl : Value) (nc nl : Nat) (c l : List Int) (hc : Rd w 1 vc nc (i64s c)) (hl : Rd w 1 vl nl (i64s l))
    (hn : n ≤ 60) (hcl : c.length ≤ n) (hln : (l.length : Int) ≤ 60 ∨ 256 < (l.length : Int)) (h1 : cntS n (c.length : Int) = 0) (h2 : cntS n (l.length : Int) = 1) :
    Calls Try.prog 12 #[.int .i64 (n : Int), vc, vl] w fun e w' => e = .returned (.bool true) ∧ Below w.heap.size w w' := by
  have hlc := hc.len_i64
  have hll := hl.len_i64
  subst hlc; subst hll
  obtain ⟨sc, cc, rfl⟩ := hc.form
  obtain ⟨sl, cl, rfl⟩ := hl.form
  have HC := Lib.hid hc; have HL := Lib.hid hl; have CC := Lib.hid h1; have CL := Lib.hid h2
  clear hc hl h1 h2
  cases hsb : sbRightB (n : Int) c with
  | true =>
    have HSB := Lib.hid hsb; clear hsb
    rcases hln with hln | hln
    all_goals
      go_enter Try.func12, Try.ntmps12
      go_wp2_with (go_at_call 52; refine (awake41 _).mono ?_; rintro e w1 ⟨rfl, hb1⟩; have HB1 := Lib.hid hb1; clear hb1)
      refine (pick_any _ n _ _ c (HC.out.below HB1.out) (by omega) hcl).mono ?_
      rintro e x1 (⟨-, sx, cx, rfl, hrdx, hbx⟩ | ⟨hx, -⟩)
      case inr => exact absurd (hx.symm.trans HSB.out) (by simp)
      have HRX := Lib.hid hrdx; have HBX1 := Lib.hid hbx; clear hrdx hbx
      go_wp2_with fail
      refine (cnt41_any _ _ _).mono ?_
      rintro e x2 ⟨rfl, rfl⟩
      rw [CC.out]
      go_wp2_with fail
      refine (right41_any _ _ _ _ c ((HC.out.below HB1.out).below HBX1.out) (by omega) (by omega) (by omega)).mono ?_
      rintro e x2 ⟨rfl, rfl⟩
      rw [HSB.out]
      go_wp2_with fail
      refine (refpick_any _ n _ _ c ((HC.out.below HB1.out).below HBX1.out) (by omega) hcl (sbRightB_iff.1 HSB.out)).mono ?_
      rintro e x3 ⟨s3, c3, rfl, hown3, hb3⟩
      have HOX3 := Lib.hid hown3; have HBX3 := Lib.hid hb3; clear hown3 hb3
      go_wp2_with fail
      refine (ints_any _ _ _ _ _ _ _ (HRX.out.below HBX3.out) (rd_of_row HOX3.out) (by omega) (by omega)).mono ?_
      rintro e x4 ⟨rfl, n4', rfl⟩
      rw [eqL_self]
      have hbx : Below w.heap.size w (x3.drewN n4') := below_two (below_two HB1.out HBX1.out) (below_drewN' HBX3.out n4')
      have HBX := Lib.hid hbx; clear hbx
      go_wp2_with fail
      refine (subcho_cnt _ _ _ _ l (HL.out.below HBX.out) (by rw [CL.out]; decide)).mono ?_
      rintro e y1 ⟨rfl, rfl⟩
      go_wp2_with fail
      refine (cnt41_any _ _ _).mono ?_
      rintro e y2 ⟨rfl, rfl⟩
      rw [CL.out]
      go_wp2
      go_ret
      exact ⟨rfl, HBX.out⟩
  | false =>
    have HSB := Lib.hid hsb; clear hsb
    rcases hln with hln | hln
    all_goals
      go_enter Try.func12, Try.ntmps12
      go_wp2_with (go_at_call 52; refine (awake41 _).mono ?_; rintro e w1 ⟨rfl, hb1⟩; have HB1 := Lib.hid hb1; clear hb1)
      refine (pick_any _ n _ _ c (HC.out.below HB1.out) (by omega) hcl).mono ?_
      rintro e x1 (⟨hx, -⟩ | ⟨-, rfl, hbx⟩)
      case inl => exact absurd (hx.symm.trans HSB.out) (by simp)
      have HBX1 := Lib.hid hbx; clear hbx
      go_wp2_with fail
      refine (cnt41_any _ _ _).mono ?_
      rintro e x2 ⟨rfl, rfl⟩
      rw [CC.out]
      go_wp2_with fail
      refine (right41_any _ _ _ _ c ((HC.out.below HB1.out).below HBX1.out) (by omega) (by omega) (by omega)).mono ?_
      rintro e x2 ⟨rfl, rfl⟩
      rw [HSB.out]
      have HBX := Lib.hid (below_two HB1.out HBX1.out)
      go_wp2_with fail
      refine (subcho_cnt _ _ _ _ l (HL.out.below HBX.out) (by rw [CL.out]; decide)).mono ?_
      rintro e y1 ⟨rfl, rfl⟩
      go_wp2_with fail
      refine (cnt41_any _ _ _).mono ?_
      rintro e y2 ⟨rfl, rfl⟩
      rw [CL.out]
      go_wp2
      go_ret
      exact ⟨rfl, HBX.out⟩

set_option maxRecDepth 100000 in
set_option maxHeartbeats 4000000 in
theorem picks_l (w : World) (n : Nat) (vc vl : Value) (nc nl : Nat) (c l : List Int) (hc : Rd w 1 vc nc (i64s c)) (hl : Rd w 1 vl nl (i64s l))
    (hn : n ≤ 60) (hll : l.length ≤ n) (hcn : (c.length : Int) ≤ 60 ∨ 256 < (c.length : Int)) (h1 : cntS n (c.length : Int) = 1) (h2 : cntS n (l.length : Int) = 0) :
    Calls Try.prog 12 #[.int .i64 (n : Int), vc, vl] w fun e w' => e = .returned (.bool true) ∧ Below w.heap.size w w' := by
  have hlc := hc.len_i64
  have hll' := hl.len_i64
  subst hlc; subst hll'
  obtain ⟨sc, cc, rfl⟩ := hc.form
  obtain ⟨sl, cl, rfl⟩ := hl.form
  have HC := Lib.hid hc; have HL := Lib.hid hl; have CC := Lib.hid h1; have CL := Lib.hid h2
  clear hc hl h1 h2
  cases hs : isSB (n : Int) l with
  | true =>
    obtain ⟨g1, g2, g3⟩ := pick_cho (isSB_iff.1 hs)
    have IS := Lib.hid hs; have IPS := Lib.hid (isSB_iff.1 hs); have PC := Lib.hid g1; have SBC := Lib.hid (sbRightB_iff.2 g2)
    clear hs g1 g2 g3
    rcases hcn with hcn | hcn
    all_goals
      go_enter Try.func12, Try.ntmps12
      go_wp2_with (go_at_call 52; refine (awake41 _).mono ?_; rintro e w1 ⟨rfl, hb1⟩; have HB1 := Lib.hid hb1; clear hb1)
      refine (pick_cnt _ _ _ _ c (HC.out.below HB1.out) (by rw [CC.out]; decide)).mono ?_
      rintro e x1 ⟨rfl, rfl⟩
      go_wp2_with fail
      refine (cnt41_any _ _ _).mono ?_
      rintro e x2 ⟨rfl, rfl⟩
      rw [CC.out]
      have HBX := HB1
      go_wp2_with fail
      refine (subcho_ok _ n _ _ l (HL.out.below HBX.out) (by omega) hll IPS.out).mono ?_
      rintro e y1 ⟨sy, cy, rfl, howny, hby⟩
      have HOY := Lib.hid howny; have HBY := Lib.hid hby; clear howny hby
      go_wp2_with fail
      refine (cnt41_any _ _ _).mono ?_
      rintro e y2 ⟨rfl, rfl⟩
      rw [CL.out]
      go_wp2_with fail
      refine (refis41_any _ _ _ _ l ((HL.out.below HBX.out).below HBY.out) (by omega)).mono ?_
      rintro e y2 ⟨rfl, rfl⟩
      rw [IS.out]
      go_wp2_with fail
      refine (right41_any _ _ _ _ (choS n l) (rd_of_row HOY.out) (by omega) (by omega) (by omega)).mono ?_
      rintro e y2 ⟨rfl, rfl⟩
      rw [SBC.out]
      go_wp2_with fail
      refine (refpick_any _ n _ _ (choS n l) (rd_of_row HOY.out) (by omega) hll (sbRightB_iff.1 SBC.out)).mono ?_
      rintro e y3 ⟨s3', c3', rfl, hown3, hb3⟩
      rw [PC.out] at hown3
      have HOY3 := Lib.hid hown3; have HBY3 := Lib.hid hb3; clear hown3 hb3
      go_wp2_with fail
      refine (ints_any _ _ _ _ _ _ _ (rd_of_row HOY3.out) (((HL.out.below HBX.out).below HBY.out).below HBY3.out) (by omega) (by omega)).mono ?_
      rintro e y4 ⟨rfl, n4, rfl⟩
      rw [eqL_self]
      have hby : Below w.heap.size w (y3.drewN n4) := below_two (below_two HBX.out HBY.out) (below_drewN' HBY3.out n4)
      have HBZ := Lib.hid hby; clear hby
      go_wp2_with fail
      refine (subset_set _ _ _ l (HL.out.below HBZ.out) (by omega)).mono ?_
      rintro e y5 ⟨s5, c5, rfl, hown5, hb5⟩
      have HOY5 := Lib.hid hown5; have HBY5 := Lib.hid hb5; clear hown5 hb5
      go_wp2_with fail
      refine (refset_any _ _ _ l ((HL.out.below HBZ.out).below HBY5.out) (by omega)).mono ?_
      rintro e y6 ⟨s6, c6, rfl, hown6, hb6⟩
      have HOY6 := Lib.hid hown6; have HBY6 := Lib.hid hb6; clear hown6 hb6
      go_wp2_with fail
      refine (ints_any _ _ _ _ _ _ _ ((rd_of_row HOY5.out).below HBY6.out) (rd_of_row HOY6.out) (by have := setL_le l; omega) (by have := setL_le l; omega)).mono ?_
      rintro e y7 ⟨rfl, n7, rfl⟩
      rw [eqL_self]
      go_wp2
      go_ret
      exact ⟨rfl, below_two (below_two HBZ.out HBY5.out) (below_drewN' HBY6.out n7)⟩
  | false =>
    have IS := Lib.hid hs; clear hs
    rcases hcn with hcn | hcn
    all_goals
      go_enter Try.func12, Try.ntmps12
      go_wp2_with (go_at_call 52; refine (awake41 _).mono ?_; rintro e w1 ⟨rfl, hb1⟩; have HB1 := Lib.hid hb1; clear hb1)
      refine (pick_cnt _ _ _ _ c (HC.out.below HB1.out) (by rw [CC.out]; decide)).mono ?_
      rintro e x1 ⟨rfl, rfl⟩
      go_wp2_with fail
      refine (cnt41_any _ _ _).mono ?_
      rintro e x2 ⟨rfl, rfl⟩
      rw [CC.out]
      have HBX := HB1
      go_wp2_with fail
      refine (subcho_bad _ _ _ _ l (HL.out.below HBX.out) CL.out IS.out).mono ?_
      rintro e y1 ⟨rfl, hby⟩
      have HBY := Lib.hid hby; clear hby
      go_wp2_with fail
      refine (cnt41_any _ _ _).mono ?_
      rintro e y2 ⟨rfl, rfl⟩
      rw [CL.out]
      go_wp2_with fail
      refine (refis41_any _ _ _ _ l ((HL.out.below HBX.out).below HBY.out) (by omega)).mono ?_
      rintro e y2 ⟨rfl, rfl⟩
      rw [IS.out]
      go_wp2
      go_ret
      exact ⟨rfl, below_two HBX.out HBY.out⟩

set_option maxRecDepth 100000 in
set_option maxHeartbeats 4000000 in
theorem picks_both (w : World) (n : Nat) (vc vl : Value) (nc nl : Nat) (c l : List Int) (hc : Rd w 1 vc nc (i64s c)) (hl : Rd w 1 vl nl (i64s l))
    (hn : n ≤ 60) (hcl : c.length ≤ n) (hll : l.length ≤ n) (h1 : cntS n (c.length : Int) = 0) (h2 : cntS n (l.length : Int) = 0) :
    Calls Try.prog 12 #[.int .i64 (n : Int), vc, vl] w fun e w' => e = .returned (.bool true) ∧ Below w.heap.size w w' := by
  have hlc := hc.len_i64
  have hll' := hl.len_i64
  subst hlc; subst hll'
  obtain ⟨sc, cc, rfl⟩ := hc.form
  obtain ⟨sl, cl, rfl⟩ := hl.form
  have HC := Lib.hid hc; have HL := Lib.hid hl; have CC := Lib.hid h1; have CL := Lib.hid h2
  clear hc hl h1 h2
  cases hs : isSB (n : Int) l with
  | true =>
    obtain ⟨g1, g2, g3⟩ := pick_cho (isSB_iff.1 hs)
    have IS := Lib.hid hs; have IPS := Lib.hid (isSB_iff.1 hs); have PC := Lib.hid g1; have SBC := Lib.hid (sbRightB_iff.2 g2)
    clear hs g1 g2 g3
    cases hsb : sbRightB (n : Int) c with
    | true =>
      have HSB := Lib.hid hsb; clear hsb
      go_enter Try.func12, Try.ntmps12
      go_wp2_with (go_at_call 52; refine (awake41 _).mono ?_; rintro e w1 ⟨rfl, hb1⟩; have HB1 := Lib.hid hb1; clear hb1)
      refine (pick_any _ n _ _ c (HC.out.below HB1.out) (by omega) hcl).mono ?_
      rintro e x1 (⟨-, sx, cx, rfl, hrdx, hbx⟩ | ⟨hx, -⟩)
      case inr => exact absurd (hx.symm.trans HSB.out) (by simp)
      have HRX := Lib.hid hrdx; have HBX1 := Lib.hid hbx; clear hrdx hbx
      go_wp2_with fail
      refine (cnt41_any _ _ _).mono ?_
      rintro e x2 ⟨rfl, rfl⟩
      rw [CC.out]
      go_wp2_with fail
      refine (right41_any _ _ _ _ c ((HC.out.below HB1.out).below HBX1.out) (by omega) (by omega) (by omega)).mono ?_
      rintro e x2 ⟨rfl, rfl⟩
      rw [HSB.out]
      go_wp2_with fail
      refine (refpick_any _ n _ _ c ((HC.out.below HB1.out).below HBX1.out) (by omega) hcl (sbRightB_iff.1 HSB.out)).mono ?_
      rintro e x3 ⟨s3, c3, rfl, hown3, hb3⟩
      have HOX3 := Lib.hid hown3; have HBX3 := Lib.hid hb3; clear hown3 hb3
      go_wp2_with fail
      refine (ints_any _ _ _ _ _ _ _ (HRX.out.below HBX3.out) (rd_of_row HOX3.out) (by omega) (by omega)).mono ?_
      rintro e x4 ⟨rfl, n4', rfl⟩
      rw [eqL_self]
      have hbx : Below w.heap.size w (x3.drewN n4') := below_two (below_two HB1.out HBX1.out) (below_drewN' HBX3.out n4')
      have HBX := Lib.hid hbx; clear hbx
      go_wp2_with fail
      refine (subcho_ok _ n _ _ l (HL.out.below HBX.out) (by omega) hll IPS.out).mono ?_
      rintro e y1 ⟨sy, cy, rfl, howny, hby⟩
      have HOY := Lib.hid howny; have HBY := Lib.hid hby; clear howny hby
      go_wp2_with fail
      refine (cnt41_any _ _ _).mono ?_
      rintro e y2 ⟨rfl, rfl⟩
      rw [CL.out]
      go_wp2_with fail
      refine (refis41_any _ _ _ _ l ((HL.out.below HBX.out).below HBY.out) (by omega)).mono ?_
      rintro e y2 ⟨rfl, rfl⟩
      rw [IS.out]
      go_wp2_with fail
      refine (right41_any _ _ _ _ (choS n l) (rd_of_row HOY.out) (by omega) (by omega) (by omega)).mono ?_
      rintro e y2 ⟨rfl, rfl⟩
      rw [SBC.out]
      go_wp2_with fail
      refine (refpick_any _ n _ _ (choS n l) (rd_of_row HOY.out) (by omega) hll (sbRightB_iff.1 SBC.out)).mono ?_
      rintro e y3 ⟨s3', c3', rfl, hown3, hb3⟩
      rw [PC.out] at hown3
      have HOY3 := Lib.hid hown3; have HBY3 := Lib.hid hb3; clear hown3 hb3
      go_wp2_with fail
      refine (ints_any _ _ _ _ _ _ _ (rd_of_row HOY3.out) (((HL.out.below HBX.out).below HBY.out).below HBY3.out) (by omega) (by omega)).mono ?_
      rintro e y4 ⟨rfl, n4, rfl⟩
      rw [eqL_self]
      have hby : Below w.heap.size w (y3.drewN n4) := below_two (below_two HBX.out HBY.out) (below_drewN' HBY3.out n4)
      have HBZ := Lib.hid hby; clear hby
      go_wp2_with fail
      refine (subset_set _ _ _ l (HL.out.below HBZ.out) (by omega)).mono ?_
      rintro e y5 ⟨s5, c5, rfl, hown5, hb5⟩
      have HOY5 := Lib.hid hown5; have HBY5 := Lib.hid hb5; clear hown5 hb5
      go_wp2_with fail
      refine (refset_any _ _ _ l ((HL.out.below HBZ.out).below HBY5.out) (by omega)).mono ?_
      rintro e y6 ⟨s6, c6, rfl, hown6, hb6⟩
      have HOY6 := Lib.hid hown6; have HBY6 := Lib.hid hb6; clear hown6 hb6
      go_wp2_with fail
      refine (ints_any _ _ _ _ _ _ _ ((rd_of_row HOY5.out).below HBY6.out) (rd_of_row HOY6.out) (by have := setL_le l; omega) (by have := setL_le l; omega)).mono ?_
      rintro e y7 ⟨rfl, n7, rfl⟩
      rw [eqL_self]
      go_wp2
      go_ret
      exact ⟨rfl, below_two (below_two HBZ.out HBY5.out) (below_drewN' HBY6.out n7)⟩
    | false =>
      have HSB := Lib.hid hsb; clear hsb
      go_enter Try.func12, Try.ntmps12
      go_wp2_with (go_at_call 52; refine (awake41 _).mono ?_; rintro e w1 ⟨rfl, hb1⟩; have HB1 := Lib.hid hb1; clear hb1)
      refine (pick_any _ n _ _ c (HC.out.below HB1.out) (by omega) hcl).mono ?_
      rintro e x1 (⟨hx, -⟩ | ⟨-, rfl, hbx⟩)
      case inl => exact absurd (hx.symm.trans HSB.out) (by simp)
      have HBX1 := Lib.hid hbx; clear hbx
      go_wp2_with fail
      refine (cnt41_any _ _ _).mono ?_
      rintro e x2 ⟨rfl, rfl⟩
      rw [CC.out]
      go_wp2_with fail
      refine (right41_any _ _ _ _ c ((HC.out.below HB1.out).below HBX1.out) (by omega) (by omega) (by omega)).mono ?_
      rintro e x2 ⟨rfl, rfl⟩
      rw [HSB.out]
      have HBX := Lib.hid (below_two HB1.out HBX1.out)
      go_wp2_with fail
      refine (subcho_ok _ n _ _ l (HL.out.below HBX.out) (by omega) hll IPS.out).mono ?_
      rintro e y1 ⟨sy, cy, rfl, howny, hby⟩
      have HOY := Lib.hid howny; have HBY := Lib.hid hby; clear howny hby
      go_wp2_with fail
      refine (cnt41_any _ _ _).mono ?_
      rintro e y2 ⟨rfl, rfl⟩
      rw [CL.out]
      go_wp2_with fail
      refine (refis41_any _ _ _ _ l ((HL.out.below HBX.out).below HBY.out) (by omega)).mono ?_
      rintro e y2 ⟨rfl, rfl⟩
      rw [IS.out]
      go_wp2_with fail
      refine (right41_any _ _ _ _ (choS n l) (rd_of_row HOY.out) (by omega) (by omega) (by omega)).mono ?_
      rintro e y2 ⟨rfl, rfl⟩
      rw [SBC.out]
      go_wp2_with fail
      refine (refpick_any _ n _ _ (choS n l) (rd_of_row HOY.out) (by omega) hll (sbRightB_iff.1 SBC.out)).mono ?_
      rintro e y3 ⟨s3', c3', rfl, hown3, hb3⟩
      rw [PC.out] at hown3
      have HOY3 := Lib.hid hown3; have HBY3 := Lib.hid hb3; clear hown3 hb3
      go_wp2_with fail
      refine (ints_any _ _ _ _ _ _ _ (rd_of_row HOY3.out) (((HL.out.below HBX.out).below HBY.out).below HBY3.out) (by omega) (by omega)).mono ?_
      rintro e y4 ⟨rfl, n4, rfl⟩
      rw [eqL_self]
      have hby : Below w.heap.size w (y3.drewN n4) := below_two (below_two HBX.out HBY.out) (below_drewN' HBY3.out n4)
      have HBZ := Lib.hid hby; clear hby
      go_wp2_with fail
      refine (subset_set _ _ _ l (HL.out.below HBZ.out) (by omega)).mono ?_
      rintro e y5 ⟨s5, c5, rfl, hown5, hb5⟩
      have HOY5 := Lib.hid hown5; have HBY5 := Lib.hid hb5; clear hown5 hb5
      go_wp2_with fail
      refine (refset_any _ _ _ l ((HL.out.below HBZ.out).below HBY5.out) (by omega)).mono ?_
      rintro e y6 ⟨s6, c6, rfl, hown6, hb6⟩
      have HOY6 := Lib.hid hown6; have HBY6 := Lib.hid hb6; clear hown6 hb6
      go_wp2_with fail
      refine (ints_any _ _ _ _ _ _ _ ((rd_of_row HOY5.out).below HBY6.out) (rd_of_row HOY6.out) (by have := setL_le l; omega) (by have := setL_le l; omega)).mono ?_
      rintro e y7 ⟨rfl, n7, rfl⟩
      rw [eqL_self]
      go_wp2
      go_ret
      exact ⟨rfl, below_two (below_two HBZ.out HBY5.out) (below_drewN' HBY6.out n7)⟩
  | false =>
    have IS := Lib.hid hs; clear hs
    cases hsb : sbRightB (n : Int) c with
    | true =>
      have HSB := Lib.hid hsb; clear hsb
      go_enter Try.func12, Try.ntmps12
      go_wp2_with (go_at_call 52; refine (awake41 _).mono ?_; rintro e w1 ⟨rfl, hb1⟩; have HB1 := Lib.hid hb1; clear hb1)
      refine (pick_any _ n _ _ c (HC.out.below HB1.out) (by omega) hcl).mono ?_
      rintro e x1 (⟨-, sx, cx, rfl, hrdx, hbx⟩ | ⟨hx, -⟩)
      case inr => exact absurd (hx.symm.trans HSB.out) (by simp)
      have HRX := Lib.hid hrdx; have HBX1 := Lib.hid hbx; clear hrdx hbx
      go_wp2_with fail
      refine (cnt41_any _ _ _).mono ?_
      rintro e x2 ⟨rfl, rfl⟩
      rw [CC.out]
      go_wp2_with fail
      refine (right41_any _ _ _ _ c ((HC.out.below HB1.out).below HBX1.out) (by omega) (by omega) (by omega)).mono ?_
      rintro e x2 ⟨rfl, rfl⟩
      rw [HSB.out]
      go_wp2_with fail
      refine (refpick_any _ n _ _ c ((HC.out.below HB1.out).below HBX1.out) (by omega) hcl (sbRightB_iff.1 HSB.out)).mono ?_
      rintro e x3 ⟨s3, c3, rfl, hown3, hb3⟩
      have HOX3 := Lib.hid hown3; have HBX3 := Lib.hid hb3; clear hown3 hb3
      go_wp2_with fail
      refine (ints_any _ _ _ _ _ _ _ (HRX.out.below HBX3.out) (rd_of_row HOX3.out) (by omega) (by omega)).mono ?_
      rintro e x4 ⟨rfl, n4', rfl⟩
      rw [eqL_self]
      have hbx : Below w.heap.size w (x3.drewN n4') := below_two (below_two HB1.out HBX1.out) (below_drewN' HBX3.out n4')
      have HBX := Lib.hid hbx; clear hbx
      go_wp2_with fail
      refine (subcho_bad _ _ _ _ l (HL.out.below HBX.out) CL.out IS.out).mono ?_
      rintro e y1 ⟨rfl, hby⟩
      have HBY := Lib.hid hby; clear hby
      go_wp2_with fail
      refine (cnt41_any _ _ _).mono ?_
      rintro e y2 ⟨rfl, rfl⟩
      rw [CL.out]
      go_wp2_with fail
      refine (refis41_any _ _ _ _ l ((HL.out.below HBX.out).below HBY.out) (by omega)).mono ?_
      rintro e y2 ⟨rfl, rfl⟩
      rw [IS.out]
      go_wp2
      go_ret
      exact ⟨rfl, below_two HBX.out HBY.out⟩
    | false =>
      have HSB := Lib.hid hsb; clear hsb
      go_enter Try.func12, Try.ntmps12
      go_wp2_with (go_at_call 52; refine (awake41 _).mono ?_; rintro e w1 ⟨rfl, hb1⟩; have HB1 := Lib.hid hb1; clear hb1)
      refine (pick_any _ n _ _ c (HC.out.below HB1.out) (by omega) hcl).mono ?_
      rintro e x1 (⟨hx, -⟩ | ⟨-, rfl, hbx⟩)
      case inl => exact absurd (hx.symm.trans HSB.out) (by simp)
      have HBX1 := Lib.hid hbx; clear hbx
      go_wp2_with fail
      refine (cnt41_any _ _ _).mono ?_
      rintro e x2 ⟨rfl, rfl⟩
      rw [CC.out]
      go_wp2_with fail
      refine (right41_any _ _ _ _ c ((HC.out.below HB1.out).below HBX1.out) (by omega) (by omega) (by omega)).mono ?_
      rintro e x2 ⟨rfl, rfl⟩
      rw [HSB.out]
      have HBX := Lib.hid (below_two HB1.out HBX1.out)
      go_wp2_with fail
      refine (subcho_bad _ _ _ _ l (HL.out.below HBX.out) CL.out IS.out).mono ?_
      rintro e y1 ⟨rfl, hby⟩
      have HBY := Lib.hid hby; clear hby
      go_wp2_with fail
      refine (cnt41_any _ _ _).mono ?_
      rintro e y2 ⟨rfl, rfl⟩
      rw [CL.out]
      go_wp2_with fail
      refine (refis41_any _ _ _ _ l ((HL.out.below HBX.out).below HBY.out) (by omega)).mono ?_
      rintro e y2 ⟨rfl, rfl⟩
      rw [IS.out]
      go_wp2
      go_ret
      exact ⟨rfl, below_two HBX.out HBY.out⟩

theorem law_SubsetPicks (w : World) (n : Int) (vc vl : Value) (nc nl : Nat) (c l : List Int) (hc : Rd w 1 vc nc (i64s c)) (hl : Rd w 1 vl nl (i64s l)) :
    Calls Try.prog 12 #[.int .i64 n, vc, vl] w fun e w' => e = .returned (.bool true) ∧ Below w.heap.size w w' := by
  by_cases he : (60 < n ∧ n ≤ 256) ∨ (60 < c.length ∧ c.length ≤ 256) ∨ (60 < l.length ∧ l.length ≤ 256)
  · exact picks_early w n vc vl nc nl c l hc hl he
  · have hn : n ≤ 60 ∨ 256 < n := by omega
    have hcn : (c.length : Int) ≤ 60 ∨ 256 < (c.length : Int) := by omega
    have hln : (l.length : Int) ≤ 60 ∨ 256 < (l.length : Int) := by omega
    by_cases h1 : cntS n (c.length : Int) = 0
    · have hr := cntS_zero.1 h1
      obtain ⟨m, rfl⟩ := Int.eq_ofNat_of_zero_le hr.1
      by_cases h2 : cntS (m : Int) (l.length : Int) = 0
      · have hr2 := cntS_zero.1 h2
        exact picks_both w m vc vl nc nl c l hc hl (by omega) (by omega) (by omega) h1 h2
      · exact picks_c w m vc vl nc nl c l hc hl (by omega) (by omega) hln h1 (cntS_01 _ _ h2)
    · by_cases h2 : cntS n (l.length : Int) = 0
      · have hr2 := cntS_zero.1 h2
        obtain ⟨m, rfl⟩ := Int.eq_ofNat_of_zero_le hr2.1
        exact picks_l w m vc vl nc nl c l hc hl (by omega) (by omega) hcn (cntS_01 _ _ h1) h2
      · exact picks_none w n vc vl nc nl c l hc hl hn hcn hln (cntS_01 _ _ h1) (cntS_01 _ _ h2)

end Go.Proofs.Ytlaljhjondmecaa
