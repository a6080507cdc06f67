/-
  The law SubsetOnly.
-/
import Derived.Test.YtlaljhjondmecaaSub3
import Derived.Test.YtlaljhjondmecaaInts
namespace Go.Proofs.Ytlaljhjondmecaa
open Go.RowKit
set_option linter.unusedVariables false
set_option linter.unusedSimpArgs false

set_option maxRecDepth 100000 in
set_option maxHeartbeats 2000000 in
theorem awake41 (w : World) : Calls Try.prog 52 #[] w fun e w' => e = .returned (.bool true) ∧ Below w.heap.size w w' := by
  go_enter Try.func52, Try.ntmps52
  go_wp2_with fail
  refine (pick_any _ 3 _ 2 [2, 0] (rd_new w #[.int .i64 2, .int .i64 0] _ 2 1 rfl (by decide) _ _ rfl (by decide)) (by decide) (by decide)).mono ?_
  rintro e w1 (⟨-, sa, ca, rfl, hrd, hbel⟩ | ⟨h, -⟩)
  · have e120 : pickL 3 [2, 0] = [2, 1] := by decide
    rw [e120] at hrd
    obtain ⟨b, off, rfl, hcell⟩ := hrd.at (by decide)
    have c0 : w1.cell? ⟨b, off, none⟩ = some (.int .i64 2) := hcell 0 _ rfl
    have c1 : w1.cell? ⟨b, off + 1, none⟩ = some (.int .i64 1) := hcell 1 _ rfl
    have HB := Lib.hid hbel
    clear hbel hcell e120 hrd
    go_wp2
    go_ret
    exact ⟨rfl, ((Below.refl _ w).alloc (Nat.le_refl _) _).trans (HB.out.mono (by simp))⟩
  · exact absurd h (by decide)

set_option maxRecDepth 100000 in
set_option maxHeartbeats 4000000 in
theorem law_SubsetOnly (w : World) (n : Int) (vc : Value) (nc : Nat) (c : List Int) (hc : Rd w 1 vc nc (i64s c)) :
    Calls Try.prog 13 #[.int .i64 n, vc] w fun e w' => e = .returned (.bool true) ∧ Below w.heap.size w w' := by
  have hlc := hc.len_i64
  subst hlc
  obtain ⟨sc, cc, rfl⟩ := hc.form
  have HC := Lib.hid hc; clear hc
  by_cases h60 : 60 < n
  · go_enter Try.func13, Try.ntmps13
    go_wp2_with (go_at_call 52; refine (awake41 _).mono ?_; rintro e w1 ⟨rfl, hb1⟩; have HB1 := Lib.hid hb1; clear hb1)
    go_ret
    exact ⟨rfl, HB1.out⟩
  · by_cases hcn : cntS n (c.length : Int) = 0
    · have hr := cntS_zero.1 hcn
      obtain ⟨n, rfl⟩ := Int.eq_ofNat_of_zero_le hr.1
      have hcl : c.length ≤ n := by omega
      have hn60 : n ≤ 60 := by omega
      have HCN := Lib.hid hcn
      clear hcn hr
      cases hsb : sbRightB (n : Int) c with
      | true =>
        obtain ⟨g1, g2, g3⟩ := cho_pick (sbRightB_iff.1 hsb)
        have HSB := Lib.hid hsb; have G1 := Lib.hid g1; have G2 := Lib.hid g2; have G3 := Lib.hid g3
        clear hsb g1 g2 g3
        go_enter Try.func13, Try.ntmps13
        go_wp2_with (go_at_call 52; refine (awake41 _).mono ?_; rintro e w1 ⟨rfl, hb1⟩; have HB1 := Lib.hid hb1; clear hb1)
        refine (cnt41_any _ _ _).mono ?_
        rintro e w2 ⟨rfl, rfl⟩
        rw [HCN.out]
        go_wp2_with fail
        refine (right41_any _ _ _ _ c (HC.out.below HB1.out) (by omega) (by omega) (by omega)).mono ?_
        rintro e w2 ⟨rfl, rfl⟩
        rw [HSB.out]
        go_wp2_with fail
        refine (refpick_any _ n _ _ c (HC.out.below HB1.out) (by omega) hcl (sbRightB_iff.1 HSB.out)).mono ?_
        rintro e w2 ⟨s2, c2, rfl, hown2, hb2⟩
        have HO2 := Lib.hid hown2; have HB2 := Lib.hid hb2; clear hown2 hb2
        go_wp2_with fail
        refine (subcho_ok _ n _ _ (pickL n c) (rd_of_row HO2.out) (by omega) hcl G2.out).mono ?_
        rintro e w3 ⟨s3, c3, rfl, hown3, hb3⟩
        rw [G1.out] at hown3
        have HO3 := Lib.hid hown3; have HB3 := Lib.hid hb3; clear hown3 hb3
        go_wp2_with fail
        refine (ints_any _ _ _ _ _ _ _ (rd_of_row HO3.out) (((HC.out.below HB1.out).below HB2.out).below HB3.out) (by omega) (by omega)).mono ?_
        rintro e w4 ⟨rfl, n4, rfl⟩
        rw [eqL_self]
        go_wp2
        go_ret
        exact ⟨rfl, below_two (below_two HB1.out HB2.out) (below_drewN' HB3.out n4)⟩
      | false =>
        have HSB := Lib.hid hsb; clear hsb
        go_enter Try.func13, Try.ntmps13
        go_wp2_with (go_at_call 52; refine (awake41 _).mono ?_; rintro e w1 ⟨rfl, hb1⟩; have HB1 := Lib.hid hb1; clear hb1)
        refine (cnt41_any _ _ _).mono ?_
        rintro e w2 ⟨rfl, rfl⟩
        rw [HCN.out]
        go_wp2_with fail
        refine (right41_any _ _ _ _ c (HC.out.below HB1.out) (by omega) (by omega) (by omega)).mono ?_
        rintro e w2 ⟨rfl, rfl⟩
        rw [HSB.out]
        go_wp2
        go_ret
        exact ⟨rfl, HB1.out⟩
    · have h1 : cntS n (c.length : Int) = 1 := by
        unfold cntS at hcn ⊢; split <;> simp_all
      have H1 := Lib.hid h1; clear h1 hcn
      go_enter Try.func13, Try.ntmps13
      go_wp2_with (go_at_call 52; refine (awake41 _).mono ?_; rintro e w1 ⟨rfl, hb1⟩; have HB1 := Lib.hid hb1; clear hb1)
      refine (cnt41_any _ _ _).mono ?_
      rintro e w2 ⟨rfl, rfl⟩
      rw [H1.out]
      go_wp2
      go_ret
      exact ⟨rfl, HB1.out⟩

end Go.Proofs.Ytlaljhjondmecaa
