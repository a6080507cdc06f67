/-
  SubsetSets: any tape aimed at any set. (Printed by gen_lawss.py: one walk for each way.)
-/
import Derived.Test.YtkgmobneipdpeaaAimSet
import Derived.Test.YtkgmobneipdpeaaMove
import Derived.Test.YtkgmobneipdpeaaRefSet
namespace Go.Proofs.Ytkgmobneipdpeaa
open Go.RowKit
set_option linter.unusedVariables false
set_option linter.unusedSimpArgs false


structure SetsP (n : Nat) (l : List Nat) (p : List Int) (r : List Drw × Nat) (Was N1 : List Int) (M : List Nat) (T : List Drw) (r2 : Nat) : Prop where
  was : pickL n (numsI r.1) = Was
  aim : aimS (limS n p.length) l r.1 (vsS (choS n (mvS n (pickL n (numsI r.1)) p))) = M
  len : M.length = l.length
  fits : W64 M
  row : rowN M (limS n p.length) = some (T, r2)
  now : pickL n (numsI T) = N1
  slen : (setL Was).length = p.length
  srs : rsB (n : Int) (setL Was) = true
  back : aimS (limS n p.length) M T (vsS (choS n (mvS n (pickL n (numsI T)) (setL Was)))) = l
  nset : setL N1 = p
  rlen : r.1.length = T.length
  rank : ∀ i, i < r.1.length → (r.1.getD i dwZ).2.1 = (T.getD i dwZ).2.1 ∧ (r.1.getD i dwZ).2.2 = (T.getD i dwZ).2.2

theorem sets_plain (n : Nat) (l : List Nat) (p : List Int) (r : List Drw × Nat) (hw : W64 l) (hkn : p.length ≤ n) (hn : n ≤ 40) (hrs : rsB (n : Int) p = true) (hrow : rowN l (limS n p.length) = some r) :
    ∃ Was N1 M T r2, SetsP n l p r Was N1 M T r2 := by
  obtain ⟨hrl, hsb⟩ := rowN_sub hw hkn (k0 := 0) (by omega) hrow
  obtain ⟨hcp, hwp, hwl⟩ := cho_pick hsb
  rw [numsI_len, hrl] at hwl
  obtain ⟨his, hup⟩ := rs_up hrs
  obtain ⟨b1, b2, b3⟩ : IsS (n : Int) (mvS n (pickL n (numsI r.1)) p) ∧ setL (mvS n (pickL n (numsI r.1)) p) = p ∧ mvL (moveL n p (setL (pickL n (numsI r.1)))) (mvS n (pickL n (numsI r.1)) p) = pickL n (numsI r.1) := mvL_ok hwp his hup hwl
  have b4 : (mvS n (pickL n (numsI r.1)) p).length = p.length := by rw [mvS, mvL_len, hwl]
  obtain ⟨hpc, hsr, hcl⟩ := pick_cho b1
  have hcl' : (choS n (mvS n (pickL n (numsI r.1)) p)).length = p.length := hcl.trans b4
  have hfit := vsS_fits (n := n) (C := choS n (mvS n (pickL n (numsI r.1)) p)) (by omega) hsr
  rw [hcl'] at hfit
  obtain ⟨a1, a2, a3, a4, a5, a6⟩ := rowN_aim hw hrow hfit
  have hvl : (vsS (choS n (mvS n (pickL n (numsI r.1)) p))).length = r.1.length := by rw [vsS_len, hcl', hrl]
  have hnow : pickL n (numsI (turnS r.1 (vsS (choS n (mvS n (pickL n (numsI r.1)) p))))) = mvS n (pickL n (numsI r.1)) p := by rw [numsI_zs, a5, zs_vsS hsr]; exact hpc
  have hback : aimS (limS n p.length) (aimS (limS n p.length) l r.1 (vsS (choS n (mvS n (pickL n (numsI r.1)) p)))) (turnS r.1 (vsS (choS n (mvS n (pickL n (numsI r.1)) p)))) (vsS (choS n (pickL n (numsI r.1)))) = l := by
    have hx : vsS (choS n (pickL n (numsI r.1))) = numsN r.1 := by rw [hcp, numsI_zs, vsS_zs]
    rw [hx]; exact a2
  have hrk := turnS_at (ds := r.1) (vs := vsS (choS n (mvS n (pickL n (numsI r.1)) p))) hvl
  have hss : IsS (n : Int) (setL (pickL n (numsI r.1))) := ⟨(setL_up _).1.nodup, fun x hx => hwp.2 x (((setL_up _).2 x).1 hx)⟩
  refine ⟨_, _, _, _, _, rfl, rfl, ?_, a3, a1, hnow, ?_, rs_of hss (setL_up _).1, ?_, b2, ?_, fun i hi => ⟨(hrk i hi).1.symm, (hrk i hi).2.symm⟩⟩
  · exact a4
  · rw [(setL_len _).2 hwp.1, hwl]
  · rw [hnow]
    have e : mvS n (mvS n (pickL n (numsI r.1)) p) (setL (pickL n (numsI r.1))) = pickL n (numsI r.1) := by
      show mvL (moveL n (setL (mvS n (pickL n (numsI r.1)) p)) (setL (pickL n (numsI r.1)))) (mvS n (pickL n (numsI r.1)) p) = _
      rw [b2]
      exact b3
    rw [e]
    exact hback
  · rw [turnS_len hvl]

set_option maxRecDepth 100000 in
set_option maxHeartbeats 2000000 in
theorem lss_a1 (w : World) (n : Nat) (sa sp sf : Option Addr) (cap cp cf : Nat) (l : List Nat) (p fr : List Int) (HR : Hid (Rd w 1 (.slice sa l.length cap) l.length (u64s (zsN l)))) (HP : Hid (Rd w 1 (.slice sp p.length cp) p.length (i64s p))) (HF : Hid (Rd w 1 (.slice sf fr.length cf) fr.length (i64s fr))) (HW : Hid (W64 l))
    (hl : l.length ≤ 100) (hn : n ≤ 40) (hbp : p.length ≤ 17592186043904) (hbf : fr.length ≤ 17592186043904) (HC0 : Hid (cntS (n : Int) 0 = 0)) (HRF : Hid (rsB (n : Int) fr = false)) (hkn : n < p.length) (HCN : Hid (cntS (n : Int) (p.length : Int) ≠ 0)) :
    Calls Try.prog 8 #[.slice sa l.length cap, .int .i64 (n : Int), .slice sp p.length cp, .slice sf fr.length cf] w fun e w' => e = .returned (.bool true) ∧ Below w.heap.size w w' := by
  have HNOT := Lib.hid (show ¬ (rsB (n : Int) fr = true ∧ rsB (n : Int) p = true ∧ fr.length = p.length) from fun h => by rw [HRF.out] at h; cases h.1)
  go_enter Try.func8, Try.ntmps8
  go_wp2_with (go_at_call 15; refine (awake41 _).mono ?_; rintro e w1 ⟨rfl, hb1⟩; have HB1 := Lib.hid hb1; clear hb1)
  refine (submove_dom w1 n _ _ fr.length p.length fr p (HF.out.below HB1.out) (HP.out.below HB1.out) hbf hbp (by omega) HNOT.out).mono ?_
  rintro e w2 ⟨rfl, hb2⟩
  have HB2 := Lib.hid (below_two HB1.out hb2); clear hb2
  go_wp2_with fail
  refine (cnt41_any (n : Int) 0 w2).mono ?_
  rintro e w3 ⟨rfl, rfl⟩
  rw [HC0.out]
  go_wp2_with fail
  refine (refrises_any w2 (n : Int) _ fr.length fr (HF.out.below HB2.out) hbf).mono ?_
  rintro e w3 ⟨rfl, q3, rfl⟩
  rw [HRF.out]
  have HB3 := Lib.hid (below_drewN' HB2.out q3)
  have HBX := HB3
  go_wp2_with fail
  refine (aimset_cnt (w2.drewN q3) _ _ (n : Int) p.length p (HP.out.below HBX.out) HCN.out).mono ?_
  rintro e w7 ⟨rfl, rfl⟩
  go_wp2_with fail
  go_ret
  exact ⟨rfl, HBX.out⟩

set_option maxRecDepth 100000 in
set_option maxHeartbeats 2000000 in
theorem lss_a2 (w : World) (n : Nat) (sa sp sf : Option Addr) (cap cp cf : Nat) (l : List Nat) (p fr : List Int) (HR : Hid (Rd w 1 (.slice sa l.length cap) l.length (u64s (zsN l)))) (HP : Hid (Rd w 1 (.slice sp p.length cp) p.length (i64s p))) (HF : Hid (Rd w 1 (.slice sf fr.length cf) fr.length (i64s fr))) (HW : Hid (W64 l))
    (hl : l.length ≤ 100) (hn : n ≤ 40) (hbp : p.length ≤ 17592186043904) (hbf : fr.length ≤ 17592186043904) (HC0 : Hid (cntS (n : Int) 0 = 0)) (HRF : Hid (rsB (n : Int) fr = false)) (hkn : p.length ≤ n) (HCN : Hid (cntS (n : Int) (p.length : Int) = 0)) (HIS : Hid (isSB (n : Int) p = false)) (HRQ : Hid (rsB (n : Int) p = false)) :
    Calls Try.prog 8 #[.slice sa l.length cap, .int .i64 (n : Int), .slice sp p.length cp, .slice sf fr.length cf] w fun e w' => e = .returned (.bool true) ∧ Below w.heap.size w w' := by
  have HNOT := Lib.hid (show ¬ (rsB (n : Int) fr = true ∧ rsB (n : Int) p = true ∧ fr.length = p.length) from fun h => by rw [HRF.out] at h; cases h.1)
  go_enter Try.func8, Try.ntmps8
  go_wp2_with (go_at_call 15; refine (awake41 _).mono ?_; rintro e w1 ⟨rfl, hb1⟩; have HB1 := Lib.hid hb1; clear hb1)
  refine (submove_dom w1 n _ _ fr.length p.length fr p (HF.out.below HB1.out) (HP.out.below HB1.out) hbf hbp (by omega) HNOT.out).mono ?_
  rintro e w2 ⟨rfl, hb2⟩
  have HB2 := Lib.hid (below_two HB1.out hb2); clear hb2
  go_wp2_with fail
  refine (cnt41_any (n : Int) 0 w2).mono ?_
  rintro e w3 ⟨rfl, rfl⟩
  rw [HC0.out]
  go_wp2_with fail
  refine (refrises_any w2 (n : Int) _ fr.length fr (HF.out.below HB2.out) hbf).mono ?_
  rintro e w3 ⟨rfl, q3, rfl⟩
  rw [HRF.out]
  have HB3 := Lib.hid (below_drewN' HB2.out q3)
  have HBX := HB3
  go_wp2_with fail
  refine (aimset_bad (w2.drewN q3) _ _ (n : Int) p.length p (HP.out.below HBX.out) HCN.out HIS.out).mono ?_
  rintro e w7 ⟨rfl, hb7⟩
  have HB7 := Lib.hid (below_two HBX.out hb7); clear hb7
  go_wp2_with fail
  refine (refrises_any w7 (n : Int) _ p.length p (HP.out.below HB7.out) hbp).mono ?_
  rintro e w8 ⟨rfl, q8, rfl⟩
  rw [HRQ.out]
  have HB8 := Lib.hid (below_drewN' HB7.out q8)
  go_wp2_with fail
  go_ret
  exact ⟨rfl, HB8.out⟩

set_option maxRecDepth 100000 in
set_option maxHeartbeats 2000000 in
theorem lss_a3 (w : World) (n : Nat) (sa sp sf : Option Addr) (cap cp cf : Nat) (l : List Nat) (p fr : List Int) (HR : Hid (Rd w 1 (.slice sa l.length cap) l.length (u64s (zsN l)))) (HP : Hid (Rd w 1 (.slice sp p.length cp) p.length (i64s p))) (HF : Hid (Rd w 1 (.slice sf fr.length cf) fr.length (i64s fr))) (HW : Hid (W64 l))
    (hl : l.length ≤ 100) (hn : n ≤ 40) (hbp : p.length ≤ 17592186043904) (hbf : fr.length ≤ 17592186043904) (HC0 : Hid (cntS (n : Int) 0 = 0)) (HRF : Hid (rsB (n : Int) fr = false)) (hkn : p.length ≤ n) (HIS : Hid (IsS (n : Int) p)) (HRQ : Hid (rsB (n : Int) p = false)) :
    Calls Try.prog 8 #[.slice sa l.length cap, .int .i64 (n : Int), .slice sp p.length cp, .slice sf fr.length cf] w fun e w' => e = .returned (.bool true) ∧ Below w.heap.size w w' := by
  have HNOT := Lib.hid (show ¬ (rsB (n : Int) fr = true ∧ rsB (n : Int) p = true ∧ fr.length = p.length) from fun h => by rw [HRF.out] at h; cases h.1)
  go_enter Try.func8, Try.ntmps8
  go_wp2_with (go_at_call 15; refine (awake41 _).mono ?_; rintro e w1 ⟨rfl, hb1⟩; have HB1 := Lib.hid hb1; clear hb1)
  refine (submove_dom w1 n _ _ fr.length p.length fr p (HF.out.below HB1.out) (HP.out.below HB1.out) hbf hbp (by omega) HNOT.out).mono ?_
  rintro e w2 ⟨rfl, hb2⟩
  have HB2 := Lib.hid (below_two HB1.out hb2); clear hb2
  go_wp2_with fail
  refine (cnt41_any (n : Int) 0 w2).mono ?_
  rintro e w3 ⟨rfl, rfl⟩
  rw [HC0.out]
  go_wp2_with fail
  refine (refrises_any w2 (n : Int) _ fr.length fr (HF.out.below HB2.out) hbf).mono ?_
  rintro e w3 ⟨rfl, q3, rfl⟩
  rw [HRF.out]
  have HB3 := Lib.hid (below_drewN' HB2.out q3)
  have HBX := HB3
  go_wp2_with fail
  refine (aimset_dom (w2.drewN q3) _ _ n p.length p (HP.out.below HBX.out) hkn (by omega) HIS.out HRQ.out).mono ?_
  rintro e w7 ⟨rfl, hb7⟩
  have HB7 := Lib.hid (below_two HBX.out hb7); clear hb7
  go_wp2_with fail
  refine (refrises_any w7 (n : Int) _ p.length p (HP.out.below HB7.out) hbp).mono ?_
  rintro e w8 ⟨rfl, q8, rfl⟩
  rw [HRQ.out]
  have HB8 := Lib.hid (below_drewN' HB7.out q8)
  go_wp2_with fail
  go_ret
  exact ⟨rfl, HB8.out⟩

set_option maxRecDepth 100000 in
set_option maxHeartbeats 2000000 in
theorem lss_a4 (w : World) (n : Nat) (sa sp sf : Option Addr) (cap cp cf : Nat) (l : List Nat) (p fr : List Int) (HR : Hid (Rd w 1 (.slice sa l.length cap) l.length (u64s (zsN l)))) (HP : Hid (Rd w 1 (.slice sp p.length cp) p.length (i64s p))) (HF : Hid (Rd w 1 (.slice sf fr.length cf) fr.length (i64s fr))) (HW : Hid (W64 l))
    (hl : l.length ≤ 100) (hn : n ≤ 40) (hbp : p.length ≤ 17592186043904) (hbf : fr.length ≤ 17592186043904) (HC0 : Hid (cntS (n : Int) 0 = 0)) (HRF : Hid (rsB (n : Int) fr = false)) (hkn : p.length ≤ n) (HRQ : Hid (rsB (n : Int) p = true)) (HROW : Hid (rowN l (limS n p.length) = none)) :
    Calls Try.prog 8 #[.slice sa l.length cap, .int .i64 (n : Int), .slice sp p.length cp, .slice sf fr.length cf] w fun e w' => e = .returned (.bool true) ∧ Below w.heap.size w w' := by
  have HNOT := Lib.hid (show ¬ (rsB (n : Int) fr = true ∧ rsB (n : Int) p = true ∧ fr.length = p.length) from fun h => by rw [HRF.out] at h; cases h.1)
  go_enter Try.func8, Try.ntmps8
  go_wp2_with (go_at_call 15; refine (awake41 _).mono ?_; rintro e w1 ⟨rfl, hb1⟩; have HB1 := Lib.hid hb1; clear hb1)
  refine (submove_dom w1 n _ _ fr.length p.length fr p (HF.out.below HB1.out) (HP.out.below HB1.out) hbf hbp (by omega) HNOT.out).mono ?_
  rintro e w2 ⟨rfl, hb2⟩
  have HB2 := Lib.hid (below_two HB1.out hb2); clear hb2
  go_wp2_with fail
  refine (cnt41_any (n : Int) 0 w2).mono ?_
  rintro e w3 ⟨rfl, rfl⟩
  rw [HC0.out]
  go_wp2_with fail
  refine (refrises_any w2 (n : Int) _ fr.length fr (HF.out.below HB2.out) hbf).mono ?_
  rintro e w3 ⟨rfl, q3, rfl⟩
  rw [HRF.out]
  have HB3 := Lib.hid (below_drewN' HB2.out q3)
  have HBX := HB3
  go_wp2_with fail
  refine (aimset_any (w2.drewN q3) _ _ l.length n p.length l p (HR.out.below HBX.out) (HP.out.below HBX.out) (by omega) HW.out hkn (by omega) HRQ.out).mono ?_
  rintro e w7 ⟨he, hb7⟩
  rw [HROW.out] at he
  obtain rfl : e = .returned (.tuple #[.slice none 0 0, .int .i64 7]) := he
  have HB7 := Lib.hid (below_two HBX.out hb7); clear hb7
  go_wp2_with fail
  refine (refrises_any w7 (n : Int) _ p.length p (HP.out.below HB7.out) hbp).mono ?_
  rintro e w8 ⟨rfl, q8, rfl⟩
  rw [HRQ.out]
  have HB8 := Lib.hid (below_drewN' HB7.out q8)
  go_wp2_with fail
  refine (rtake41_any (w7.drewN q8) _ _ l n p.length (HR.out.below HB8.out) (by omega) HW.out hkn (by omega)).mono ?_
  rintro e w9 ⟨he, hb9⟩
  rw [HROW.out] at he
  obtain rfl : e = .returned (.tuple #[.slice none 0 0, .slice none 0 0, .int .i64 (l.length : Int), .bool false]) := he
  have HB9 := Lib.hid (below_two HB8.out hb9); clear hb9
  go_wp2_with fail
  go_ret
  exact ⟨rfl, HB9.out⟩

set_option maxRecDepth 100000 in
set_option maxHeartbeats 2000000 in
theorem lss_a5 (w : World) (n : Nat) (sa sp sf : Option Addr) (cap cp cf : Nat) (l : List Nat) (p fr : List Int) (HR : Hid (Rd w 1 (.slice sa l.length cap) l.length (u64s (zsN l)))) (HP : Hid (Rd w 1 (.slice sp p.length cp) p.length (i64s p))) (HF : Hid (Rd w 1 (.slice sf fr.length cf) fr.length (i64s fr))) (HW : Hid (W64 l))
    (hl : l.length ≤ 100) (hn : n ≤ 40) (hbp : p.length ≤ 17592186043904) (hbf : fr.length ≤ 17592186043904) (HC0 : Hid (cntS (n : Int) 0 = 0)) (HRF : Hid (rsB (n : Int) fr = false)) (hkn : p.length ≤ n) (HRQ : Hid (rsB (n : Int) p = true)) (r : List Drw × Nat) (HROW : Hid (rowN l (limS n p.length) = some r)) :
    Calls Try.prog 8 #[.slice sa l.length cap, .int .i64 (n : Int), .slice sp p.length cp, .slice sf fr.length cf] w fun e w' => e = .returned (.bool true) ∧ Below w.heap.size w w' := by
  obtain ⟨Was, N1, M, T, r2, S⟩ := sets_plain n l p r HW.out hkn hn HRQ.out HROW.out
  have HS := Lib.hid S; clear S
  have HNOT := Lib.hid (show ¬ (rsB (n : Int) fr = true ∧ rsB (n : Int) p = true ∧ fr.length = p.length) from fun h => by rw [HRF.out] at h; cases h.1)
  go_enter Try.func8, Try.ntmps8
  go_wp2_with (go_at_call 15; refine (awake41 _).mono ?_; rintro e w1 ⟨rfl, hb1⟩; have HB1 := Lib.hid hb1; clear hb1)
  refine (submove_dom w1 n _ _ fr.length p.length fr p (HF.out.below HB1.out) (HP.out.below HB1.out) hbf hbp (by omega) HNOT.out).mono ?_
  rintro e w2 ⟨rfl, hb2⟩
  have HB2 := Lib.hid (below_two HB1.out hb2); clear hb2
  go_wp2_with fail
  refine (cnt41_any (n : Int) 0 w2).mono ?_
  rintro e w3 ⟨rfl, rfl⟩
  rw [HC0.out]
  go_wp2_with fail
  refine (refrises_any w2 (n : Int) _ fr.length fr (HF.out.below HB2.out) hbf).mono ?_
  rintro e w3 ⟨rfl, q3, rfl⟩
  rw [HRF.out]
  have HB3 := Lib.hid (below_drewN' HB2.out q3)
  have HBX := HB3
  go_wp2_with fail
  refine (aimset_any (w2.drewN q3) _ _ l.length n p.length l p (HR.out.below HBX.out) (HP.out.below HBX.out) (by omega) HW.out hkn (by omega) HRQ.out).mono ?_
  rintro e w7 ⟨he, hb7⟩
  rw [HROW.out] at he
  obtain ⟨s7, c7, rfl, hout⟩ := he
  rw [HS.out.aim] at hout
  have HOUT := Lib.hid (rd_of_row hout)
  have HB7 := Lib.hid (below_two HBX.out hb7); clear hb7 hout
  go_wp2_with fail
  refine (refrises_any w7 (n : Int) _ p.length p (HP.out.below HB7.out) hbp).mono ?_
  rintro e w8 ⟨rfl, q8, rfl⟩
  rw [HRQ.out]
  have HB8 := Lib.hid (below_drewN' HB7.out q8)
  have HOUT8 := Lib.hid (HOUT.out.below (below_drewN' (Below.refl _ _) q8))
  go_wp2_with fail
  refine (rtake41_any (w7.drewN q8) _ _ l n p.length (HR.out.below HB8.out) (by omega) HW.out hkn (by omega)).mono ?_
  rintro e w9 ⟨he, hb9⟩
  rw [HROW.out] at he
  obtain ⟨s1, c1, s2, c2, rfl, hwas, hone⟩ := he
  rw [HS.out.was] at hwas
  have HWAS := Lib.hid hwas; have HONE := Lib.hid hone; have HO9 := Lib.hid (HOUT8.out.below hb9)
  have HB9 := Lib.hid (below_two HB8.out hb9); clear hb9 hwas hone
  go_wp2_with fail
  refine (rtake41_any w9 _ _ M n p.length HO9.out (by have := HS.out.len; omega) HS.out.fits hkn (by omega)).mono ?_
  rintro e w10 ⟨he, hb10⟩
  rw [HS.out.row] at he
  obtain ⟨s3, c3, s4, c4, rfl, hnow, htwo⟩ := he
  simp only at hnow htwo
  rw [HS.out.now] at hnow
  have HNOW := Lib.hid hnow; have HTWO := Lib.hid htwo
  have HO10 := Lib.hid (HO9.out.below hb10); have HW10 := Lib.hid (HWAS.out.below hb10); have HONE10 := Lib.hid (HONE.out.below hb10)
  have HB10 := Lib.hid (below_two HB9.out hb10); clear hb10 hnow htwo
  go_wp2_with fail
  refine (refset_any w10 _ p.length Was HW10.out (by omega)).mono ?_
  rintro e w11 ⟨s5, c5, rfl, hset, hb11⟩
  rw [HS.out.slen] at hset
  rw [HS.out.slen]
  have HSET := Lib.hid (rd_of_row hset)
  have HO11 := Lib.hid (HO10.out.below hb11); have HN11 := Lib.hid (HNOW.out.below hb11); have HONE11 := Lib.hid (HONE10.out.below hb11); have HTWO11 := Lib.hid (HTWO.out.below hb11)
  have HB11 := Lib.hid (below_two HB10.out hb11); clear hb11 hset
  go_wp2_with fail
  refine (aimset_any w11 _ _ l.length n p.length M (setL Was) HO11.out HSET.out (by omega) HS.out.fits hkn (by omega) HS.out.srs).mono ?_
  rintro e w12 ⟨he, hb12⟩
  rw [HS.out.row] at he
  obtain ⟨s6, c6, rfl, hbk⟩ := he
  simp only at hbk
  rw [HS.out.back] at hbk
  have HBK := Lib.hid (rd_of_row hbk)
  have HN12 := Lib.hid (HN11.out.below hb12); have HONE12 := Lib.hid (HONE11.out.below hb12); have HTWO12 := Lib.hid (HTWO11.out.below hb12)
  have HB12 := Lib.hid (below_two HB11.out hb12); clear hb12 hbk
  go_wp2_with fail
  refine (refset_any w12 _ p.length N1 HN12.out (by omega)).mono ?_
  rintro e w13 ⟨s8, c8, rfl, hset, hb13⟩
  rw [HS.out.nset] at hset
  rw [HS.out.nset]
  have HSET2 := Lib.hid (rd_of_row hset)
  have HBK13 := Lib.hid (HBK.out.below hb13); have HONE13 := Lib.hid (HONE12.out.below hb13); have HTWO13 := Lib.hid (HTWO12.out.below hb13)
  have HB13 := Lib.hid (below_two HB12.out hb13); clear hb13 hset
  go_wp2_with fail
  refine (ints_any w13 _ _ p p p.length p.length HSET2.out (HP.out.below HB13.out) (by omega) (by omega)).mono ?_
  rintro e w14 ⟨rfl, n14, rfl⟩
  rw [eqL_self]
  have hd : Below w13.heap.size w13 (w13.drewN n14) := below_drewN' (Below.refl _ _) n14
  have HD := Lib.hid hd; clear hd
  go_wp2_with fail
  refine (ranks_any _ _ _ r.1 T p.length p.length (HONE13.out.below HD.out) (HTWO13.out.below HD.out) (by omega) HS.out.rlen HS.out.rank).mono ?_
  rintro e w15 ⟨rfl, n15, rfl⟩
  go_wp2_with fail
  refine (words_any _ _ _ (zsN l) (zsN l) l.length l.length (HBK13.out.below (below_drewN' (Below.refl _ _) _)) ((HR.out.below HB13.out).below (below_drewN' (Below.refl _ _) _)) (by omega) (by omega)).mono ?_
  rintro e w16 ⟨rfl, n16, rfl⟩
  rw [eqL_self]
  go_wp2_with fail
  go_ret
  exact ⟨rfl, below_drewN' HB13.out _⟩

set_option maxRecDepth 100000 in
set_option maxHeartbeats 2000000 in
theorem lss_b1 (w : World) (n : Nat) (sa sp sf : Option Addr) (cap cp cf : Nat) (l : List Nat) (p fr : List Int) (HR : Hid (Rd w 1 (.slice sa l.length cap) l.length (u64s (zsN l)))) (HP : Hid (Rd w 1 (.slice sp p.length cp) p.length (i64s p))) (HF : Hid (Rd w 1 (.slice sf fr.length cf) fr.length (i64s fr))) (HW : Hid (W64 l))
    (hl : l.length ≤ 100) (hn : n ≤ 40) (hbp : p.length ≤ 17592186043904) (hbf : fr.length ≤ 17592186043904) (HC0 : Hid (cntS (n : Int) 0 = 0)) (HRF : Hid (rsB (n : Int) fr = true)) (HRP : Hid (rsB (n : Int) p = false)) (hkn : n < p.length) (HCN : Hid (cntS (n : Int) (p.length : Int) ≠ 0)) :
    Calls Try.prog 8 #[.slice sa l.length cap, .int .i64 (n : Int), .slice sp p.length cp, .slice sf fr.length cf] w fun e w' => e = .returned (.bool true) ∧ Below w.heap.size w w' := by
  have HNOT := Lib.hid (show ¬ (rsB (n : Int) fr = true ∧ rsB (n : Int) p = true ∧ fr.length = p.length) from fun h => by rw [HRP.out] at h; cases h.2.1)
  go_enter Try.func8, Try.ntmps8
  go_wp2_with (go_at_call 15; refine (awake41 _).mono ?_; rintro e w1 ⟨rfl, hb1⟩; have HB1 := Lib.hid hb1; clear hb1)
  refine (submove_dom w1 n _ _ fr.length p.length fr p (HF.out.below HB1.out) (HP.out.below HB1.out) hbf hbp (by omega) HNOT.out).mono ?_
  rintro e w2 ⟨rfl, hb2⟩
  have HB2 := Lib.hid (below_two HB1.out hb2); clear hb2
  go_wp2_with fail
  refine (cnt41_any (n : Int) 0 w2).mono ?_
  rintro e w3 ⟨rfl, rfl⟩
  rw [HC0.out]
  go_wp2_with fail
  refine (refrises_any w2 (n : Int) _ fr.length fr (HF.out.below HB2.out) hbf).mono ?_
  rintro e w3 ⟨rfl, q3, rfl⟩
  rw [HRF.out]
  have HB3 := Lib.hid (below_drewN' HB2.out q3)
  go_wp2_with fail
  refine (refrises_any (w2.drewN q3) (n : Int) _ p.length p (HP.out.below HB3.out) hbp).mono ?_
  rintro e w4 ⟨rfl, q4, rfl⟩
  rw [HRP.out]
  have HB4 := Lib.hid (below_drewN' HB2.out (q3 + q4))
  have HBX := HB4
  go_wp2_with fail
  refine (aimset_cnt (w2.drewN (q3 + q4)) _ _ (n : Int) p.length p (HP.out.below HBX.out) HCN.out).mono ?_
  rintro e w7 ⟨rfl, rfl⟩
  go_wp2_with fail
  go_ret
  exact ⟨rfl, HBX.out⟩

set_option maxRecDepth 100000 in
set_option maxHeartbeats 2000000 in
theorem lss_b2 (w : World) (n : Nat) (sa sp sf : Option Addr) (cap cp cf : Nat) (l : List Nat) (p fr : List Int) (HR : Hid (Rd w 1 (.slice sa l.length cap) l.length (u64s (zsN l)))) (HP : Hid (Rd w 1 (.slice sp p.length cp) p.length (i64s p))) (HF : Hid (Rd w 1 (.slice sf fr.length cf) fr.length (i64s fr))) (HW : Hid (W64 l))
    (hl : l.length ≤ 100) (hn : n ≤ 40) (hbp : p.length ≤ 17592186043904) (hbf : fr.length ≤ 17592186043904) (HC0 : Hid (cntS (n : Int) 0 = 0)) (HRF : Hid (rsB (n : Int) fr = true)) (HRP : Hid (rsB (n : Int) p = false)) (hkn : p.length ≤ n) (HCN : Hid (cntS (n : Int) (p.length : Int) = 0)) (HIS : Hid (isSB (n : Int) p = false)) (HRQ : Hid (rsB (n : Int) p = false)) :
    Calls Try.prog 8 #[.slice sa l.length cap, .int .i64 (n : Int), .slice sp p.length cp, .slice sf fr.length cf] w fun e w' => e = .returned (.bool true) ∧ Below w.heap.size w w' := by
  have HNOT := Lib.hid (show ¬ (rsB (n : Int) fr = true ∧ rsB (n : Int) p = true ∧ fr.length = p.length) from fun h => by rw [HRP.out] at h; cases h.2.1)
  go_enter Try.func8, Try.ntmps8
  go_wp2_with (go_at_call 15; refine (awake41 _).mono ?_; rintro e w1 ⟨rfl, hb1⟩; have HB1 := Lib.hid hb1; clear hb1)
  refine (submove_dom w1 n _ _ fr.length p.length fr p (HF.out.below HB1.out) (HP.out.below HB1.out) hbf hbp (by omega) HNOT.out).mono ?_
  rintro e w2 ⟨rfl, hb2⟩
  have HB2 := Lib.hid (below_two HB1.out hb2); clear hb2
  go_wp2_with fail
  refine (cnt41_any (n : Int) 0 w2).mono ?_
  rintro e w3 ⟨rfl, rfl⟩
  rw [HC0.out]
  go_wp2_with fail
  refine (refrises_any w2 (n : Int) _ fr.length fr (HF.out.below HB2.out) hbf).mono ?_
  rintro e w3 ⟨rfl, q3, rfl⟩
  rw [HRF.out]
  have HB3 := Lib.hid (below_drewN' HB2.out q3)
  go_wp2_with fail
  refine (refrises_any (w2.drewN q3) (n : Int) _ p.length p (HP.out.below HB3.out) hbp).mono ?_
  rintro e w4 ⟨rfl, q4, rfl⟩
  rw [HRP.out]
  have HB4 := Lib.hid (below_drewN' HB2.out (q3 + q4))
  have HBX := HB4
  go_wp2_with fail
  refine (aimset_bad (w2.drewN (q3 + q4)) _ _ (n : Int) p.length p (HP.out.below HBX.out) HCN.out HIS.out).mono ?_
  rintro e w7 ⟨rfl, hb7⟩
  have HB7 := Lib.hid (below_two HBX.out hb7); clear hb7
  go_wp2_with fail
  refine (refrises_any w7 (n : Int) _ p.length p (HP.out.below HB7.out) hbp).mono ?_
  rintro e w8 ⟨rfl, q8, rfl⟩
  rw [HRQ.out]
  have HB8 := Lib.hid (below_drewN' HB7.out q8)
  go_wp2_with fail
  go_ret
  exact ⟨rfl, HB8.out⟩

set_option maxRecDepth 100000 in
set_option maxHeartbeats 2000000 in
theorem lss_b3 (w : World) (n : Nat) (sa sp sf : Option Addr) (cap cp cf : Nat) (l : List Nat) (p fr : List Int) (HR : Hid (Rd w 1 (.slice sa l.length cap) l.length (u64s (zsN l)))) (HP : Hid (Rd w 1 (.slice sp p.length cp) p.length (i64s p))) (HF : Hid (Rd w 1 (.slice sf fr.length cf) fr.length (i64s fr))) (HW : Hid (W64 l))
    (hl : l.length ≤ 100) (hn : n ≤ 40) (hbp : p.length ≤ 17592186043904) (hbf : fr.length ≤ 17592186043904) (HC0 : Hid (cntS (n : Int) 0 = 0)) (HRF : Hid (rsB (n : Int) fr = true)) (HRP : Hid (rsB (n : Int) p = false)) (hkn : p.length ≤ n) (HIS : Hid (IsS (n : Int) p)) (HRQ : Hid (rsB (n : Int) p = false)) :
    Calls Try.prog 8 #[.slice sa l.length cap, .int .i64 (n : Int), .slice sp p.length cp, .slice sf fr.length cf] w fun e w' => e = .returned (.bool true) ∧ Below w.heap.size w w' := by
  have HNOT := Lib.hid (show ¬ (rsB (n : Int) fr = true ∧ rsB (n : Int) p = true ∧ fr.length = p.length) from fun h => by rw [HRP.out] at h; cases h.2.1)
  go_enter Try.func8, Try.ntmps8
  go_wp2_with (go_at_call 15; refine (awake41 _).mono ?_; rintro e w1 ⟨rfl, hb1⟩; have HB1 := Lib.hid hb1; clear hb1)
  refine (submove_dom w1 n _ _ fr.length p.length fr p (HF.out.below HB1.out) (HP.out.below HB1.out) hbf hbp (by omega) HNOT.out).mono ?_
  rintro e w2 ⟨rfl, hb2⟩
  have HB2 := Lib.hid (below_two HB1.out hb2); clear hb2
  go_wp2_with fail
  refine (cnt41_any (n : Int) 0 w2).mono ?_
  rintro e w3 ⟨rfl, rfl⟩
  rw [HC0.out]
  go_wp2_with fail
  refine (refrises_any w2 (n : Int) _ fr.length fr (HF.out.below HB2.out) hbf).mono ?_
  rintro e w3 ⟨rfl, q3, rfl⟩
  rw [HRF.out]
  have HB3 := Lib.hid (below_drewN' HB2.out q3)
  go_wp2_with fail
  refine (refrises_any (w2.drewN q3) (n : Int) _ p.length p (HP.out.below HB3.out) hbp).mono ?_
  rintro e w4 ⟨rfl, q4, rfl⟩
  rw [HRP.out]
  have HB4 := Lib.hid (below_drewN' HB2.out (q3 + q4))
  have HBX := HB4
  go_wp2_with fail
  refine (aimset_dom (w2.drewN (q3 + q4)) _ _ n p.length p (HP.out.below HBX.out) hkn (by omega) HIS.out HRQ.out).mono ?_
  rintro e w7 ⟨rfl, hb7⟩
  have HB7 := Lib.hid (below_two HBX.out hb7); clear hb7
  go_wp2_with fail
  refine (refrises_any w7 (n : Int) _ p.length p (HP.out.below HB7.out) hbp).mono ?_
  rintro e w8 ⟨rfl, q8, rfl⟩
  rw [HRQ.out]
  have HB8 := Lib.hid (below_drewN' HB7.out q8)
  go_wp2_with fail
  go_ret
  exact ⟨rfl, HB8.out⟩

set_option maxRecDepth 100000 in
set_option maxHeartbeats 2000000 in
theorem lss_c4 (w : World) (n : Nat) (sa sp sf : Option Addr) (cap cp cf : Nat) (l : List Nat) (p fr : List Int) (HR : Hid (Rd w 1 (.slice sa l.length cap) l.length (u64s (zsN l)))) (HP : Hid (Rd w 1 (.slice sp p.length cp) p.length (i64s p))) (HF : Hid (Rd w 1 (.slice sf fr.length cf) fr.length (i64s fr))) (HW : Hid (W64 l))
    (hl : l.length ≤ 100) (hn : n ≤ 40) (hbp : p.length ≤ 17592186043904) (hbf : fr.length ≤ 17592186043904) (HC0 : Hid (cntS (n : Int) 0 = 0)) (HRF : Hid (rsB (n : Int) fr = true)) (HRP : Hid (rsB (n : Int) p = true)) (h4 : ((fr.length : Int) != (p.length : Int)) = true) (hkn : p.length ≤ n) (HRQ : Hid (rsB (n : Int) p = true)) (HROW : Hid (rowN l (limS n p.length) = none)) :
    Calls Try.prog 8 #[.slice sa l.length cap, .int .i64 (n : Int), .slice sp p.length cp, .slice sf fr.length cf] w fun e w' => e = .returned (.bool true) ∧ Below w.heap.size w w' := by
  have HNOT := Lib.hid (show ¬ (rsB (n : Int) fr = true ∧ rsB (n : Int) p = true ∧ fr.length = p.length) from fun h => by have := h.2.2; rw [this] at h4; simp at h4)
  go_enter Try.func8, Try.ntmps8
  go_wp2_with (go_at_call 15; refine (awake41 _).mono ?_; rintro e w1 ⟨rfl, hb1⟩; have HB1 := Lib.hid hb1; clear hb1)
  refine (submove_dom w1 n _ _ fr.length p.length fr p (HF.out.below HB1.out) (HP.out.below HB1.out) hbf hbp (by omega) HNOT.out).mono ?_
  rintro e w2 ⟨rfl, hb2⟩
  have HB2 := Lib.hid (below_two HB1.out hb2); clear hb2
  go_wp2_with fail
  refine (cnt41_any (n : Int) 0 w2).mono ?_
  rintro e w3 ⟨rfl, rfl⟩
  rw [HC0.out]
  go_wp2_with fail
  refine (refrises_any w2 (n : Int) _ fr.length fr (HF.out.below HB2.out) hbf).mono ?_
  rintro e w3 ⟨rfl, q3, rfl⟩
  rw [HRF.out]
  have HB3 := Lib.hid (below_drewN' HB2.out q3)
  go_wp2_with fail
  refine (refrises_any (w2.drewN q3) (n : Int) _ p.length p (HP.out.below HB3.out) hbp).mono ?_
  rintro e w4 ⟨rfl, q4, rfl⟩
  rw [HRP.out]
  have HB4 := Lib.hid (below_drewN' HB2.out (q3 + q4))
  have HBX := HB4
  go_wp2_with fail
  refine (aimset_any (w2.drewN (q3 + q4)) _ _ l.length n p.length l p (HR.out.below HBX.out) (HP.out.below HBX.out) (by omega) HW.out hkn (by omega) HRQ.out).mono ?_
  rintro e w7 ⟨he, hb7⟩
  rw [HROW.out] at he
  obtain rfl : e = .returned (.tuple #[.slice none 0 0, .int .i64 7]) := he
  have HB7 := Lib.hid (below_two HBX.out hb7); clear hb7
  go_wp2_with fail
  refine (refrises_any w7 (n : Int) _ p.length p (HP.out.below HB7.out) hbp).mono ?_
  rintro e w8 ⟨rfl, q8, rfl⟩
  rw [HRQ.out]
  have HB8 := Lib.hid (below_drewN' HB7.out q8)
  go_wp2_with fail
  refine (rtake41_any (w7.drewN q8) _ _ l n p.length (HR.out.below HB8.out) (by omega) HW.out hkn (by omega)).mono ?_
  rintro e w9 ⟨he, hb9⟩
  rw [HROW.out] at he
  obtain rfl : e = .returned (.tuple #[.slice none 0 0, .slice none 0 0, .int .i64 (l.length : Int), .bool false]) := he
  have HB9 := Lib.hid (below_two HB8.out hb9); clear hb9
  go_wp2_with fail
  go_ret
  exact ⟨rfl, HB9.out⟩

set_option maxRecDepth 100000 in
set_option maxHeartbeats 2000000 in
theorem lss_c5 (w : World) (n : Nat) (sa sp sf : Option Addr) (cap cp cf : Nat) (l : List Nat) (p fr : List Int) (HR : Hid (Rd w 1 (.slice sa l.length cap) l.length (u64s (zsN l)))) (HP : Hid (Rd w 1 (.slice sp p.length cp) p.length (i64s p))) (HF : Hid (Rd w 1 (.slice sf fr.length cf) fr.length (i64s fr))) (HW : Hid (W64 l))
    (hl : l.length ≤ 100) (hn : n ≤ 40) (hbp : p.length ≤ 17592186043904) (hbf : fr.length ≤ 17592186043904) (HC0 : Hid (cntS (n : Int) 0 = 0)) (HRF : Hid (rsB (n : Int) fr = true)) (HRP : Hid (rsB (n : Int) p = true)) (h4 : ((fr.length : Int) != (p.length : Int)) = true) (hkn : p.length ≤ n) (HRQ : Hid (rsB (n : Int) p = true)) (r : List Drw × Nat) (HROW : Hid (rowN l (limS n p.length) = some r)) :
    Calls Try.prog 8 #[.slice sa l.length cap, .int .i64 (n : Int), .slice sp p.length cp, .slice sf fr.length cf] w fun e w' => e = .returned (.bool true) ∧ Below w.heap.size w w' := by
  obtain ⟨Was, N1, M, T, r2, S⟩ := sets_plain n l p r HW.out hkn hn HRQ.out HROW.out
  have HS := Lib.hid S; clear S
  have HNOT := Lib.hid (show ¬ (rsB (n : Int) fr = true ∧ rsB (n : Int) p = true ∧ fr.length = p.length) from fun h => by have := h.2.2; rw [this] at h4; simp at h4)
  go_enter Try.func8, Try.ntmps8
  go_wp2_with (go_at_call 15; refine (awake41 _).mono ?_; rintro e w1 ⟨rfl, hb1⟩; have HB1 := Lib.hid hb1; clear hb1)
  refine (submove_dom w1 n _ _ fr.length p.length fr p (HF.out.below HB1.out) (HP.out.below HB1.out) hbf hbp (by omega) HNOT.out).mono ?_
  rintro e w2 ⟨rfl, hb2⟩
  have HB2 := Lib.hid (below_two HB1.out hb2); clear hb2
  go_wp2_with fail
  refine (cnt41_any (n : Int) 0 w2).mono ?_
  rintro e w3 ⟨rfl, rfl⟩
  rw [HC0.out]
  go_wp2_with fail
  refine (refrises_any w2 (n : Int) _ fr.length fr (HF.out.below HB2.out) hbf).mono ?_
  rintro e w3 ⟨rfl, q3, rfl⟩
  rw [HRF.out]
  have HB3 := Lib.hid (below_drewN' HB2.out q3)
  go_wp2_with fail
  refine (refrises_any (w2.drewN q3) (n : Int) _ p.length p (HP.out.below HB3.out) hbp).mono ?_
  rintro e w4 ⟨rfl, q4, rfl⟩
  rw [HRP.out]
  have HB4 := Lib.hid (below_drewN' HB2.out (q3 + q4))
  have HBX := HB4
  go_wp2_with fail
  refine (aimset_any (w2.drewN (q3 + q4)) _ _ l.length n p.length l p (HR.out.below HBX.out) (HP.out.below HBX.out) (by omega) HW.out hkn (by omega) HRQ.out).mono ?_
  rintro e w7 ⟨he, hb7⟩
  rw [HROW.out] at he
  obtain ⟨s7, c7, rfl, hout⟩ := he
  rw [HS.out.aim] at hout
  have HOUT := Lib.hid (rd_of_row hout)
  have HB7 := Lib.hid (below_two HBX.out hb7); clear hb7 hout
  go_wp2_with fail
  refine (refrises_any w7 (n : Int) _ p.length p (HP.out.below HB7.out) hbp).mono ?_
  rintro e w8 ⟨rfl, q8, rfl⟩
  rw [HRQ.out]
  have HB8 := Lib.hid (below_drewN' HB7.out q8)
  have HOUT8 := Lib.hid (HOUT.out.below (below_drewN' (Below.refl _ _) q8))
  go_wp2_with fail
  refine (rtake41_any (w7.drewN q8) _ _ l n p.length (HR.out.below HB8.out) (by omega) HW.out hkn (by omega)).mono ?_
  rintro e w9 ⟨he, hb9⟩
  rw [HROW.out] at he
  obtain ⟨s1, c1, s2, c2, rfl, hwas, hone⟩ := he
  rw [HS.out.was] at hwas
  have HWAS := Lib.hid hwas; have HONE := Lib.hid hone; have HO9 := Lib.hid (HOUT8.out.below hb9)
  have HB9 := Lib.hid (below_two HB8.out hb9); clear hb9 hwas hone
  go_wp2_with fail
  refine (rtake41_any w9 _ _ M n p.length HO9.out (by have := HS.out.len; omega) HS.out.fits hkn (by omega)).mono ?_
  rintro e w10 ⟨he, hb10⟩
  rw [HS.out.row] at he
  obtain ⟨s3, c3, s4, c4, rfl, hnow, htwo⟩ := he
  simp only at hnow htwo
  rw [HS.out.now] at hnow
  have HNOW := Lib.hid hnow; have HTWO := Lib.hid htwo
  have HO10 := Lib.hid (HO9.out.below hb10); have HW10 := Lib.hid (HWAS.out.below hb10); have HONE10 := Lib.hid (HONE.out.below hb10)
  have HB10 := Lib.hid (below_two HB9.out hb10); clear hb10 hnow htwo
  go_wp2_with fail
  refine (refset_any w10 _ p.length Was HW10.out (by omega)).mono ?_
  rintro e w11 ⟨s5, c5, rfl, hset, hb11⟩
  rw [HS.out.slen] at hset
  rw [HS.out.slen]
  have HSET := Lib.hid (rd_of_row hset)
  have HO11 := Lib.hid (HO10.out.below hb11); have HN11 := Lib.hid (HNOW.out.below hb11); have HONE11 := Lib.hid (HONE10.out.below hb11); have HTWO11 := Lib.hid (HTWO.out.below hb11)
  have HB11 := Lib.hid (below_two HB10.out hb11); clear hb11 hset
  go_wp2_with fail
  refine (aimset_any w11 _ _ l.length n p.length M (setL Was) HO11.out HSET.out (by omega) HS.out.fits hkn (by omega) HS.out.srs).mono ?_
  rintro e w12 ⟨he, hb12⟩
  rw [HS.out.row] at he
  obtain ⟨s6, c6, rfl, hbk⟩ := he
  simp only at hbk
  rw [HS.out.back] at hbk
  have HBK := Lib.hid (rd_of_row hbk)
  have HN12 := Lib.hid (HN11.out.below hb12); have HONE12 := Lib.hid (HONE11.out.below hb12); have HTWO12 := Lib.hid (HTWO11.out.below hb12)
  have HB12 := Lib.hid (below_two HB11.out hb12); clear hb12 hbk
  go_wp2_with fail
  refine (refset_any w12 _ p.length N1 HN12.out (by omega)).mono ?_
  rintro e w13 ⟨s8, c8, rfl, hset, hb13⟩
  rw [HS.out.nset] at hset
  rw [HS.out.nset]
  have HSET2 := Lib.hid (rd_of_row hset)
  have HBK13 := Lib.hid (HBK.out.below hb13); have HONE13 := Lib.hid (HONE12.out.below hb13); have HTWO13 := Lib.hid (HTWO12.out.below hb13)
  have HB13 := Lib.hid (below_two HB12.out hb13); clear hb13 hset
  go_wp2_with fail
  refine (ints_any w13 _ _ p p p.length p.length HSET2.out (HP.out.below HB13.out) (by omega) (by omega)).mono ?_
  rintro e w14 ⟨rfl, n14, rfl⟩
  rw [eqL_self]
  have hd : Below w13.heap.size w13 (w13.drewN n14) := below_drewN' (Below.refl _ _) n14
  have HD := Lib.hid hd; clear hd
  go_wp2_with fail
  refine (ranks_any _ _ _ r.1 T p.length p.length (HONE13.out.below HD.out) (HTWO13.out.below HD.out) (by omega) HS.out.rlen HS.out.rank).mono ?_
  rintro e w15 ⟨rfl, n15, rfl⟩
  go_wp2_with fail
  refine (words_any _ _ _ (zsN l) (zsN l) l.length l.length (HBK13.out.below (below_drewN' (Below.refl _ _) _)) ((HR.out.below HB13.out).below (below_drewN' (Below.refl _ _) _)) (by omega) (by omega)).mono ?_
  rintro e w16 ⟨rfl, n16, rfl⟩
  rw [eqL_self]
  go_wp2_with fail
  go_ret
  exact ⟨rfl, below_drewN' HB13.out _⟩

set_option maxRecDepth 100000 in
set_option maxHeartbeats 2000000 in
theorem lss_d4 (w : World) (n : Nat) (sa sp sf : Option Addr) (cap cp cf : Nat) (l : List Nat) (p fr : List Int) (HR : Hid (Rd w 1 (.slice sa l.length cap) l.length (u64s (zsN l)))) (HP : Hid (Rd w 1 (.slice sp p.length cp) p.length (i64s p))) (HF : Hid (Rd w 1 (.slice sf fr.length cf) fr.length (i64s fr))) (HW : Hid (W64 l))
    (hl : l.length ≤ 100) (hn : n ≤ 40) (hbp : p.length ≤ 17592186043904) (hbf : fr.length ≤ 17592186043904) (HC0 : Hid (cntS (n : Int) 0 = 0)) (HRF : Hid (rsB (n : Int) fr = true)) (HRP : Hid (rsB (n : Int) p = true)) (h4 : ((fr.length : Int) != (p.length : Int)) = false) (H3 : Hid (fr.length = p.length)) (hkn : p.length ≤ n) (HRQ : Hid (rsB (n : Int) p = true)) (HROW : Hid (rowN l (limS n p.length) = none)) :
    Calls Try.prog 8 #[.slice sa l.length cap, .int .i64 (n : Int), .slice sp p.length cp, .slice sf fr.length cf] w fun e w' => e = .returned (.bool true) ∧ Below w.heap.size w w' := by
  go_enter Try.func8, Try.ntmps8
  go_wp2_with (go_at_call 15; refine (awake41 _).mono ?_; rintro e w1 ⟨rfl, hb1⟩; have HB1 := Lib.hid hb1; clear hb1)
  refine (submove_ok w1 n _ _ fr.length p.length fr p (HF.out.below HB1.out) (HP.out.below HB1.out) (by omega) HRF.out HRP.out H3.out).mono ?_
  rintro e w2 ⟨s2, c2, rfl, hown2, hb2⟩
  have HB2 := Lib.hid (below_two HB1.out hb2); have HO2 := Lib.hid (rd_of_row hown2); clear hb2 hown2
  go_wp2_with fail
  refine (cnt41_any (n : Int) 0 w2).mono ?_
  rintro e w3 ⟨rfl, rfl⟩
  rw [HC0.out]
  go_wp2_with fail
  refine (refrises_any w2 (n : Int) _ fr.length fr (HF.out.below HB2.out) hbf).mono ?_
  rintro e w3 ⟨rfl, q3, rfl⟩
  rw [HRF.out]
  have HB3 := Lib.hid (below_drewN' HB2.out q3)
  go_wp2_with fail
  refine (refrises_any (w2.drewN q3) (n : Int) _ p.length p (HP.out.below HB3.out) hbp).mono ?_
  rintro e w4 ⟨rfl, q4, rfl⟩
  rw [HRP.out]
  have HB4 := Lib.hid (below_drewN' HB2.out (q3 + q4))
  go_wp2_with fail
  refine (refmove_any (w2.drewN (q3 + q4)) n _ _ fr.length p.length fr p (HF.out.below HB4.out) (HP.out.below HB4.out) (by omega) HRF.out HRP.out H3.out).mono ?_
  rintro e w5 ⟨s5, c5, rfl, hown5, hb5⟩
  have HO5 := Lib.hid (rd_of_row hown5)
  have hd : Below w2.heap.size w2 (w2.drewN (q3 + q4)) := below_drewN' (Below.refl _ _) _
  have HO2b := Lib.hid ((HO2.out.below hd).below hb5)
  have HB5 := Lib.hid (below_two HB4.out hb5); clear hb5 hown5 hd
  go_wp2_with fail
  refine (ints_any w5 _ _ (moveL n fr p) (moveL n fr p) n n HO2b.out HO5.out (by omega) (by omega)).mono ?_
  rintro e w6 ⟨rfl, q6, rfl⟩
  rw [eqL_self]
  have HBX := Lib.hid (below_drewN' HB5.out q6)
  go_wp2_with fail
  refine (aimset_any (w5.drewN q6) _ _ l.length n p.length l p (HR.out.below HBX.out) (HP.out.below HBX.out) (by omega) HW.out hkn (by omega) HRQ.out).mono ?_
  rintro e w7 ⟨he, hb7⟩
  rw [HROW.out] at he
  obtain rfl : e = .returned (.tuple #[.slice none 0 0, .int .i64 7]) := he
  have HB7 := Lib.hid (below_two HBX.out hb7); clear hb7
  go_wp2_with fail
  refine (refrises_any w7 (n : Int) _ p.length p (HP.out.below HB7.out) hbp).mono ?_
  rintro e w8 ⟨rfl, q8, rfl⟩
  rw [HRQ.out]
  have HB8 := Lib.hid (below_drewN' HB7.out q8)
  go_wp2_with fail
  refine (rtake41_any (w7.drewN q8) _ _ l n p.length (HR.out.below HB8.out) (by omega) HW.out hkn (by omega)).mono ?_
  rintro e w9 ⟨he, hb9⟩
  rw [HROW.out] at he
  obtain rfl : e = .returned (.tuple #[.slice none 0 0, .slice none 0 0, .int .i64 (l.length : Int), .bool false]) := he
  have HB9 := Lib.hid (below_two HB8.out hb9); clear hb9
  go_wp2_with fail
  go_ret
  exact ⟨rfl, HB9.out⟩

set_option maxRecDepth 100000 in
set_option maxHeartbeats 2000000 in
theorem lss_d5 (w : World) (n : Nat) (sa sp sf : Option Addr) (cap cp cf : Nat) (l : List Nat) (p fr : List Int) (HR : Hid (Rd w 1 (.slice sa l.length cap) l.length (u64s (zsN l)))) (HP : Hid (Rd w 1 (.slice sp p.length cp) p.length (i64s p))) (HF : Hid (Rd w 1 (.slice sf fr.length cf) fr.length (i64s fr))) (HW : Hid (W64 l))
    (hl : l.length ≤ 100) (hn : n ≤ 40) (hbp : p.length ≤ 17592186043904) (hbf : fr.length ≤ 17592186043904) (HC0 : Hid (cntS (n : Int) 0 = 0)) (HRF : Hid (rsB (n : Int) fr = true)) (HRP : Hid (rsB (n : Int) p = true)) (h4 : ((fr.length : Int) != (p.length : Int)) = false) (H3 : Hid (fr.length = p.length)) (hkn : p.length ≤ n) (HRQ : Hid (rsB (n : Int) p = true)) (r : List Drw × Nat) (HROW : Hid (rowN l (limS n p.length) = some r)) :
    Calls Try.prog 8 #[.slice sa l.length cap, .int .i64 (n : Int), .slice sp p.length cp, .slice sf fr.length cf] w fun e w' => e = .returned (.bool true) ∧ Below w.heap.size w w' := by
  obtain ⟨Was, N1, M, T, r2, S⟩ := sets_plain n l p r HW.out hkn hn HRQ.out HROW.out
  have HS := Lib.hid S; clear S
  go_enter Try.func8, Try.ntmps8
  go_wp2_with (go_at_call 15; refine (awake41 _).mono ?_; rintro e w1 ⟨rfl, hb1⟩; have HB1 := Lib.hid hb1; clear hb1)
  refine (submove_ok w1 n _ _ fr.length p.length fr p (HF.out.below HB1.out) (HP.out.below HB1.out) (by omega) HRF.out HRP.out H3.out).mono ?_
  rintro e w2 ⟨s2, c2, rfl, hown2, hb2⟩
  have HB2 := Lib.hid (below_two HB1.out hb2); have HO2 := Lib.hid (rd_of_row hown2); clear hb2 hown2
  go_wp2_with fail
  refine (cnt41_any (n : Int) 0 w2).mono ?_
  rintro e w3 ⟨rfl, rfl⟩
  rw [HC0.out]
  go_wp2_with fail
  refine (refrises_any w2 (n : Int) _ fr.length fr (HF.out.below HB2.out) hbf).mono ?_
  rintro e w3 ⟨rfl, q3, rfl⟩
  rw [HRF.out]
  have HB3 := Lib.hid (below_drewN' HB2.out q3)
  go_wp2_with fail
  refine (refrises_any (w2.drewN q3) (n : Int) _ p.length p (HP.out.below HB3.out) hbp).mono ?_
  rintro e w4 ⟨rfl, q4, rfl⟩
  rw [HRP.out]
  have HB4 := Lib.hid (below_drewN' HB2.out (q3 + q4))
  go_wp2_with fail
  refine (refmove_any (w2.drewN (q3 + q4)) n _ _ fr.length p.length fr p (HF.out.below HB4.out) (HP.out.below HB4.out) (by omega) HRF.out HRP.out H3.out).mono ?_
  rintro e w5 ⟨s5, c5, rfl, hown5, hb5⟩
  have HO5 := Lib.hid (rd_of_row hown5)
  have hd : Below w2.heap.size w2 (w2.drewN (q3 + q4)) := below_drewN' (Below.refl _ _) _
  have HO2b := Lib.hid ((HO2.out.below hd).below hb5)
  have HB5 := Lib.hid (below_two HB4.out hb5); clear hb5 hown5 hd
  go_wp2_with fail
  refine (ints_any w5 _ _ (moveL n fr p) (moveL n fr p) n n HO2b.out HO5.out (by omega) (by omega)).mono ?_
  rintro e w6 ⟨rfl, q6, rfl⟩
  rw [eqL_self]
  have HBX := Lib.hid (below_drewN' HB5.out q6)
  go_wp2_with fail
  refine (aimset_any (w5.drewN q6) _ _ l.length n p.length l p (HR.out.below HBX.out) (HP.out.below HBX.out) (by omega) HW.out hkn (by omega) HRQ.out).mono ?_
  rintro e w7 ⟨he, hb7⟩
  rw [HROW.out] at he
  obtain ⟨s7, c7, rfl, hout⟩ := he
  rw [HS.out.aim] at hout
  have HOUT := Lib.hid (rd_of_row hout)
  have HB7 := Lib.hid (below_two HBX.out hb7); clear hb7 hout
  go_wp2_with fail
  refine (refrises_any w7 (n : Int) _ p.length p (HP.out.below HB7.out) hbp).mono ?_
  rintro e w8 ⟨rfl, q8, rfl⟩
  rw [HRQ.out]
  have HB8 := Lib.hid (below_drewN' HB7.out q8)
  have HOUT8 := Lib.hid (HOUT.out.below (below_drewN' (Below.refl _ _) q8))
  go_wp2_with fail
  refine (rtake41_any (w7.drewN q8) _ _ l n p.length (HR.out.below HB8.out) (by omega) HW.out hkn (by omega)).mono ?_
  rintro e w9 ⟨he, hb9⟩
  rw [HROW.out] at he
  obtain ⟨s1, c1, s2, c2, rfl, hwas, hone⟩ := he
  rw [HS.out.was] at hwas
  have HWAS := Lib.hid hwas; have HONE := Lib.hid hone; have HO9 := Lib.hid (HOUT8.out.below hb9)
  have HB9 := Lib.hid (below_two HB8.out hb9); clear hb9 hwas hone
  go_wp2_with fail
  refine (rtake41_any w9 _ _ M n p.length HO9.out (by have := HS.out.len; omega) HS.out.fits hkn (by omega)).mono ?_
  rintro e w10 ⟨he, hb10⟩
  rw [HS.out.row] at he
  obtain ⟨s3, c3, s4, c4, rfl, hnow, htwo⟩ := he
  simp only at hnow htwo
  rw [HS.out.now] at hnow
  have HNOW := Lib.hid hnow; have HTWO := Lib.hid htwo
  have HO10 := Lib.hid (HO9.out.below hb10); have HW10 := Lib.hid (HWAS.out.below hb10); have HONE10 := Lib.hid (HONE.out.below hb10)
  have HB10 := Lib.hid (below_two HB9.out hb10); clear hb10 hnow htwo
  go_wp2_with fail
  refine (refset_any w10 _ p.length Was HW10.out (by omega)).mono ?_
  rintro e w11 ⟨s5, c5, rfl, hset, hb11⟩
  rw [HS.out.slen] at hset
  rw [HS.out.slen]
  have HSET := Lib.hid (rd_of_row hset)
  have HO11 := Lib.hid (HO10.out.below hb11); have HN11 := Lib.hid (HNOW.out.below hb11); have HONE11 := Lib.hid (HONE10.out.below hb11); have HTWO11 := Lib.hid (HTWO.out.below hb11)
  have HB11 := Lib.hid (below_two HB10.out hb11); clear hb11 hset
  go_wp2_with fail
  refine (aimset_any w11 _ _ l.length n p.length M (setL Was) HO11.out HSET.out (by omega) HS.out.fits hkn (by omega) HS.out.srs).mono ?_
  rintro e w12 ⟨he, hb12⟩
  rw [HS.out.row] at he
  obtain ⟨s6, c6, rfl, hbk⟩ := he
  simp only at hbk
  rw [HS.out.back] at hbk
  have HBK := Lib.hid (rd_of_row hbk)
  have HN12 := Lib.hid (HN11.out.below hb12); have HONE12 := Lib.hid (HONE11.out.below hb12); have HTWO12 := Lib.hid (HTWO11.out.below hb12)
  have HB12 := Lib.hid (below_two HB11.out hb12); clear hb12 hbk
  go_wp2_with fail
  refine (refset_any w12 _ p.length N1 HN12.out (by omega)).mono ?_
  rintro e w13 ⟨s8, c8, rfl, hset, hb13⟩
  rw [HS.out.nset] at hset
  rw [HS.out.nset]
  have HSET2 := Lib.hid (rd_of_row hset)
  have HBK13 := Lib.hid (HBK.out.below hb13); have HONE13 := Lib.hid (HONE12.out.below hb13); have HTWO13 := Lib.hid (HTWO12.out.below hb13)
  have HB13 := Lib.hid (below_two HB12.out hb13); clear hb13 hset
  go_wp2_with fail
  refine (ints_any w13 _ _ p p p.length p.length HSET2.out (HP.out.below HB13.out) (by omega) (by omega)).mono ?_
  rintro e w14 ⟨rfl, n14, rfl⟩
  rw [eqL_self]
  have hd : Below w13.heap.size w13 (w13.drewN n14) := below_drewN' (Below.refl _ _) n14
  have HD := Lib.hid hd; clear hd
  go_wp2_with fail
  refine (ranks_any _ _ _ r.1 T p.length p.length (HONE13.out.below HD.out) (HTWO13.out.below HD.out) (by omega) HS.out.rlen HS.out.rank).mono ?_
  rintro e w15 ⟨rfl, n15, rfl⟩
  go_wp2_with fail
  refine (words_any _ _ _ (zsN l) (zsN l) l.length l.length (HBK13.out.below (below_drewN' (Below.refl _ _) _)) ((HR.out.below HB13.out).below (below_drewN' (Below.refl _ _) _)) (by omega) (by omega)).mono ?_
  rintro e w16 ⟨rfl, n16, rfl⟩
  rw [eqL_self]
  go_wp2_with fail
  go_ret
  exact ⟨rfl, below_drewN' HB13.out _⟩

set_option maxRecDepth 100000 in
set_option maxHeartbeats 2000000 in
theorem law_SubsetSets (w : World) (v vp vf : Value) (m k kf : Nat) (n : Int) (l : List Nat) (p fr : List Int) (hr : Rd w 1 v m (u64s (zsN l))) (hp : Rd w 1 vp k (i64s p)) (hf : Rd w 1 vf kf (i64s fr)) (hw : W64 l) (hbp : k ≤ 17592186043904) (hbf : kf ≤ 17592186043904) :
    Calls Try.prog 8 #[v, .int .i64 n, vp, vf] w fun e w' => e = .returned (.bool true) ∧ Below w.heap.size w w' := by
  obtain rfl := hr.len_u64
  obtain rfl := hp.len_i64
  obtain rfl := hf.len_i64
  rw [zsN_len] at *
  obtain ⟨sa, cap, rfl⟩ := hr.form
  obtain ⟨sp, cp, rfl⟩ := hp.form
  obtain ⟨sf, cf, rfl⟩ := hf.form
  have HR := Lib.hid hr; have HW := Lib.hid hw; have HP := Lib.hid hp; have HF := Lib.hid hf
  clear hr hw hp hf
  by_cases h1 : 100 < l.length
  · go_enter Try.func8, Try.ntmps8
    go_wp2_with (go_at_call 15; refine (awake41 _).mono ?_; rintro e w1 ⟨rfl, hb1⟩; have HB1 := Lib.hid hb1; clear hb1)
    go_ret
    exact ⟨rfl, HB1.out⟩
  by_cases h2 : 40 < n ∧ n ≤ 256
  · obtain ⟨h3, h4⟩ := h2
    go_enter Try.func8, Try.ntmps8
    go_wp2_with (go_at_call 15; refine (awake41 _).mono ?_; rintro e w1 ⟨rfl, hb1⟩; have HB1 := Lib.hid hb1; clear hb1)
    go_ret
    exact ⟨rfl, HB1.out⟩
  by_cases h5 : 0 ≤ n ∧ n ≤ 256
  · obtain ⟨n, rfl⟩ : ∃ x : Nat, n = x := ⟨n.toNat, by omega⟩
    have hn : n ≤ 40 := by omega
    have hl : l.length ≤ 100 := by omega
    have HC0 := Lib.hid (cntS_zero.2 ⟨by omega, by omega, by omega⟩ : cntS (n : Int) 0 = 0)
    clear h1 h2 h5
    have hcase : (n < p.length ∧ cntS (n : Int) (p.length : Int) ≠ 0 ∧ rsB (n : Int) p = false) ∨ (p.length ≤ n ∧ cntS (n : Int) (p.length : Int) = 0 ∧ isSB (n : Int) p = false ∧ rsB (n : Int) p = false) ∨ (p.length ≤ n ∧ IsS (n : Int) p ∧ rsB (n : Int) p = false) ∨ (p.length ≤ n ∧ rsB (n : Int) p = true) := by
      by_cases hk : p.length ≤ n
      · cases hq : rsB (n : Int) p with
        | true => exact .inr (.inr (.inr ⟨hk, rfl⟩))
        | false =>
          cases hi : isSB (n : Int) p with
          | true => exact .inr (.inr (.inl ⟨hk, isSB_iff.1 hi, rfl⟩))
          | false => exact .inr (.inl ⟨hk, cntS_zero.2 ⟨by omega, by omega, by omega⟩, rfl, rfl⟩)
      · refine .inl ⟨by omega, fun h => by have := cntS_zero.1 h; omega, ?_⟩
        cases hq : rsB (n : Int) p with
        | false => rfl
        | true => have := othL_len (rs_up hq).1; omega
    cases hfr : rsB (n : Int) fr with
    | false =>
      rcases hcase with ⟨c1, c2, c3⟩ | ⟨c1, c2, c3, c4⟩ | ⟨c1, c2, c3⟩ | ⟨c1, c2⟩
      · exact lss_a1 w n sa sp sf cap cp cf l p fr HR HP HF HW hl hn hbp hbf HC0 hfr c1 c2
      · exact lss_a2 w n sa sp sf cap cp cf l p fr HR HP HF HW hl hn hbp hbf HC0 hfr c1 c2 c3 c4
      · exact lss_a3 w n sa sp sf cap cp cf l p fr HR HP HF HW hl hn hbp hbf HC0 hfr c1 c2 c3
      · cases hrow : rowN l (limS n p.length) with
        | none => exact lss_a4 w n sa sp sf cap cp cf l p fr HR HP HF HW hl hn hbp hbf HC0 hfr c1 c2 hrow
        | some r => exact lss_a5 w n sa sp sf cap cp cf l p fr HR HP HF HW hl hn hbp hbf HC0 hfr c1 c2 r hrow
    | true =>
      rcases hcase with ⟨c1, c2, c3⟩ | ⟨c1, c2, c3, c4⟩ | ⟨c1, c2, c3⟩ | ⟨c1, c2⟩
      · exact lss_b1 w n sa sp sf cap cp cf l p fr HR HP HF HW hl hn hbp hbf HC0 hfr c3 c1 c2
      · exact lss_b2 w n sa sp sf cap cp cf l p fr HR HP HF HW hl hn hbp hbf HC0 hfr c4 c1 c2 c3 c4
      · exact lss_b3 w n sa sp sf cap cp cf l p fr HR HP HF HW hl hn hbp hbf HC0 hfr c3 c1 c2 c3
      · by_cases he : fr.length = p.length
        · have h4 : ((fr.length : Int) != (p.length : Int)) = false := by rw [he]; simp
          cases hrow : rowN l (limS n p.length) with
          | none => exact lss_d4 w n sa sp sf cap cp cf l p fr HR HP HF HW hl hn hbp hbf HC0 hfr c2 h4 he c1 c2 hrow
          | some r => exact lss_d5 w n sa sp sf cap cp cf l p fr HR HP HF HW hl hn hbp hbf HC0 hfr c2 h4 he c1 c2 r hrow
        · have h4 : ((fr.length : Int) != (p.length : Int)) = true := by simp; omega
          cases hrow : rowN l (limS n p.length) with
          | none => exact lss_c4 w n sa sp sf cap cp cf l p fr HR HP HF HW hl hn hbp hbf HC0 hfr c2 h4 c1 c2 hrow
          | some r => exact lss_c5 w n sa sp sf cap cp cf l p fr HR HP HF HW hl hn hbp hbf HC0 hfr c2 h4 c1 c2 r hrow
  · have HC1 := Lib.hid (cntS_one (n := n) (k := 0) (fun h => h5 ⟨h.1, h.2.1⟩))
    have HN := Lib.hid h5
    by_cases h6 : 40 < n
    · have h7 : 256 < n := by omega
      clear h5 h2
      go_enter Try.func8, Try.ntmps8
      go_wp2_with (go_at_call 15; refine (awake41 _).mono ?_; rintro e w1 ⟨rfl, hb1⟩; have HB1 := Lib.hid hb1; clear hb1)
      refine (submove_cnt w1 n _ _ HN.out).mono ?_
      rintro e w2 ⟨rfl, rfl⟩
      go_wp2_with fail
      refine (cnt41_any n 0 w1).mono ?_
      rintro e w3 ⟨rfl, rfl⟩
      rw [HC1.out]
      go_wp2_with fail
      go_ret
      exact ⟨rfl, HB1.out⟩

    · clear h5 h2
      go_enter Try.func8, Try.ntmps8
      go_wp2_with (go_at_call 15; refine (awake41 _).mono ?_; rintro e w1 ⟨rfl, hb1⟩; have HB1 := Lib.hid hb1; clear hb1)
      refine (submove_cnt w1 n _ _ HN.out).mono ?_
      rintro e w2 ⟨rfl, rfl⟩
      go_wp2_with fail
      refine (cnt41_any n 0 w1).mono ?_
      rintro e w3 ⟨rfl, rfl⟩
      rw [HC1.out]
      go_wp2_with fail
      go_ret
      exact ⟨rfl, HB1.out⟩

end Go.Proofs.Ytkgmobneipdpeaa

