/-
  SubsetAims: any tape aimed at any pick: it tells that, by as many words; aimed back it is as it was.
-/
import Derived.Test.YtkgmobneipdpeaaSAim
import Derived.Test.YtkgmobneipdpeaaRanks
import Derived.Test.YtkgmobneipdpeaaSub4
import Derived.Test.YtkgmobneipdpeaaWords
namespace Go.Proofs.Ytkgmobneipdpeaa
open Go.RowKit
set_option linter.unusedVariables false

theorem numsI_zs (ds : List Drw) : numsI ds = zsN (numsN ds) := by simp [numsI, zsN, numsN]
theorem zs_vsS {n : Int} {C : List Int} (h : sbRight n C) : zsN (vsS C) = C := by
  refine List.ext_getElem (by simp [zsN, vsS]) fun i h1 h2 => ?_
  have := (h i h2).1
  rw [List.getD_eq_getElem?_getD, List.getElem?_eq_getElem h2] at this
  simp only [Option.getD_some] at this
  simp only [zsN, vsS, List.getElem_map]
  omega
theorem vsS_zs (l : List Nat) : vsS (zsN l) = l := by
  simp only [vsS, zsN, List.map_map]
  refine (List.map_congr_left fun x _ => ?_).trans (List.map_id l)
  simp

set_option maxRecDepth 100000 in
set_option maxHeartbeats 4000000 in
theorem law_SubsetAims (w : World) (v vp : Value) (m k : Nat) (n : Int) (l : List Nat) (p : List Int) (hr : Rd w 1 v m (u64s (zsN l))) (hp : Rd w 1 vp k (i64s p)) (hw : W64 l) :
    Calls Try.prog 7 #[v, .int .i64 n, vp] w fun e w' => e = .returned (.bool true) ∧ Below w.heap.size w w' := by
  obtain rfl := hr.len_u64
  obtain rfl := hp.len_i64
  rw [zsN_len] at *
  obtain ⟨sa, cap, rfl⟩ := hr.form
  obtain ⟨sp, cp, rfl⟩ := hp.form
  have HR := Lib.hid hr; have HW := Lib.hid hw; have HP := Lib.hid hp
  clear hr hw hp
  by_cases hearly : 100 < l.length ∨ (40 < n ∧ n ≤ 256)
  · rcases hearly with h1 | h1
    · go_enter Try.func7, Try.ntmps7
      go_wp2_with (go_at_call 15; refine (awake41 _).mono ?_; rintro e w1 ⟨rfl, hb1⟩; have HB1 := Lib.hid hb1; clear hb1)
      go_ret
      exact ⟨rfl, HB1.out⟩
    · by_cases h2 : 100 < l.length
      · go_enter Try.func7, Try.ntmps7
        go_wp2_with (go_at_call 15; refine (awake41 _).mono ?_; rintro e w1 ⟨rfl, hb1⟩; have HB1 := Lib.hid hb1; clear hb1)
        go_ret
        exact ⟨rfl, HB1.out⟩
      · obtain ⟨h3, h4⟩ := h1
        go_enter Try.func7, Try.ntmps7
        go_wp2_with (go_at_call 15; refine (awake41 _).mono ?_; rintro e w1 ⟨rfl, hb1⟩; have HB1 := Lib.hid hb1; clear hb1)
        go_ret
        exact ⟨rfl, HB1.out⟩
  · have hl : l.length ≤ 100 := by omega
    have hn60 : n ≤ 40 ∨ 256 < n := by omega
    clear hearly
    by_cases hcnt : cntS n (p.length : Int) = 0
    · have hz := cntS_zero.1 hcnt
      obtain ⟨n, rfl⟩ : ∃ x : Nat, n = x := ⟨n.toNat, by omega⟩
      have hn : n ≤ 40 := by omega
      have hkn : p.length ≤ n := by omega
      have HCNT := Lib.hid hcnt
      clear hn60 hz hcnt
      cases his : isSB (n : Int) p with
      | false =>
        have HIS := Lib.hid his; clear his
        go_enter Try.func7, Try.ntmps7
        go_wp2_with (go_at_call 15; refine (awake41 _).mono ?_; rintro e w1 ⟨rfl, hb1⟩; have HB1 := Lib.hid hb1; clear hb1)
        refine (saim_bad w1 _ _ (n : Int) p.length p (HP.out.below HB1.out) HCNT.out HIS.out).mono ?_
        rintro e w2 ⟨rfl, hb2⟩
        have HB2 := Lib.hid (below_two HB1.out hb2); clear hb2
        go_wp2_with fail
        refine (cnt41_any (n : Int) (p.length : Int) w2).mono ?_
        rintro e w3 ⟨rfl, rfl⟩
        rw [HCNT.out]
        go_wp2_with fail
        refine (refis41_any w2 (n : Int) _ p.length p (HP.out.below HB2.out) (by omega)).mono ?_
        rintro e w3 ⟨rfl, rfl⟩
        rw [HIS.out]
        go_wp2_with fail
        go_ret
        exact ⟨rfl, HB2.out⟩
      | true =>
        have HIS := Lib.hid his
        have HISS := Lib.hid (isSB_iff.1 his)
        clear his
        cases hrow : rowN l (limS n p.length) with
        | none =>
          have HROW := Lib.hid hrow; clear hrow
          go_enter Try.func7, Try.ntmps7
          go_wp2_with (go_at_call 15; refine (awake41 _).mono ?_; rintro e w1 ⟨rfl, hb1⟩; have HB1 := Lib.hid hb1; clear hb1)
          refine (saim_any w1 _ _ l.length n p.length l p (HR.out.below HB1.out) (HP.out.below HB1.out) (by omega) HW.out hkn (by omega) HISS.out).mono ?_
          rintro e w2 ⟨he, hb2⟩
          rw [HROW.out] at he
          obtain rfl : e = .returned (.tuple #[.slice none 0 0, .int .i64 7]) := he
          have HB2 := Lib.hid (below_two HB1.out hb2); clear hb2
          go_wp2_with fail
          refine (cnt41_any (n : Int) (p.length : Int) w2).mono ?_
          rintro e w3 ⟨rfl, rfl⟩
          rw [HCNT.out]
          go_wp2_with fail
          refine (refis41_any w2 (n : Int) _ p.length p (HP.out.below HB2.out) (by omega)).mono ?_
          rintro e w3 ⟨rfl, rfl⟩
          rw [HIS.out]
          go_wp2_with fail
          refine (rtake41_any w2 _ _ l n p.length (HR.out.below HB2.out) (by omega) HW.out hkn (by omega)).mono ?_
          rintro e w3 ⟨he, hb3⟩
          rw [HROW.out] at he
          obtain rfl : e = .returned (.tuple #[.slice none 0 0, .slice none 0 0, .int .i64 (l.length : Int), .bool false]) := he
          have HB3 := Lib.hid (below_two HB2.out hb3); clear hb3
          go_wp2_with fail
          go_ret
          exact ⟨rfl, HB3.out⟩
        | some r =>
          have HROW := Lib.hid hrow
          obtain ⟨hpc, hsr, hcl⟩ := pick_cho HISS.out
          have hfit := vsS_fits (n := n) (C := choS n p) (by omega) hsr
          rw [hcl] at hfit
          obtain ⟨a1, a2, a3, a4, a5, a6⟩ := rowN_aim HW.out hrow hfit
          obtain ⟨hrl, hsb⟩ := rowN_sub HW.out hkn (k0 := 0) (by omega) hrow
          have hvl : (vsS (choS n p)).length = r.1.length := by rw [vsS_len, hcl, hrl]
          have htl : (turnS r.1 (vsS (choS n p))).length = p.length := by rw [turnS_len hvl, hrl]
          have hnow : pickL n (numsI (turnS r.1 (vsS (choS n p)))) = p := by rw [numsI_zs, a5, zs_vsS hsr, hpc]
          obtain ⟨hcp, hwp, hwl⟩ := cho_pick hsb
          rw [numsI_len, hrl] at hwl
          have hback : aimS (limS n p.length) (aimS (limS n p.length) l r.1 (vsS (choS n p))) (turnS r.1 (vsS (choS n p))) (vsS (choS n (pickL n (numsI r.1)))) = l := by
            rw [hcp, numsI_zs, vsS_zs]; exact a2
          have hrk := turnS_at (ds := r.1) (vs := vsS (choS n p)) hvl
          generalize hM : aimS (limS n p.length) l r.1 (vsS (choS n p)) = M at *
          generalize turnS r.1 (vsS (choS n p)) = T at *
          generalize hWas : pickL n (numsI r.1) = Was at *
          have HWD := Lib.hid hWas; clear hWas
          have HM := Lib.hid hM; have HA1 := Lib.hid a1; have HA3 := Lib.hid a3; have HA4 := Lib.hid a4; have HNOW := Lib.hid hnow; have HBACK := Lib.hid hback; have HRK := Lib.hid hrk; have HWP := Lib.hid hwp; have HRL := Lib.hid hrl; have HTL := Lib.hid htl; have HWL := Lib.hid hwl
          clear hrow hpc hsr hcl hfit hM a1 a2 a3 a4 a5 a6 hrl hsb hvl htl hnow hcp hwp hback hrk hwl
          go_enter Try.func7, Try.ntmps7
          go_wp2_with (go_at_call 15; refine (awake41 _).mono ?_; rintro e w1 ⟨rfl, hb1⟩; have HB1 := Lib.hid hb1; clear hb1)
          refine (saim_any w1 _ _ l.length n p.length l p (HR.out.below HB1.out) (HP.out.below HB1.out) (by omega) HW.out hkn (by omega) HISS.out).mono ?_
          rintro e w2 ⟨he, hb2⟩
          rw [HROW.out] at he
          obtain ⟨so, co, rfl, hout⟩ := he
          rw [HM.out] at hout
          have HOUT := Lib.hid (rd_of_row hout)
          have HB2 := Lib.hid (below_two HB1.out hb2); clear hb2 hout
          go_wp2_with fail
          refine (cnt41_any (n : Int) (p.length : Int) w2).mono ?_
          rintro e w3 ⟨rfl, rfl⟩
          rw [HCNT.out]
          go_wp2_with fail
          refine (refis41_any w2 (n : Int) _ p.length p (HP.out.below HB2.out) (by omega)).mono ?_
          rintro e w3 ⟨rfl, rfl⟩
          rw [HIS.out]
          go_wp2_with fail
          refine (rtake41_any w2 _ _ l n p.length (HR.out.below HB2.out) (by omega) HW.out hkn (by omega)).mono ?_
          rintro e w3 ⟨he, hb3⟩
          rw [HROW.out] at he
          obtain ⟨s1, c1, s2, c2, rfl, hwas, hone⟩ := he
          rw [HWD.out] at hwas
          have HWAS := Lib.hid hwas; have HONE := Lib.hid hone
          have HO3 := Lib.hid (HOUT.out.below hb3)
          have HB3 := Lib.hid (below_two HB2.out hb3); clear hb3 hwas hone
          go_wp2_with fail
          refine (rtake41_any w3 _ _ M n p.length HO3.out (by omega) HA3.out hkn (by omega)).mono ?_
          rintro e w4 ⟨he, hb4⟩
          rw [HA1.out] at he
          obtain ⟨s3, c3, s4, c4, rfl, hnow4, htwo⟩ := he
          simp only at hnow4 htwo
          rw [HNOW.out] at hnow4
          have HNOW4 := Lib.hid hnow4; have HTWO := Lib.hid htwo
          have HO4 := Lib.hid (HO3.out.below hb4); have HW4 := Lib.hid (HWAS.out.below hb4); have HONE4 := Lib.hid (HONE.out.below hb4)
          have HB4 := Lib.hid (below_two HB3.out hb4); clear hb4 hnow4 htwo
          go_wp2_with fail
          refine (saim_any w4 _ _ l.length n p.length M Was HO4.out HW4.out (by omega) HA3.out hkn (by omega) HWP.out).mono ?_
          rintro e w5 ⟨he, hb5⟩
          rw [HA1.out] at he
          obtain ⟨s5, c5, rfl, hb⟩ := he
          rw [HBACK.out] at hb
          have HBK := Lib.hid (rd_of_row hb)
          have HNOW5 := Lib.hid (HNOW4.out.below hb5); have HONE5 := Lib.hid (HONE4.out.below hb5); have HTWO5 := Lib.hid (HTWO.out.below hb5)
          have HB5 := Lib.hid (below_two HB4.out hb5); clear hb5 hb
          go_wp2_with fail
          refine (ints_any w5 _ _ p p p.length p.length HNOW5.out (HP.out.below HB5.out) (by omega) (by omega)).mono ?_
          rintro e w6 ⟨rfl, n6, rfl⟩
          rw [eqL_self]
          have hd6 : Below w5.heap.size w5 (w5.drewN n6) := below_drewN' (Below.refl _ _) n6
          have HD6 := Lib.hid hd6; clear hd6
          go_wp2_with fail
          refine (ranks_any _ _ _ r.1 T p.length p.length (HONE5.out.below HD6.out) (HTWO5.out.below HD6.out) (by omega) (by rw [HRL.out, HTL.out]) (fun i hi => ⟨(HRK.out i hi).1.symm, (HRK.out i hi).2.symm⟩)).mono ?_
          rintro e w7 ⟨rfl, n7, rfl⟩
          go_wp2_with fail
          refine (words_any _ _ _ (zsN l) (zsN l) l.length l.length (HBK.out.below (below_drewN' (Below.refl _ _) _)) ((HR.out.below HB5.out).below (below_drewN' (Below.refl _ _) _)) (by omega) (by omega)).mono ?_
          rintro e w8 ⟨rfl, n8, rfl⟩
          rw [eqL_self]
          go_wp2_with fail
          go_ret
          exact ⟨rfl, below_drewN' HB5.out _⟩
    · have h1 := cntS_one (n := n) (k := (p.length : Int)) (fun h => hcnt (cntS_zero.2 h))
      have HCNT := Lib.hid h1
      have HC0 := Lib.hid hcnt
      clear hcnt h1
      by_cases h5 : 40 < n
      · have h6 : 256 < n := by omega
        clear hn60
        go_enter Try.func7, Try.ntmps7
        go_wp2_with (go_at_call 15; refine (awake41 _).mono ?_; rintro e w1 ⟨rfl, hb1⟩; have HB1 := Lib.hid hb1; clear hb1)
        refine (saim_cnt w1 _ _ n p.length p (HP.out.below HB1.out) HC0.out).mono ?_
        rintro e w2 ⟨rfl, rfl⟩
        go_wp2_with fail
        refine (cnt41_any n (p.length : Int) w1).mono ?_
        rintro e w3 ⟨rfl, rfl⟩
        rw [HCNT.out]
        go_wp2_with fail
        go_ret
        exact ⟨rfl, HB1.out⟩
      · clear hn60
        go_enter Try.func7, Try.ntmps7
        go_wp2_with (go_at_call 15; refine (awake41 _).mono ?_; rintro e w1 ⟨rfl, hb1⟩; have HB1 := Lib.hid hb1; clear hb1)
        refine (saim_cnt w1 _ _ n p.length p (HP.out.below HB1.out) HC0.out).mono ?_
        rintro e w2 ⟨rfl, rfl⟩
        go_wp2_with fail
        refine (cnt41_any n (p.length : Int) w1).mono ?_
        rintro e w3 ⟨rfl, rfl⟩
        rw [HCNT.out]
        go_wp2_with fail
        go_ret
        exact ⟨rfl, HB1.out⟩

end Go.Proofs.Ytkgmobneipdpeaa
