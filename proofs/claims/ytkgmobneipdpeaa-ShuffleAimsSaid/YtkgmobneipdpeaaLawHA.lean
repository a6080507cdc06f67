/-
  ShuffleAims: any tape aimed at any order: it tells that, by as many words; aimed back it is as it was.
-/
import Derived.Test.YtkgmobneipdpeaaHAim
import Derived.Test.YtkgmobneipdpeaaRanks
import Derived.Test.YtkgmobneipdpeaaShuf3
import Derived.Test.YtkgmobneipdpeaaWords
namespace Go.Proofs.Ytkgmobneipdpeaa
open Go.RowKit
set_option linter.unusedVariables false

theorem choD_of {n : Nat} {C : List Int} {ds : List Drw} (hl : C.length = n) (hr : shRight C) (hd : ds.length = n - 1) (hn : numsN ds = vsH n C) : choD n ds = C := by
  unfold choD
  refine ext_getD (by rw [choH_len, hl]) fun j hj => ?_
  rw [choH_len] at hj
  rw [choH_get hj]
  have hrj := hr j (by omega)
  by_cases h1 : n - ds.length ≤ j
  · rw [if_pos h1]
    have h2 : (numsN ds).getD (n - 1 - j) 0 = (vsH n C).getD (n - 1 - j) 0 := by rw [hn]
    rw [vsH_get C (by omega), show n - 1 - (n - 1 - j) = j by omega] at h2
    have h3 : (numsN ds).getD (n - 1 - j) 0 = (ds.getD (n - 1 - j) dwZ).1 := by
      simp [numsN, List.getD, List.getElem?_eq_getElem (show n - 1 - j < ds.length by omega)]
    rw [h3] at h2
    omega
  · rw [if_neg h1]
    have : j = 0 := by omega
    subst this
    omega
theorem vsH_choD {n : Nat} {ds : List Drw} (hd : ds.length = n - 1) : vsH n (choD n ds) = numsN ds := by
  refine List.ext_getElem (by rw [vsH_len]; simp [numsN, hd]) fun k h1 h2 => ?_
  rw [vsH_len] at h1
  have a := vsH_get (choD n ds) h1
  unfold choD at a
  rw [choH_get (by omega), if_pos (by omega), show n - 1 - (n - 1 - k) = k by omega, Int.toNat_natCast] at a
  have b : (numsN ds).getD k 0 = (ds.getD k dwZ).1 := by
    simp [numsN, List.getD, List.getElem?_eq_getElem (show k < ds.length by omega)]
  rw [← b] at a
  unfold choD
  rw [List.getD_eq_getElem?_getD, List.getD_eq_getElem?_getD, List.getElem?_eq_getElem (by rw [vsH_len]; exact h1), List.getElem?_eq_getElem h2] at a
  simp only [Option.getD_some] at a
  exact a

set_option maxRecDepth 100000 in
set_option maxHeartbeats 4000000 in
theorem law_ShuffleAims (w : World) (v vp : Value) (m n : Nat) (l : List Nat) (p : List Int) (hr : Rd w 1 v m (u64s (zsN l))) (hp : Rd w 1 vp n (i64s p)) (hw : W64 l) :
    Calls Try.prog 6 #[v, vp] w fun e w' => e = .returned (.bool true) ∧ Below w.heap.size w w' := by
  obtain rfl := hr.len_u64
  obtain rfl := hp.len_i64
  rw [zsN_len] at *
  obtain ⟨sa, cap, rfl⟩ := hr.form
  obtain ⟨sp, cp, rfl⟩ := hp.form
  have HR := Lib.hid hr; have HW := Lib.hid hw; have HP := Lib.hid hp
  clear hr hw hp
  by_cases h1 : 100 < l.length
  · go_enter Try.func6, Try.ntmps6
    go_wp2_with (go_at_call 26; refine (awake40 _).mono ?_; rintro e w1 ⟨rfl, hb1⟩; have HB1 := Lib.hid hb1; clear hb1)
    go_ret
    exact ⟨rfl, HB1.out⟩
  · by_cases h2 : 30 < p.length
    · go_enter Try.func6, Try.ntmps6
      go_wp2_with (go_at_call 26; refine (awake40 _).mono ?_; rintro e w1 ⟨rfl, hb1⟩; have HB1 := Lib.hid hb1; clear hb1)
      go_ret
      exact ⟨rfl, HB1.out⟩
    · cases hip : isPB p with
      | false =>
        have HIP := Lib.hid hip; clear hip
        go_enter Try.func6, Try.ntmps6
        go_wp2_with (go_at_call 26; refine (awake40 _).mono ?_; rintro e w1 ⟨rfl, hb1⟩; have HB1 := Lib.hid hb1; clear hb1)
        refine (haim_bad w1 _ _ 0 p.length l p (HP.out.below HB1.out) (by omega) HIP.out).mono ?_
        rintro e w2 ⟨rfl, hb2⟩
        have HB2 := Lib.hid (below_two HB1.out hb2); clear hb2
        go_wp2_with fail
        refine (refis_any w2 _ p.length p (HP.out.below HB2.out) (by omega)).mono ?_
        rintro e w3 ⟨rfl, rfl⟩
        rw [HIP.out]
        go_wp2_with fail
        go_ret
        exact ⟨rfl, HB2.out⟩
      | true =>
        have HIP := Lib.hid hip
        have HISP := Lib.hid (isPB_iff.1 hip)
        clear hip
        cases hrow : rowN l (limH p.length) with
        | none =>
          have HROW := Lib.hid hrow; clear hrow
          go_enter Try.func6, Try.ntmps6
          go_wp2_with (go_at_call 26; refine (awake40 _).mono ?_; rintro e w1 ⟨rfl, hb1⟩; have HB1 := Lib.hid hb1; clear hb1)
          refine (haim_any w1 _ _ l.length p.length l p (HR.out.below HB1.out) (HP.out.below HB1.out) (by omega) HW.out (by omega) HISP.out).mono ?_
          rintro e w2 ⟨he, hb2⟩
          rw [HROW.out] at he
          obtain rfl : e = .returned (.tuple #[.slice none 0 0, .int .i64 7]) := he
          have HB2 := Lib.hid (below_two HB1.out hb2); clear hb2
          go_wp2_with fail
          refine (refis_any w2 _ p.length p (HP.out.below HB2.out) (by omega)).mono ?_
          rintro e w3 ⟨rfl, rfl⟩
          rw [HIP.out]
          go_wp2_with fail
          refine (rtake40_any w2 _ _ l p.length (HR.out.below HB2.out) (by omega) HW.out (by omega)).mono ?_
          rintro e w3 ⟨he, hb3⟩
          rw [HROW.out] at he
          obtain rfl : e = .returned (.tuple #[.slice none 0 0, .slice none 0 0, .int .i64 (l.length : Int), .bool false]) := he
          have HB3 := Lib.hid (below_two HB2.out hb3); clear hb3
          go_wp2_with fail
          go_ret
          exact ⟨rfl, HB3.out⟩
        | some r =>
          have HROW := Lib.hid hrow
          obtain ⟨hpc, hsr, hcl⟩ := perm_cho HISP.out
          have hfit := vsH_fits hcl hsr
          obtain ⟨a1, a2, a3, a4, a5, a6⟩ := rowN_aim HW.out hrow hfit
          obtain ⟨hrl, hchd⟩ := choD_right HW.out (n := p.length) (k0 := 0) (by omega) hrow
          have htl : (turnS r.1 (vsH p.length (choL p))).length = p.length - 1 := by rw [turnS_len (by rw [vsH_len, hrl]), hrl]
          have hnow : permL (choD p.length (turnS r.1 (vsH p.length (choL p)))) = p := by rw [choD_of hcl hsr htl a5, hpc]
          obtain ⟨hcp, hwp⟩ := cho_perm hchd
          have hback : aimS (limH p.length) (aimS (limH p.length) l r.1 (vsH p.length (choL p))) (turnS r.1 (vsH p.length (choL p))) (vsH p.length (choL (permL (choD p.length r.1)))) = l := by
            rw [hcp, vsH_choD hrl]; exact a2
          have hrk := turnS_at (ds := r.1) (vs := vsH p.length (choL p)) (by rw [vsH_len, hrl])
          have hwl : (permL (choD p.length r.1)).length = p.length := by
            unfold permL
            rw [permR_len]
            exact choH_len _ _ _
          generalize hM : aimS (limH p.length) l r.1 (vsH p.length (choL p)) = M at *
          generalize turnS r.1 (vsH p.length (choL p)) = T at *
          generalize hWas : permL (choD p.length r.1) = Was at *
          have HWD := Lib.hid hWas; clear hWas
          have HM := Lib.hid hM; have HA1 := Lib.hid a1; have HA3 := Lib.hid a3; have HA4 := Lib.hid a4; have HNOW := Lib.hid hnow; have HBACK := Lib.hid hback; have HRK := Lib.hid hrk; have HWP := Lib.hid hwp; have HRL := Lib.hid hrl; have HTL := Lib.hid htl; have HWL := Lib.hid hwl
          clear hrow hpc hsr hcl hfit hM a1 a2 a3 a4 a5 a6 hrl hchd htl hnow hcp hwp hback hrk hwl
          obtain ⟨N1, hN1⟩ : ∃ N1, N1 = p.length - 1 := ⟨_, rfl⟩
          have HN1 := Lib.hid hN1; clear hN1
          go_enter Try.func6, Try.ntmps6
          go_wp2_with (go_at_call 26; refine (awake40 _).mono ?_; rintro e w1 ⟨rfl, hb1⟩; have HB1 := Lib.hid hb1; clear hb1)
          refine (haim_any w1 _ _ l.length p.length l p (HR.out.below HB1.out) (HP.out.below HB1.out) (by omega) HW.out (by omega) HISP.out).mono ?_
          rintro e w2 ⟨he, hb2⟩
          rw [HROW.out] at he
          obtain ⟨so, co, rfl, hout⟩ := he
          rw [HM.out] at hout
          have HOUT := Lib.hid (rd_of_row hout)
          have HB2 := Lib.hid (below_two HB1.out hb2); clear hb2 hout
          go_wp2_with fail
          refine (refis_any w2 _ p.length p (HP.out.below HB2.out) (by omega)).mono ?_
          rintro e w3 ⟨rfl, rfl⟩
          rw [HIP.out]
          go_wp2_with fail
          refine (rtake40_any w2 _ _ l p.length (HR.out.below HB2.out) (by omega) HW.out (by omega)).mono ?_
          rintro e w3 ⟨he, hb3⟩
          rw [HROW.out, ← HN1.out] at he
          obtain ⟨s1, c1, s2, c2, rfl, hwas, hone⟩ := he
          rw [HWD.out] at hwas
          have HWAS := Lib.hid (rd_of_row hwas); have HONE := Lib.hid hone
          have HO3 := Lib.hid (HOUT.out.below hb3)
          have HB3 := Lib.hid (below_two HB2.out hb3); clear hb3 hwas hone
          go_wp2_with fail
          refine (rtake40_any w3 _ _ M p.length HO3.out (by omega) HA3.out (by omega)).mono ?_
          rintro e w4 ⟨he, hb4⟩
          rw [HA1.out, ← HN1.out] at he
          obtain ⟨s3, c3, s4, c4, rfl, hnow4, htwo⟩ := he
          simp only at hnow4 htwo
          rw [HNOW.out] at hnow4
          have HNOW4 := Lib.hid (rd_of_row hnow4); have HTWO := Lib.hid htwo
          have HO4 := Lib.hid (HO3.out.below hb4); have HW4 := Lib.hid (HWAS.out.below hb4); have HONE4 := Lib.hid (HONE.out.below hb4)
          have HB4 := Lib.hid (below_two HB3.out hb4); clear hb4 hnow4 htwo
          go_wp2_with fail
          refine (haim_any w4 _ _ l.length p.length M Was HO4.out HW4.out (by omega) HA3.out (by omega) HWP.out).mono ?_
          rintro e w5 ⟨he, hb5⟩
          rw [HA1.out] at he
          obtain ⟨s5, c5, rfl, hb⟩ := he
          rw [HBACK.out] at hb
          have HBK := Lib.hid (rd_of_row hb)
          have HNOW5 := Lib.hid (HNOW4.out.below hb5); have HONE5 := Lib.hid (HONE4.out.below hb5); have HTWO5 := Lib.hid (HTWO.out.below hb5)
          have HB5 := Lib.hid (below_two HB4.out hb5); clear hb5 hb
          go_wp2_with fail
          refine (ints_any w5 _ _ p p p.length p.length HNOW5.out (HP.out.below HB5.out) (by omega) (by omega)).mono ?_
          rintro e w6 ⟨rfl, n6, rfl⟩
          rw [eqL_self]
          have hd6 : Below w5.heap.size w5 (w5.drewN n6) := below_drewN' (Below.refl _ _) n6
          have HD6 := Lib.hid hd6; clear hd6
          go_wp2_with fail
          refine (ranks_any _ _ _ r.1 T N1 N1 (HONE5.out.below HD6.out) (HTWO5.out.below HD6.out) (by have := HN1.out; omega) (by rw [HRL.out, HTL.out]) (fun i hi => ⟨(HRK.out i hi).1.symm, (HRK.out i hi).2.symm⟩)).mono ?_
          rintro e w7 ⟨rfl, n7, rfl⟩
          have hd7 : Below w5.heap.size w5 ((w5.drewN n6).drewN n7) := below_drewN' HD6.out n7
          have HD7 := Lib.hid hd7; clear hd7
          go_wp2_with fail
          refine (words_any _ _ _ (zsN l) (zsN l) l.length l.length (HBK.out.below (below_drewN' (Below.refl _ _) _)) ((HR.out.below HB5.out).below (below_drewN' (Below.refl _ _) _)) (by omega) (by omega)).mono ?_
          rintro e w8 ⟨rfl, n8, rfl⟩
          rw [eqL_self]
          go_wp2_with fail
          go_ret
          exact ⟨rfl, below_drewN' HB5.out _⟩

end Go.Proofs.Ytkgmobneipdpeaa
