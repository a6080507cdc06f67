/-
  ReservoirUndoes: any order comes of the decisions, and of what stood there at first, that are told; of what decisions lead to, they are told, and that all stood in its place.
-/
import Derived.Test.YtlaljhjondmecaaUndo
import Derived.Test.YtlaljhjondmecaaResSlots
namespace Go.Proofs.Ytlaljhjondmecaa
open Go.RowKit
set_option linter.unusedVariables false

theorem order_isP (n k : Nat) (d : List Int) (hk : k ≤ n) (hd : resRight n k d) : IsP (orderL k d) ∧ (orderL k d).length = n ∧ undoAcc k (n - k) (orderL k d) [] = (d, rowL k) := by
  have hl : (orderL k d).length = n := by rw [orderL_len, hd.1]; omega
  have hb : ∀ x ∈ rowL k, 0 ≤ x ∧ x < (k : Int) := fun x hx => mem_rowL.1 hx
  obtain ⟨h1, h2⟩ := undo_of k (rowL k) (rowL_len k) (rowL_nodup k) hb (n - k) d [] hd.1 hd.2
  rw [List.append_nil] at h2
  refine ⟨isP_of h1 fun x hx => ?_, hl, h2⟩
  have := fromL_lt k (rowL k) d (rowL_len k) hb hd.2 x hx
  have h3 := hd.1
  rw [hl]
  omega

/-- what the first undoing brings -/
theorem undo_facts (n k : Nat) (p : List Int) (hk : k ≤ n) (hl : p.length = n) (hp : IsP p) :
    resRightB n k (undoAcc k (n - k) p []).1 = true ∧ isPB (undoAcc k (n - k) p []).2 = true ∧ (undoAcc k (n - k) p []).2.length = k ∧ fromR k (undoAcc k (n - k) p []).2 (undoAcc k (n - k) p []).1 = p ∧ resRight n k (undoAcc k (n - k) p []).1 := by
  obtain ⟨dd, h1, h2, h3, h4, h5, h6⟩ := undo_from k (n - k) p [] (by omega) hp
  rw [List.append_nil] at h1
  rw [h1]
  have hr : resRight n k dd := ⟨h2, fun i hi => h3 i (by omega)⟩
  refine ⟨resRightB_iff.2 hr, isPB_iff.2 h4, h5, ?_, hr⟩
  rw [← fromL_eq k _ dd h5 hr.2]
  exact h6

set_option maxRecDepth 100000 in
set_option maxHeartbeats 1000000 in
theorem law_ReservoirUndoes (w : World) (n k : Int) (vp vd : Value) (np nd : Nat) (p d : List Int) (hp : Rd w 1 vp np (i64s p)) (hr : Rd w 1 vd nd (i64s d)) :
    Calls Try.prog 11 #[.int .i64 n, .int .i64 k, vp, vd] w fun e w' => e = .returned (.bool true) ∧ Below w.heap.size w w' := by
  have hln := hr.len_i64
  subst hln
  have hlp := hp.len_i64
  subst hlp
  obtain ⟨sd, cd, rfl⟩ := hr.form
  obtain ⟨sp, cp, rfl⟩ := hp.form
  have HR := Lib.hid hr; have HP := Lib.hid hp; clear hr hp
  by_cases hbig : 60 < n ∧ n ≤ 256
  · obtain ⟨h1, h2⟩ := hbig
    go_enter Try.func11, Try.ntmps11
    go_wp2_with (go_at_call 23; refine (awake42 _).mono ?_; rintro e w1 ⟨rfl, hb1⟩; have HB1 := Lib.hid hb1; clear hb1)
    go_ret
    exact ⟨rfl, HB1.out⟩
  · have hsplit : n ≤ 60 ∨ 256 < n := by omega
    clear hbig
    by_cases hc : resChk n k = 0
    · obtain ⟨h0, h1, h2, h3⟩ := resChk_zero.1 hc
      have hn60 : n ≤ 60 := by omega
      clear hsplit
      obtain ⟨n, rfl⟩ := Int.eq_ofNat_of_zero_le h0
      obtain ⟨k, rfl⟩ := Int.eq_ofNat_of_zero_le h1
      have hkn : k ≤ n := by omega
      by_cases hpl : p.length = n
      · subst hpl
        have q1 : ((p.length : Int) != (p.length : Int)) = false := by simp
        cases hpb : isPB p with
        | true =>
          have hip := isPB_iff.1 hpb
          obtain ⟨u1, u2, u3, u4, u5⟩ := undo_facts p.length k p hkn rfl hip
          have hul : (undoAcc k (p.length - k) p []).1.length = p.length - k := u5.1
          have hundo := fun w1 (hb : Below w.heap.size w w1) => undo_ok w1 p.length k _ p (HP.out.below hb) hkn (by omega) hip
          generalize hD : (undoAcc k (p.length - k) p []).1 = D at *
          generalize hF : (undoAcc k (p.length - k) p []).2 = F at *
          have q2 : ((k : Int) != (k : Int)) = false := by simp
          have HU := Lib.hid hundo; have U1 := Lib.hid u1; have U2 := Lib.hid u2; have U3 := Lib.hid u3; have U4 := Lib.hid u4; have U5 := Lib.hid u5; have UL := Lib.hid hul; have HC := Lib.hid hc; have HPB := Lib.hid hpb
          clear hundo u1 u2 u3 u4 u5 hul hc hpb hip hD hF
          go_enter Try.func11, Try.ntmps11
          go_wp2_with (first
            | (go_at_call 23; refine (awake42 _).mono ?_; rintro e w1 ⟨rfl, hb1⟩; have HB1 := Lib.hid hb1; clear hb1)
            | (go_at_call 50; go_must (refine (HU.out _ HB1.out).mono ?_); rintro e w2 ⟨s1, c1, s2, c2, rfl, hown2, hf2, hb2⟩; have HO2 := Lib.hid hown2; have HF2 := Lib.hid hf2; have HB2 := Lib.hid hb2; clear hown2 hf2 hb2)
            | (go_at_call 26; go_must (refine (refchk_any _ _ _).mono ?_); rintro e w4 ⟨rfl, rfl⟩; rw [HC.out])
            | (go_at_call 38; go_must (refine (refis_any _ _ _ p ((HP.out.below HB1.out).below HB2.out) (by omega)).mono ?_); rintro e w4 ⟨rfl, rfl⟩; rw [HPB.out])
            | (go_at_call 28; fail))
          refine (refright_any _ p.length k _ _ D (rd_of_row HO2.out) hkn (by omega)).mono ?_
          rintro e w4 ⟨rfl, rfl⟩
          rw [U1.out]
          go_wp2_with fail
          refine (refis_any _ _ _ F HF2.out (by omega)).mono ?_
          rintro e w4 ⟨rfl, rfl⟩
          rw [U2.out]
          go_wp2_with fail
          refine (from_any _ k _ _ _ F D HF2.out (rd_of_row HO2.out) (by omega) (by omega) U5.out.2).mono ?_
          rintro e w5 ⟨s5, c5, rfl, hown5, hb5⟩
          have hkk : k + (p.length - k) = p.length := by omega
          rw [U4.out, hkk] at hown5
          rw [hkk]
          clear hkk
          have HO5 := Lib.hid hown5; have HB5 := Lib.hid hb5; clear hown5 hb5
          go_wp2_with fail
          refine (ints_any _ _ _ _ _ _ _ (rd_of_row HO5.out) (((HP.out.below HB1.out).below HB2.out).below HB5.out) (by omega) (by omega)).mono ?_
          rintro e w6 ⟨rfl, n6, rfl⟩
          rw [eqL_self]
          have hb6 := below_two (below_two HB1.out HB2.out) (below_drewN' HB5.out n6)
          have hr6 := HR.out.below hb6
          have HB6 := Lib.hid hb6; have HR6 := Lib.hid hr6; clear hb6 hr6
          go_wp2_with fail
          refine (refright_any _ p.length k _ _ d HR6.out hkn (by omega)).mono ?_
          rintro e w7 ⟨rfl, rfl⟩
          cases hrd : resRightB p.length k d with
          | false =>
            have HRD := Lib.hid hrd; clear hrd
            go_wp2
            go_ret
            exact ⟨rfl, HB6.out⟩
          | true =>
            have hrd' := resRightB_iff.1 hrd
            obtain ⟨o1, o2, o3⟩ := order_isP p.length k d hkn hrd'
            have e2 := orderL_eq k d hrd'.2
            have hdl : k + d.length = p.length := by have := hrd'.1; omega
            have HRD := Lib.hid hrd'; have O1 := Lib.hid o1; have O2 := Lib.hid o2; have O3 := Lib.hid o3; have E2 := Lib.hid e2; have HDL := Lib.hid hdl
            clear hrd hrd' o1 o2 o3 e2 hdl
            go_wp2_with fail
            refine (reforder_any _ _ k _ _ d HR6.out (by omega) (by have := HDL.out; omega) HRD.out.2).mono ?_
            rintro e w8 ⟨s8, c8, rfl, hown8, hb8⟩
            rw [HDL.out, ← E2.out] at hown8
            rw [HDL.out]
            have HO8 := Lib.hid hown8; have HB8 := Lib.hid hb8; clear hown8 hb8
            go_wp2_with fail
            refine (undo_ok _ p.length k _ _ (rd_of_row HO8.out) hkn (by omega) O1.out).mono ?_
            rintro e w9 ⟨s9, c9, s10, c10, rfl, hown9, hf9, hb9⟩
            rw [O3.out] at hown9 hf9
            have HO9 := Lib.hid hown9; have HF9 := Lib.hid hf9; have HB9 := Lib.hid hb9; clear hown9 hf9 hb9
            go_wp2_with fail
            refine (ints_any _ _ _ _ _ _ _ (rd_of_row HO9.out) ((HR6.out.below HB8.out).below HB9.out) (by omega) (by have := HDL.out; omega)).mono ?_
            rintro e w10 ⟨rfl, n10, rfl⟩
            rw [eqL_self]
            go_wp2_with fail
            refine (refrow_any _ k (by omega)).mono ?_
            rintro e w11 ⟨s11, c11, rfl, hown11, hb11⟩
            have HO11 := Lib.hid hown11; have HB11 := Lib.hid hb11; clear hown11 hb11
            go_wp2_with fail
            refine (ints_any _ _ _ _ _ _ _ (Rd.below (w := w9.drewN n10) HF9.out HB11.out) (rd_of_row HO11.out) (by omega) (by omega)).mono ?_
            rintro e w12 ⟨rfl, n12, rfl⟩
            rw [eqL_self]
            go_wp2
            go_ret
            refine ⟨rfl, below_two (below_two (below_two HB6.out HB8.out) (below_drewN' HB9.out n10)) ?_⟩
            exact below_drewN' HB11.out n12
        | false =>
          have hbad := fun w1 (hb : Below w.heap.size w w1) => undo_bad w1 (p.length : Int) (k : Int) _ _ p (HP.out.below hb) (.inr (.inr hpb))
          rw [if_pos hc] at hbad
          have HBAD := Lib.hid hbad; have HC := Lib.hid hc; have HPB := Lib.hid hpb
          clear hbad hc hpb
          go_enter Try.func11, Try.ntmps11
          go_wp2_with (first
            | (go_at_call 23; refine (awake42 _).mono ?_; rintro e w1 ⟨rfl, hb1⟩; have HB1 := Lib.hid hb1; clear hb1)
            | (go_at_call 50; go_must (refine (HBAD.out _ HB1.out).mono ?_); rintro e w2 ⟨rfl, hb2⟩; have HB2 := Lib.hid hb2; clear hb2)
            | (go_at_call 26; go_must (refine (refchk_any _ _ _).mono ?_); rintro e w4 ⟨rfl, rfl⟩; rw [HC.out])
            | (go_at_call 38; go_must (refine (refis_any _ _ _ p ((HP.out.below HB1.out).below HB2.out) (by omega)).mono ?_); rintro e w4 ⟨rfl, rfl⟩; rw [HPB.out]))
          go_ret
          exact ⟨rfl, below_two HB1.out HB2.out⟩
      · have q1 : ((p.length : Int) != (n : Int)) = true := by simp; omega
        have hbad := fun w1 (hb : Below w.heap.size w w1) => undo_bad w1 (n : Int) (k : Int) _ _ p (HP.out.below hb) (.inr (.inl (by omega)))
        rw [if_pos hc] at hbad
        have HBAD := Lib.hid hbad; have HC := Lib.hid hc; have HPL := Lib.hid hpl
        clear hbad hc hpl
        go_enter Try.func11, Try.ntmps11
        go_wp2_with (first
          | (go_at_call 23; refine (awake42 _).mono ?_; rintro e w1 ⟨rfl, hb1⟩; have HB1 := Lib.hid hb1; clear hb1)
          | (go_at_call 50; go_must (refine (HBAD.out _ HB1.out).mono ?_); rintro e w2 ⟨rfl, hb2⟩; have HB2 := Lib.hid hb2; clear hb2)
          | (go_at_call 26; go_must (refine (refchk_any _ _ _).mono ?_); rintro e w4 ⟨rfl, rfl⟩; rw [HC.out]))
        go_ret
        exact ⟨rfl, below_two HB1.out HB2.out⟩
    · have hbad := fun w1 (hb : Below w.heap.size w w1) => undo_bad w1 n k _ _ p (HP.out.below hb) (.inl hc)
      rw [if_neg hc] at hbad
      generalize hE : resChk n k = E at *
      have HBAD := Lib.hid hbad; have HE := Lib.hid hE; clear hbad hE
      have q1 : (E == 0) = false := by simp [hc]
      have q2 : (E != 0) = true := by simp [hc]
      have q4 : (E == E) = true := by simp
      have HC := Lib.hid hc
      clear hc
      rcases hsplit with h60 | h256
      all_goals
        go_enter Try.func11, Try.ntmps11
        go_wp2_with (first
          | (go_at_call 23; refine (awake42 _).mono ?_; rintro e w1 ⟨rfl, hb1⟩; have HB1 := Lib.hid hb1; clear hb1)
          | (go_at_call 50; go_must (refine (HBAD.out _ HB1.out).mono ?_); rintro e w2 ⟨rfl, hb2⟩; have HB2 := Lib.hid hb2; clear hb2)
          | (go_at_call 26; go_must (refine (refchk_any _ _ _).mono ?_); rintro e w4 ⟨rfl, rfl⟩; rw [HE.out]))
        go_ret
        exact ⟨rfl, below_two HB1.out HB2.out⟩

end Go.Proofs.Ytlaljhjondmecaa
