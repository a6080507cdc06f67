/-
  The law ReservoirTurns.
-/
import Derived.Test.YtlaljhjondmecaaTurn
import Derived.Test.YtlaljhjondmecaaRefSet
namespace Go.Proofs.Ytlaljhjondmecaa
open Go.RowKit
set_option linter.unusedVariables false

theorem back_of {p U : List Int} (hp : IsP p) (hl : U.length = p.length) (h : ∀ t, t < p.length → U.getD (p.getD t 0).toNat 0 = (t : Int)) : U = backL p := by
  refine ext_getD (by rw [hl, backL_len]) fun x hx => ?_
  have hxp : x < p.length := by omega
  obtain ⟨h1, h2, -⟩ := ixN_spec hp (x := (x : Int)) (by omega) (by omega)
  rw [backL_get _ _ hxp]
  have := h _ h1
  rw [h2, Int.toNat_natCast] at this
  exact this

set_option maxRecDepth 100000 in
set_option maxHeartbeats 2000000 in
theorem turns_early (w : World) (n k : Int) (vd vp : Value) (hm : 60 < n ∧ n ≤ 256) :
    Calls Try.prog 14 #[.int .i64 n, .int .i64 k, vd, vp] w fun e w' => e = .returned (.bool true) ∧ Below w.heap.size w w' := by
  obtain ⟨h1, h2⟩ := hm
  go_enter Try.func14, Try.ntmps14
  go_wp2_with (go_at_call 23; refine (awake42 _).mono ?_; rintro e w1 ⟨rfl, hb1⟩; have HB1 := Lib.hid hb1; clear hb1)
  go_ret
  exact ⟨rfl, HB1.out⟩

set_option maxRecDepth 100000 in
set_option maxHeartbeats 2000000 in
theorem turn_chk (w : World) (n k : Int) (vd vq : Value) (nd nq : Nat) (d : List Int) (hr : Rd w 1 vd nd (i64s d)) (hz : resChk n k ≠ 0) :
    Calls Try.prog 61 #[.int .i64 n, .int .i64 k, vd, vq] w fun e w' => e = .returned (.tuple #[.slice none 0 0, .int .i64 (resChk n k)]) ∧ Below w.heap.size w w' := by
  obtain ⟨sd, cd, rfl⟩ := hr.form
  have hc := Lib.hid (order_chk w n k _ _ d hr hz)
  have q1 : (resChk n k != 0) = true := by simp [hz]
  generalize resChk n k = E at *
  clear hz hr
  go_enter Try.func61, Try.ntmps61
  go_wp2_with fail
  refine hc.out.mono ?_
  rintro e w1 ⟨rfl, rfl⟩
  go_wp2
  go_ret2
  exact ⟨rfl, Below.refl _ _⟩

set_option maxRecDepth 100000 in
set_option maxHeartbeats 4000000 in
theorem turns_bad (w : World) (n k : Int) (vd vp : Value) (nd np : Nat) (d p : List Int) (hr : Rd w 1 vd nd (i64s d)) (hp : Rd w 1 vp np (i64s p)) (hn : n ≤ 60 ∨ 256 < n) (hE : turnE n k d p ≠ 0) :
    Calls Try.prog 14 #[.int .i64 n, .int .i64 k, vd, vp] w fun e w' => e = .returned (.bool true) ∧ Below w.heap.size w w' := by
  have hld := hr.len_i64
  have hlp := hp.len_i64
  subst hld; subst hlp
  obtain ⟨sd, cd, rfl⟩ := hr.form
  obtain ⟨sp, cp, rfl⟩ := hp.form
  have HR := Lib.hid hr; have HP := Lib.hid hp; clear hr hp
  by_cases hz : resChk n k = 0
  · have hr := resChk_zero.1 hz
    obtain ⟨n, rfl⟩ := Int.eq_ofNat_of_zero_le hr.1
    obtain ⟨k, rfl⟩ := Int.eq_ofNat_of_zero_le hr.2.1
    have hkn : k ≤ n := by omega
    have hn60 : n ≤ 60 := by omega
    have he : turnE (n : Int) (k : Int) d p = 2 := by
      unfold turnE at hE ⊢
      rw [if_neg (by simp [hz])] at hE ⊢
      split at hE
      · exact absurd rfl hE
      · rename_i h; rw [if_neg h]
    have hbad := fun (hq : p.length ≤ 50000 ∨ (p.length : Int) ≠ (n : Int)) w1 (hb : Below w.heap.size w w1) => turn_bad w1 (n : Int) (k : Int) _ _ _ _ d p (HR.out.below hb) (HP.out.below hb) hq hE
    rw [he] at hbad
    have HZ := Lib.hid hz
    clear hr hn hz he
    cases hd : resRightB n k d with
    | false =>
      have HD := Lib.hid hd
      by_cases hl : (p.length : Int) = (n : Int)
      · have BADX := Lib.hid (hbad (.inl (by omega)))
        clear hd hbad hE hl
        go_enter Try.func14, Try.ntmps14
        go_wp2_with (go_at_call 23; refine (awake42 _).mono ?_; rintro e w1 ⟨rfl, hb1⟩; have HB1 := Lib.hid hb1; clear hb1)
        refine (BADX.out _ HB1.out).mono ?_
        rintro e w2 ⟨rfl, hb2⟩
        have HB2 := Lib.hid hb2; clear hb2
        go_wp2_with fail
        refine (refchk_any _ _ _).mono ?_
        rintro e w3 ⟨rfl, rfl⟩
        rw [HZ.out]
        go_wp2_with fail
        refine (refright_any _ n k _ _ d ((HR.out.below HB1.out).below HB2.out) hkn (by omega)).mono ?_
        rintro e w3 ⟨rfl, rfl⟩
        rw [HD.out]
        go_wp2
        go_ret
        exact ⟨rfl, below_two HB1.out HB2.out⟩
      · have BADX := Lib.hid (hbad (.inr hl))
        clear hd hbad hE hl
        go_enter Try.func14, Try.ntmps14
        go_wp2_with (go_at_call 23; refine (awake42 _).mono ?_; rintro e w1 ⟨rfl, hb1⟩; have HB1 := Lib.hid hb1; clear hb1)
        refine (BADX.out _ HB1.out).mono ?_
        rintro e w2 ⟨rfl, hb2⟩
        have HB2 := Lib.hid hb2; clear hb2
        go_wp2_with fail
        refine (refchk_any _ _ _).mono ?_
        rintro e w3 ⟨rfl, rfl⟩
        rw [HZ.out]
        go_wp2_with fail
        refine (refright_any _ n k _ _ d ((HR.out.below HB1.out).below HB2.out) hkn (by omega)).mono ?_
        rintro e w3 ⟨rfl, rfl⟩
        rw [HD.out]
        go_wp2
        go_ret
        exact ⟨rfl, below_two HB1.out HB2.out⟩
    | true =>
      have HD := Lib.hid hd
      by_cases hl : (p.length : Int) = (n : Int)
      · have BADX := Lib.hid (hbad (.inl (by omega)))
        have hpb : isPB p = false := by
          cases h : isPB p with
          | false => rfl
          | true =>
            unfold turnE at hE
            rw [if_neg (by simp [HZ.out]), if_pos ⟨hd, hl, h⟩] at hE
            exact absurd rfl hE
        have HPB := Lib.hid hpb
        have q1 : ((p.length : Int) != (n : Int)) = false := by simp [hl]
        have hpl : p.length ≤ 60 := by omega
        clear hd hbad hE hpb hl
        go_enter Try.func14, Try.ntmps14
        go_wp2_with (go_at_call 23; refine (awake42 _).mono ?_; rintro e w1 ⟨rfl, hb1⟩; have HB1 := Lib.hid hb1; clear hb1)
        refine (BADX.out _ HB1.out).mono ?_
        rintro e w2 ⟨rfl, hb2⟩
        have HB2 := Lib.hid hb2; clear hb2
        go_wp2_with fail
        refine (refchk_any _ _ _).mono ?_
        rintro e w3 ⟨rfl, rfl⟩
        rw [HZ.out]
        go_wp2_with fail
        refine (refright_any _ n k _ _ d ((HR.out.below HB1.out).below HB2.out) hkn (by omega)).mono ?_
        rintro e w3 ⟨rfl, rfl⟩
        rw [HD.out]
        go_wp2_with fail
        refine (refis_any _ _ _ p ((HP.out.below HB1.out).below HB2.out) (by omega)).mono ?_
        rintro e w3 ⟨rfl, rfl⟩
        rw [HPB.out]
        go_wp2
        go_ret
        exact ⟨rfl, below_two HB1.out HB2.out⟩
      · have BADX := Lib.hid (hbad (.inr hl))
        have q1 : ((p.length : Int) != (n : Int)) = true := by simp; omega
        clear hd hbad hE hl
        go_enter Try.func14, Try.ntmps14
        go_wp2_with (go_at_call 23; refine (awake42 _).mono ?_; rintro e w1 ⟨rfl, hb1⟩; have HB1 := Lib.hid hb1; clear hb1)
        refine (BADX.out _ HB1.out).mono ?_
        rintro e w2 ⟨rfl, hb2⟩
        have HB2 := Lib.hid hb2; clear hb2
        go_wp2_with fail
        refine (refchk_any _ _ _).mono ?_
        rintro e w3 ⟨rfl, rfl⟩
        rw [HZ.out]
        go_wp2_with fail
        refine (refright_any _ n k _ _ d ((HR.out.below HB1.out).below HB2.out) hkn (by omega)).mono ?_
        rintro e w3 ⟨rfl, rfl⟩
        rw [HD.out]
        go_wp2
        go_ret
        exact ⟨rfl, below_two HB1.out HB2.out⟩
  · have he : turnE n k d p = resChk n k := by unfold turnE; rw [if_pos hz]
    have hq : p.length ≤ 50000 ∨ (p.length : Int) ≠ n ∨ True := .inr (.inr trivial)
    have hbad : ∀ w1, Below w.heap.size w w1 → Calls Try.prog 61 #[.int .i64 n, .int .i64 k, .slice sd d.length cd, .slice sp p.length cp] w1 fun e w' => e = .returned (.tuple #[.slice none 0 0, .int .i64 (resChk n k)]) ∧ Below w1.heap.size w1 w' := fun w1 hb => turn_chk w1 n k _ _ _ 0 d (HR.out.below hb) hz
    generalize hEE : resChk n k = E at *
    have BADX := Lib.hid hbad; have HEE := Lib.hid hEE
    have q1 : (E == 0) = false := by simp [hz]
    have q2 : (E != 0) = true := by simp [hz]
    have q4 : (E == E) = true := by simp
    clear hbad hE he hz hq hEE
    rcases hn with hn | hn
    all_goals
      go_enter Try.func14, Try.ntmps14
      go_wp2_with (go_at_call 23; refine (awake42 _).mono ?_; rintro e w1 ⟨rfl, hb1⟩; have HB1 := Lib.hid hb1; clear hb1)
      refine (BADX.out _ HB1.out).mono ?_
      rintro e w2 ⟨rfl, hb2⟩
      have HB2 := Lib.hid hb2; clear hb2
      go_wp2_with fail
      refine (refchk_any _ _ _).mono ?_
      rintro e w3 ⟨rfl, rfl⟩
      rw [HEE.out]
      go_wp2
      go_ret
      exact ⟨rfl, below_two HB1.out HB2.out⟩

set_option maxRecDepth 100000 in
set_option maxHeartbeats 4000000 in
theorem turns_ok (w : World) (n k : Nat) (vd vp : Value) (nd np : Nat) (d p : List Int) (hr : Rd w 1 vd nd (i64s d)) (hp : Rd w 1 vp np (i64s p)) (hn : n ≤ 60) (hk : k ≤ n) (hd : resRightB n k d = true) (hpl : p.length = n) (hpp : IsP p) :
    Calls Try.prog 14 #[.int .i64 (n : Int), .int .i64 (k : Int), vd, vp] w fun e w' => e = .returned (.bool true) ∧ Below w.heap.size w w' := by
  have hld := hr.len_i64
  have hlp := hp.len_i64
  subst hld
  have hnp : np = n := by omega
  subst hnp
  obtain ⟨sd, cd, rfl⟩ := hr.form
  obtain ⟨sp, cp, rfl⟩ := hp.form
  have hrd := resRightB_iff.1 hd
  obtain ⟨t1, t2, t3, t4, t5, t6, t7⟩ := turn_facts np k d p hk hrd hpp hpl
  have ts := turn_slots np k d p hk hrd hpp hpl
  have tb := turn_back np k d p hk hrd hpp hpl
  have es := slotsL_eq k d (fun i hi => (hrd.2 i hi).1)
  have ec := slotsL_eq k (turnL np k d p) (fun i hi => (t7.2 i hi).1)
  have hz : resChk (np : Int) (k : Int) = 0 := resChk_zero.2 (by omega)
  have hpb := isPB_iff.2 hpp
  have hbp := back_isP hpp
  have hdl : d.length = np - k := hrd.1
  have hbl := backL_len p
  have hxs : ∀ x ∈ slotsL k d, 0 ≤ x ∧ x < (np : Int) := fun x hx => by
    obtain ⟨o1, o2⟩ := order_isP' np k d hk hrd
    have h1 := take_order k d hrd.2
    rw [← h1] at hx
    have := o1.bound (List.mem_of_mem_take hx)
    rw [o2] at this; exact this
  have hq1 : ((np : Int) != (np : Int)) = false := by simp
  have HR := Lib.hid hr; have HP := Lib.hid hp; have HD := Lib.hid hd; have HPB := Lib.hid hpb; have IP := Lib.hid hpp; have T7 := Lib.hid t7; have TS := Lib.hid ts; have TB := Lib.hid tb; have ES := Lib.hid es; have EC := Lib.hid ec; have HZ := Lib.hid hz; have HBP := Lib.hid hbp; have HDL := Lib.hid hdl; have HPL := Lib.hid hpl; have HXS := Lib.hid hxs; have HBL := Lib.hid hbl
  clear hr hp hd hpb hpp t1 t2 t3 t4 t5 t6 t7 ts tb es ec hz hbp hdl hrd hpl hlp hxs hbl
  go_enter Try.func14, Try.ntmps14
  go_wp2_with (go_at_call 23; refine (awake42 _).mono ?_; rintro e w1 ⟨rfl, hb1⟩; have HB1 := Lib.hid hb1; clear hb1)
  refine (turn_ok _ np k _ _ _ _ d p (HR.out.below HB1.out) (HP.out.below HB1.out) hk (by omega) HD.out HPL.out IP.out).mono ?_
  rintro e w2 ⟨s2, c2, rfl, hown2, hb2⟩
  have HO2 := Lib.hid hown2
  have HB2 := Lib.hid (below_two HB1.out hb2); clear hb2 hown2
  go_wp2_with fail
  refine (refchk_any _ _ _).mono ?_
  rintro e w3 ⟨rfl, rfl⟩
  rw [HZ.out]
  go_wp2_with fail
  refine (refright_any _ np k _ _ d (HR.out.below HB2.out) hk (by omega)).mono ?_
  rintro e w3 ⟨rfl, rfl⟩
  rw [HD.out]
  go_wp2_with fail
  refine (refis_any _ _ _ p (HP.out.below HB2.out) (by omega)).mono ?_
  rintro e w3 ⟨rfl, rfl⟩
  rw [HPB.out]
  go_wp2_with fail
  refine (refright_any _ np k _ _ (turnL np k d p) (rd_of_row HO2.out) hk (by omega)).mono ?_
  rintro e w3 ⟨rfl, rfl⟩
  rw [resRightB_iff.2 T7.out]
  go_wp2_with fail
  refine (refslots_any _ _ k _ _ d (HR.out.below HB2.out) (by omega) (by have := HDL.out; omega)).mono ?_
  rintro e w3 ⟨s3, c3, rfl, hown3, hb3⟩
  rw [← ES.out] at hown3
  have HO3 := Lib.hid hown3; have HB3 := Lib.hid hb3; clear hown3 hb3
  go_wp2
  go_loopw [12, 83] (fun v i wr => ∃ (j : Nat) (sm : Option Addr) (cm : Nat), j ≤ k ∧ i = .int .i64 (j : Int) ∧ v = .slice sm j cm ∧ Hid (wr.ownsRow w3.heap.size 3 1 (.slice sm j cm) j (i64s (thenL p ((slotsL k d).take j)))) ∧ Hid (Below w3.heap.size w3 wr)) (fun _ i _ => k - (intOf i).toNat)
  case atStart => exact ⟨0, none, 0, Nat.zero_le _, rfl, rfl, World.ownsRow_nil _ _ _ _, Below.refl _ _⟩
  case round =>
    obtain ⟨j, sm, cm, hj, rfl, rfl, HO, HB⟩ := hrel
    by_cases hlt : j < k
    · obtain ⟨b, off, hs3, hc⟩ := ((rd_of_row HO3.out).below HB.out).at (by omega)
      have hjs : j < (slotsL k d).length := by rw [slotsL_len]; exact hlt
      have hxr := HXS.out _ (getD_mem (slotsL k d) j hjs)
      obtain ⟨a, ha⟩ : ∃ a : Nat, (slotsL k d).getD j 0 = (a : Int) := ⟨((slotsL k d).getD j 0).toNat, by omega⟩
      have cx := hc j _ (i64s_at (slotsL k d) j hjs)
      rw [ha] at cx hxr
      have han : a < np := by omega
      obtain ⟨b2, off2, hsp, hcp⟩ := (((HP.out.below HB2.out).below HB3.out).below HB.out).at (by omega)
      have cy := hcp a _ (i64s_at p a (by have := HPL.out; omega))
      have hstep : thenL p ((slotsL k d).take (j + 1)) = thenL p ((slotsL k d).take j) ++ [p.getD a 0] := by
        unfold thenL
        rw [List.take_succ_eq_append_getElem hjs, List.map_append]
        have : (slotsL k d)[j] = (a : Int) := by rw [← ha]; simp [List.getD, List.getElem?_eq_getElem hjs]
        rw [this]
        simp
      have han' : (a : Int) < (np : Int) := by omega
      have ha0 : (0 : Int) ≤ (a : Int) := by omega
      have hjk : (j : Int) < (k : Int) := by omega
      subst hs3; subst hsp
      have HST := Lib.hid hstep
      generalize hy : p.getD a 0 = y at *
      clear hc hcp hxr ha hstep hy
      go_wp2_with (at_builtin; refine app_i64 _ rfl _ _ rfl w3.heap.size _ _ _ rfl HO.out _ _ rfl ?qg ?qn ?qb ?_)
      case qg => rfl
      case qn => omega
      case qb => exact HB.out.size
      intro v' w4 hown hchg hfresh
      obtain ⟨sm', cm', rfl⟩ := (rd_of_row hown).form
      rw [← i64s_snoc, ← HST.out] at hown
      have HO1 := Lib.hid hown; have HC1 := Lib.hid hchg
      clear hown hchg hfresh
      go_wp2
      go_roundw
      case rel => exact ⟨j + 1, sm', cm', by omega, by go_num, rfl, HO1, HB.out.trans (HC1.out.below HB.out.size fun i hi => (HO.out.lt i hi).1)⟩
      case measure => simp [intOf]; omega
    · have hjk : j = k := by omega
      subst hjk
      have hm := HO.out
      have htk : (slotsL j d).take j = slotsL j d := List.take_of_length_le (by rw [slotsL_len]; exact Nat.le_refl _)
      rw [htk] at hm
      have HM := Lib.hid hm; clear hm htk
      have HB4 : Hid (Below w.heap.size w wr) := below_two HB2.out (HB3.out.trans (HB.out.mono HB3.out.size))
      have HB42 : Hid (Below w2.heap.size w2 wr) := HB3.out.trans (HB.out.mono HB3.out.size)
      generalize wr = w4 at *
      go_wp2_with fail
      refine (refrow_any _ np (by omega)).mono ?_
      rintro e w5 ⟨s5, c5, rfl, hown5, hb5⟩
      have HO5 := Lib.hid hown5; have HB5 := Lib.hid hb5; clear hown5 hb5
      go_wp2
      go_loopw [99] (fun i wr => ∃ (s : Nat) (U : List Int), s ≤ np ∧ i = .int .i64 (s : Int) ∧ U.length = np ∧ Hid (∀ t, t < s → U.getD (p.getD t 0).toNat 0 = (t : Int)) ∧ Hid (wr.ownsRow w4.heap.size 3 1 (.slice s5 np c5) np (i64s U)) ∧ Hid (Below w4.heap.size w4 wr)) (fun i _ => np - (intOf i).toNat)
      case atStart => exact ⟨0, rowL np, Nat.zero_le _, rfl, rowL_len _, fun t ht => by omega, HO5, HB5⟩
      case round =>
        obtain ⟨s, U, hs, rfl, hUl, HU, HOU, HBU⟩ := hrel
        by_cases hlt : s < np
        · obtain ⟨b2, off2, hsp, hcp⟩ := ((HP.out.below HB4.out).below HBU.out).at (by omega)
          subst hsp
          have hpx := IP.out.get (i := s) (by have := HPL.out; omega)
          obtain ⟨a, ha⟩ : ∃ a : Nat, p.getD s 0 = (a : Int) := ⟨(p.getD s 0).toNat, by omega⟩
          have cx := hcp s _ (i64s_at p s (by have := HPL.out; omega))
          rw [ha] at cx
          have hap : a < np := by have := HPL.out; omega
          obtain ⟨g, hs5, hg1, hg2, hg3, hcell, hfz⟩ := row_ptr HOU.out (by omega)
          subst hs5
          have ca := hcell a _ (i64s_at U a (by omega))
          have fa := hfz a
          have ha0 : (0 : Int) ≤ (a : Int) := by omega
          have hap' : (a : Int) < (np : Int) := by omega
          have hsn : (s : Int) < (np : Int) := by omega
          have HA := Lib.hid ha; have HUL := Lib.hid hUl
          clear hcp hpx ha hcell hfz hUl
          generalize hy : U.getD a 0 = y at *
          clear hy
          go_wp2
          go_roundw
          case rel =>
            refine ⟨s + 1, U.set a (s : Int), by omega, by go_num, by rw [List.length_set]; exact HUL.out, ?_, ?_, HBU.out.setCell (p := ⟨g, a, none⟩) hg1 _⟩
            · intro t ht
              have hb := IP.out.get (i := t) (by have := HPL.out; omega)
              rw [getD_set _ _ _ _ (by have := HUL.out; omega)]
              by_cases hts : t = s
              · subst hts; rw [HA.out, Int.toNat_natCast, if_pos rfl]
              · rw [if_neg ?_]
                · exact HU.out t (by omega)
                · intro h
                  exact hts (nodup_inj IP.out.nodup (i := t) (j := s) (by have := HPL.out; omega) (by have := HPL.out; omega) (by rw [HA.out]; omega))
            · show World.ownsRow _ _ _ _ _ _ (i64s (U.set a (s : Int)))
              rw [i64s_set]
              exact row_set HOU.out hap _
          case measure => simp [intOf]; omega
        · obtain rfl : s = np := by omega
          have hUb := back_of IP.out (by have := HPL.out; omega) (fun t ht => HU.out t (by have := HPL.out; omega))
          have hbk := HOU.out
          rw [hUb] at hbk
          have HBK := Lib.hid hbk; clear hbk hUb
          have HB6 : Hid (Below w.heap.size w wr) := below_two HB4.out HBU.out
          have HB62 : Hid (Below w2.heap.size w2 wr) := below_two HB42.out HBU.out
          go_wp2_with fail
          refine (turn_ok _ s j _ _ _ _ (turnL s j d p) (backL p) ((rd_of_row HO2.out).below HB62.out) (rd_of_row HBK.out) hk (by omega) (resRightB_iff.2 T7.out) (by have := HBL.out; have := HPL.out; omega) HBP.out).mono ?_
          rintro e w7 ⟨s7, c7, rfl, hown7, hb7⟩
          rw [TB.out] at hown7
          have HO7 := Lib.hid hown7; have HB7 := Lib.hid hb7; clear hown7 hb7
          go_wp2_with fail
          refine (refslots_any _ _ j _ _ (turnL s j d p) (((rd_of_row HO2.out).below HB62.out).below HB7.out) (by omega) (by omega)).mono ?_
          rintro e w8 ⟨s8, c8, rfl, hown8, hb8⟩
          rw [← EC.out] at hown8
          have HO8 := Lib.hid hown8; have HB8 := Lib.hid hb8; clear hown8 hb8
          go_wp2_with fail
          refine (refset_any _ _ _ (slotsL j (turnL s j d p)) (rd_of_row HO8.out) (by omega)).mono ?_
          rintro e w9 ⟨s9, c9, rfl, hown9, hb9⟩
          rw [TS.out] at hown9
          have hsl := setL_le (thenL p (slotsL j d))
          have hsl2 : (setL (slotsL j (turnL s j d p))).length = (setL (thenL p (slotsL j d))).length := by rw [TS.out]
          have hthl : (thenL p (slotsL j d)).length = j := by rw [thenL_len, slotsL_len]
          have HO9 := Lib.hid hown9; have HB9 := Lib.hid hb9; clear hown9 hb9
          go_wp2_with fail
          refine (refset_any _ _ _ (thenL p (slotsL j d)) (((((rd_of_row HM.out).below HBU.out).below HB7.out).below HB8.out).below HB9.out) (by omega)).mono ?_
          rintro e w10 ⟨s10, c10, rfl, hown10, hb10⟩
          have HO10 := Lib.hid hown10; have HB10 := Lib.hid hb10; clear hown10 hb10
          go_wp2_with fail
          refine (ints_any _ _ _ _ _ _ _ ((rd_of_row HO9.out).below HB10.out) (rd_of_row HO10.out) (by omega) (by omega)).mono ?_
          rintro e w11 ⟨rfl, n11, rfl⟩
          rw [eqL_self]
          have hbb : Below w.heap.size w (w10.drewN n11) := below_two (below_two (below_two (below_two HB6.out HB7.out) HB8.out) HB9.out) (below_drewN' HB10.out n11)
          have hb7b : Below w7.heap.size w7 (w10.drewN n11) := below_two (below_two HB8.out HB9.out) (below_drewN' HB10.out n11)
          have HBB := Lib.hid hbb; have HB7B := Lib.hid hb7b; clear hbb hb7b
          go_wp2_with fail
          refine (ints_any _ _ _ _ _ _ _ ((rd_of_row HO7.out).below HB7B.out) (HR.out.below HBB.out) (by omega) (by have := HDL.out; omega)).mono ?_
          rintro e w12 ⟨rfl, n12, rfl⟩
          rw [eqL_self]
          go_wp2
          go_ret
          exact ⟨rfl, by have := below_drewN' HBB.out n12; simpa using this⟩

theorem law_ReservoirTurns (w : World) (n k : Int) (vd vp : Value) (nd np : Nat) (d p : List Int) (hr : Rd w 1 vd nd (i64s d)) (hp : Rd w 1 vp np (i64s p)) :
    Calls Try.prog 14 #[.int .i64 n, .int .i64 k, vd, vp] w fun e w' => e = .returned (.bool true) ∧ Below w.heap.size w w' := by
  by_cases hm : 60 < n ∧ n ≤ 256
  · exact turns_early w n k vd vp hm
  · by_cases hE : turnE n k d p = 0
    · unfold turnE at hE
      by_cases hz : resChk n k = 0
      · rw [if_neg (by simp [hz])] at hE
        have hr' := resChk_zero.1 hz
        split at hE
        · rename_i h
          obtain ⟨n, rfl⟩ := Int.eq_ofNat_of_zero_le hr'.1
          obtain ⟨k, rfl⟩ := Int.eq_ofNat_of_zero_le hr'.2.1
          exact turns_ok w n k vd vp nd np d p hr hp (by omega) (by omega) h.1 (by omega) (isPB_iff.1 h.2.2)
        · exact absurd hE (by decide)
      · rw [if_pos hz] at hE; exact absurd hE hz
    · exact turns_bad w n k vd vp nd np d p hr hp (by omega) hE

end Go.Proofs.Ytlaljhjondmecaa
