/-
  ReservoirTakes: what any tape leaves in the slots, and the draws; or what is wrong.
-/
import Derived.Test.YtkgmobneipdpeaaRvTake
namespace Go.Proofs.Ytkgmobneipdpeaa
open Go.RowKit
set_option linter.unusedVariables false

theorem tapeTo_below {W w1 w' : World} {B b : Nat} {wv tv : Value} {l : List Int} {k S : Nat} (h : TapeTo w1 w' B b wv tv l k S) (hW : W.heap.size ≤ w1.heap.size) (hb : Below W.heap.size W w1) (hB : W.heap.size ≤ b) (ht : ∀ g, tv.ownBlock = some g → W.heap.size ≤ g) : Below W.heap.size W w' :=
  hb.trans (h.chg.below hW fun k hk => by
    rcases hk with rfl | hk
    · exact hB
    · exact ht k hk)

set_option maxRecDepth 100000 in
set_option maxHeartbeats 2000000 in
theorem awake42 (w : World) : Calls Try.prog 22 #[] w fun e w' => e = .returned (.bool true) ∧ Below w.heap.size w w' := by
  go_enter Try.func22, Try.ntmps22
  go_wp2_with fail
  refine (slots_ok _ 3 1 _ _ [0, 2] (rd_new w #[.int .i64 0, .int .i64 2] _ 2 1 rfl (by decide) _ _ rfl (by decide)) (by decide) (by decide) (by decide)).mono ?_
  rintro e w1 ⟨sa, ca, rfl, hown, hbel⟩
  obtain ⟨g, rfl, hg1, hg2, hg3, hcell, hfz⟩ := row_ptr hown (by decide)
  have c0 : w1.cell? ⟨g, 0, none⟩ = some (.int .i64 1) := hcell 0 _ rfl
  have HB := Lib.hid hbel
  clear hown hbel hcell hfz
  go_wp2
  go_ret
  exact ⟨rfl, ((Below.refl _ w).alloc (Nat.le_refl _) _).trans (HB.out.mono (by simp))⟩

set_option maxRecDepth 100000 in
set_option maxHeartbeats 4000000 in
theorem law_ReservoirTakes (w : World) (v : Value) (m : Nat) (l : List Nat) (n k : Int) (hr : Rd w 1 v m (u64s (zsN l))) (hw : W64 l) :
    Calls Try.prog 4 #[v, .int .i64 n, .int .i64 k] w fun e w' => e = .returned (.bool true) ∧ Below w.heap.size w w' := by
  obtain rfl := hr.len_u64
  rw [zsN_len] at *
  obtain ⟨sa, cap, rfl⟩ := hr.form
  have HR := Lib.hid hr; have HW := Lib.hid hw
  clear hr hw
  by_cases hearly : 100 < l.length ∨ (60 < n ∧ n ≤ 256)
  · rcases hearly with h1 | h1
    · go_enter Try.func4, Try.ntmps4
      go_wp2_with (go_at_call 22; refine (awake42 _).mono ?_; rintro e w1 ⟨rfl, hb1⟩; have HB1 := Lib.hid hb1; clear hb1)
      go_ret
      exact ⟨rfl, HB1.out⟩
    · by_cases h2 : 100 < l.length
      · go_enter Try.func4, Try.ntmps4
        go_wp2_with (go_at_call 22; refine (awake42 _).mono ?_; rintro e w1 ⟨rfl, hb1⟩; have HB1 := Lib.hid hb1; clear hb1)
        go_ret
        exact ⟨rfl, HB1.out⟩
      · obtain ⟨h3, h4⟩ := h1
        go_enter Try.func4, Try.ntmps4
        go_wp2_with (go_at_call 22; refine (awake42 _).mono ?_; rintro e w1 ⟨rfl, hb1⟩; have HB1 := Lib.hid hb1; clear hb1)
        go_ret
        exact ⟨rfl, HB1.out⟩
  · have hl : l.length ≤ 100 := by omega
    have hn60 : n ≤ 60 ∨ 256 < n := by omega
    clear hearly
    by_cases hbad : resChk n k ≠ 0
    · have q1 : (resChk n k != 0) = true := by simpa using hbad
      have q2 : (resChk n k == resChk n k) = true := by simp
      rcases hn60 with h60 | h60
      · go_enter Try.func4, Try.ntmps4
        go_wp2_with (go_at_call 22; refine (awake42 _).mono ?_; rintro e w1 ⟨rfl, hb1⟩; have HB1 := Lib.hid hb1; clear hb1)
        refine (new_any w1 _ (zsN l) (by rw [zsN_len]; exact HR.out.below HB1.out) (by rw [zsN_len]; omega)).mono ?_
        rintro e w2 ⟨b, wv, rfl, ht, hb2⟩
        have HB2 := Lib.hid (below_two HB1.out hb2)
        clear ht hb2
        go_wp2_with fail
        refine (rvtake_bad w2 b n k hbad).mono ?_
        rintro e w3 ⟨rfl, rfl⟩
        go_wp2_with fail
        refine (refchk_any n k w2).mono ?_
        rintro e w3 ⟨rfl, rfl⟩
        go_wp2_with fail
        go_ret
        exact ⟨rfl, HB2.out⟩
      · have h61 : 60 < n := by omega
        go_enter Try.func4, Try.ntmps4
        go_wp2_with (go_at_call 22; refine (awake42 _).mono ?_; rintro e w1 ⟨rfl, hb1⟩; have HB1 := Lib.hid hb1; clear hb1)
        refine (new_any w1 _ (zsN l) (by rw [zsN_len]; exact HR.out.below HB1.out) (by rw [zsN_len]; omega)).mono ?_
        rintro e w2 ⟨b, wv, rfl, ht, hb2⟩
        have HB2 := Lib.hid (below_two HB1.out hb2)
        clear ht hb2
        go_wp2_with fail
        refine (rvtake_bad w2 b n k hbad).mono ?_
        rintro e w3 ⟨rfl, rfl⟩
        go_wp2_with fail
        refine (refchk_any n k w2).mono ?_
        rintro e w3 ⟨rfl, rfl⟩
        go_wp2_with fail
        go_ret
        exact ⟨rfl, HB2.out⟩
    · have hz := resChk_zero.1 (by simpa using hbad)
      have hck : resChk n k = 0 := by simpa using hbad
      obtain ⟨n, rfl⟩ : ∃ x : Nat, n = x := ⟨n.toNat, by omega⟩
      obtain ⟨k, rfl⟩ : ∃ x : Nat, k = x := ⟨k.toNat, by omega⟩
      have hk : k ≤ n := by omega
      have hn : n ≤ 60 := by omega
      have HCK := Lib.hid hck
      clear hbad hn60 hz hck
      go_enter Try.func4, Try.ntmps4
      go_wp2_with (go_at_call 22; refine (awake42 _).mono ?_; rintro e w1 ⟨rfl, hb1⟩; have HB1 := Lib.hid hb1; clear hb1)
      refine (new_any w1 _ (zsN l) (by rw [zsN_len]; exact HR.out.below HB1.out) (by rw [zsN_len]; omega)).mono ?_
      rintro e w2 ⟨b, wv, rfl, ht, hb2⟩
      have HT := Lib.hid ht
      have HB2 := Lib.hid (below_two HB1.out hb2)
      clear ht hb2
      go_wp2_with fail
      refine (rvtake_any w2 _ b wv _ l 0 n k HT.out (by omega) HW.out hk (by omega)).mono ?_
      rintro e w3 he
      have hbb : w.heap.size ≤ b := Nat.le_trans HB1.out.size HT.out.2.1
      have hnil : ∀ g, (Value.slice none 0 0).ownBlock = some g → w.heap.size ≤ g := fun g hg => by cases hg
      have HBB := Lib.hid hbb; have HNIL := Lib.hid hnil
      clear hbb hnil
      cases hrow : rowA l (limR n k) [] 0 with
      | none =>
        rw [hrow] at he
        obtain ⟨rfl, ht3⟩ : e = .returned (.tuple #[.slice none 0 0, .slice none 0 0, .int .i64 7]) ∧ _ := he
        have hb3 := tapeTo_below ht3 HB2.out.size HB2.out HBB.out HNIL.out
        have hR := rtake42_any w3 _ _ l n k (HR.out.below hb3) (by omega) HW.out hk (by omega)
        rw [show rowN l (limR n k) = none from hrow] at hR
        obtain ⟨⟨tv3, ht4, -⟩, -⟩ := ht3
        have HTT := Lib.hid ht4; have HB3 := Lib.hid hb3; have HRR := Lib.hid hR
        clear ht4 hb3 hR hrow
        go_wp2_with fail
        refine (refchk_any (n : Int) (k : Int) w3).mono ?_
        rintro e w4 ⟨rfl, rfl⟩
        rw [HCK.out]
        go_wp2_with fail
        refine HRR.out.mono ?_
        rintro e w4 ⟨he, hb4⟩
        obtain rfl : e = .returned (.tuple #[.slice none 0 0, .slice none 0 0, .int .i64 (l.length : Int), .bool false]) := he
        have q1 : ((l.length : Int) != (l.length : Int)) = false := by simp
        have HU := Lib.hid (used_any w4 _ b wv tv3 (zsN l) l.length (HTT.out.below hb4) (by rw [zsN_len]; omega))
        have HB4 := Lib.hid (below_two HB3.out hb4)
        clear hb4
        go_wp2_with fail
        refine HU.out.mono ?_
        rintro e w5 ⟨rfl, rfl⟩
        go_wp2_with fail
        go_ret
        exact ⟨rfl, HB4.out⟩
      | some r =>
        rw [hrow] at he
        obtain ⟨⟨sp, cp, sd, cd, rfl, hp, hd⟩, ht3⟩ := he
        have hb3 := tapeTo_below ht3 HB2.out.size HB2.out HBB.out HNIL.out
        have hR := rtake42_any w3 _ _ l n k (HR.out.below hb3) (by omega) HW.out hk (by omega)
        rw [show rowN l (limR n k) = some r from hrow] at hR
        have hres := resRightB_iff.1 (rowN_res HW.out hk (by omega) hrow)
        have hsl : slotsL k (numsI r.1) = slotsR k (numsI r.1) := slotsL_eq k _ fun i hi => (hres.2 i hi).1
        obtain ⟨⟨tv3, ht4, -⟩, -⟩ := ht3
        have HTT := Lib.hid ht4; have HB3 := Lib.hid hb3; have HRR := Lib.hid hR; have HP := Lib.hid hp; have HD := Lib.hid hd; have HSL := Lib.hid hsl
        clear ht4 hb3 hR hrow hp hd hres hsl
        go_wp2_with fail
        refine (refchk_any (n : Int) (k : Int) w3).mono ?_
        rintro e w4 ⟨rfl, rfl⟩
        rw [HCK.out]
        go_wp2_with fail
        refine HRR.out.mono ?_
        rintro e w4 ⟨he, hb4⟩
        obtain ⟨sp2, cp2, sd2, cd2, rfl, hp2, hd2⟩ := he
        have q1 : ((r.2 : Int) != (r.2 : Int)) = false := by simp
        have HU := Lib.hid (used_any w4 _ b wv tv3 (zsN l) r.2 (HTT.out.below hb4) (by rw [zsN_len]; omega))
        have HB4 := Lib.hid (below_two HB3.out hb4)
        have HP4 := Lib.hid (HP.out.below hb4); have HD4 := Lib.hid (HD.out.below hb4)
        have HP2 := Lib.hid hp2; have HD2 := Lib.hid hd2
        clear hb4 hp2 hd2
        go_wp2_with fail
        refine HU.out.mono ?_
        rintro e w5 ⟨rfl, rfl⟩
        go_wp2_with fail
        refine (ints_any w4 _ _ _ _ k k HP4.out HP2.out (by omega) (by omega)).mono ?_
        rintro e w5 ⟨rfl, n5, rfl⟩
        rw [HSL.out, eqL_self]
        go_wp2_with fail
        refine (rsame_any _ _ _ r.1 r.1 (n - k) (n - k) (HD4.out.below (below_drewN' (Below.refl _ _) n5)) (HD2.out.below (below_drewN' (Below.refl _ _) n5)) (by omega) (by omega)).mono ?_
        rintro e w6 ⟨rfl, n6, rfl⟩
        rw [dwEq_self]
        go_wp2_with fail
        go_ret
        exact ⟨rfl, below_drewN' HB4.out _⟩

end Go.Proofs.Ytkgmobneipdpeaa
