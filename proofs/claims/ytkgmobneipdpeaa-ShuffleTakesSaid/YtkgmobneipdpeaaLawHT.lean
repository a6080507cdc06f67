/-
  ShuffleTakes: the order that any tape tells, and the draws; or what is wrong.
-/
import Derived.Test.YtkgmobneipdpeaaRShuf
import Derived.Test.YtkgmobneipdpeaaShuf3
namespace Go.Proofs.Ytkgmobneipdpeaa
open Go.RowKit
set_option linter.unusedVariables false

theorem tapeTo_below {W w1 w' : World} {B b : Nat} {wv tv : Value} {l : List Int} {k S : Nat} (h : TapeTo w1 w' B b wv tv l k S) (hW : W.heap.size ≤ w1.heap.size) (hb : Below W.heap.size W w1) (hB : W.heap.size ≤ b) (ht : ∀ g, tv.ownBlock = some g → W.heap.size ≤ g) : Below W.heap.size W w' :=
  hb.trans (h.chg.below hW fun k hk => by
    rcases hk with rfl | hk
    · exact hB
    · exact ht k hk)

def cntH (n : Int) : Int := if n < 0 then 1 else if 256 < n then 9 else 0
set_option maxRecDepth 100000 in
set_option maxHeartbeats 1000000 in
theorem cnt40_any (n : Int) (w : World) : Calls Try.prog 28 #[.int .i64 n] w fun e w' => e = .returned (.int .i64 (cntH n)) ∧ w = w' := by
  by_cases a : n < 0
  · have hr : cntH n = 1 := by unfold cntH; rw [if_pos a]
    have HR := Lib.hid hr; clear hr
    go_enter Try.func28, Try.ntmps28
    go_wp2
    go_ret
    exact ⟨ret_int HR.out.symm, rfl⟩
  · by_cases b : 256 < n
    · have hr : cntH n = 9 := by unfold cntH; rw [if_neg a, if_pos b]
      have HR := Lib.hid hr; clear hr
      go_enter Try.func28, Try.ntmps28
      go_wp2
      go_ret
      exact ⟨ret_int HR.out.symm, rfl⟩
    · have hr : cntH n = 0 := by unfold cntH; rw [if_neg a, if_neg b]
      have HR := Lib.hid hr; clear hr
      go_enter Try.func28, Try.ntmps28
      go_wp2
      go_ret
      exact ⟨ret_int HR.out.symm, rfl⟩

set_option maxRecDepth 100000 in
set_option maxHeartbeats 4000000 in
theorem law_ShuffleTakes (w : World) (v : Value) (m : Nat) (l : List Nat) (n : Int) (hr : Rd w 1 v m (u64s (zsN l))) (hw : W64 l) :
    Calls Try.prog 5 #[v, .int .i64 n] w fun e w' => e = .returned (.bool true) ∧ Below w.heap.size w w' := by
  obtain rfl := hr.len_u64
  rw [zsN_len] at *
  obtain ⟨sa, cap, rfl⟩ := hr.form
  have HR := Lib.hid hr; have HW := Lib.hid hw
  clear hr hw
  by_cases hearly : 100 < l.length ∨ (40 < n ∧ n ≤ 256)
  · rcases hearly with h1 | h1
    · go_enter Try.func5, Try.ntmps5
      go_wp2_with (go_at_call 26; refine (awake40 _).mono ?_; rintro e w1 ⟨rfl, hb1⟩; have HB1 := Lib.hid hb1; clear hb1)
      go_ret
      exact ⟨rfl, HB1.out⟩
    · by_cases h2 : 100 < l.length
      · go_enter Try.func5, Try.ntmps5
        go_wp2_with (go_at_call 26; refine (awake40 _).mono ?_; rintro e w1 ⟨rfl, hb1⟩; have HB1 := Lib.hid hb1; clear hb1)
        go_ret
        exact ⟨rfl, HB1.out⟩
      · obtain ⟨h3, h4⟩ := h1
        go_enter Try.func5, Try.ntmps5
        go_wp2_with (go_at_call 26; refine (awake40 _).mono ?_; rintro e w1 ⟨rfl, hb1⟩; have HB1 := Lib.hid hb1; clear hb1)
        go_ret
        exact ⟨rfl, HB1.out⟩
  · have hl : l.length ≤ 100 := by omega
    have hn60 : n ≤ 40 ∨ 256 < n := by omega
    clear hearly
    by_cases h1 : n < 0
    · clear hn60
      have HC := Lib.hid (show cntH n = 1 by unfold cntH; rw [if_pos h1])
      go_enter Try.func5, Try.ntmps5
      go_wp2_with (go_at_call 26; refine (awake40 _).mono ?_; rintro e w1 ⟨rfl, hb1⟩; have HB1 := Lib.hid hb1; clear hb1)
      refine (new_any w1 _ (zsN l) (by rw [zsN_len]; exact HR.out.below HB1.out) (by rw [zsN_len]; omega)).mono ?_
      rintro e w2 ⟨b, wv, rfl, ht, hb2⟩
      have HB2 := Lib.hid (below_two HB1.out hb2)
      clear ht hb2
      go_wp2_with fail
      refine (htake_arg w2 b n h1).mono ?_
      rintro e w3 ⟨rfl, rfl⟩
      go_wp2_with fail
      refine (cnt40_any n w2).mono ?_
      rintro e w3 ⟨rfl, rfl⟩
      rw [HC.out]
      go_wp2_with fail
      go_ret
      exact ⟨rfl, HB2.out⟩
    · by_cases h2 : 256 < n
      · have h6 : 40 < n := by omega
        clear hn60
        have HC := Lib.hid (show cntH n = 9 by unfold cntH; rw [if_neg h1, if_pos h2])
        go_enter Try.func5, Try.ntmps5
        go_wp2_with (go_at_call 26; refine (awake40 _).mono ?_; rintro e w1 ⟨rfl, hb1⟩; have HB1 := Lib.hid hb1; clear hb1)
        refine (new_any w1 _ (zsN l) (by rw [zsN_len]; exact HR.out.below HB1.out) (by rw [zsN_len]; omega)).mono ?_
        rintro e w2 ⟨b, wv, rfl, ht, hb2⟩
        have HB2 := Lib.hid (below_two HB1.out hb2)
        clear ht hb2
        go_wp2_with fail
        refine (htake_over w2 b n h2).mono ?_
        rintro e w3 ⟨rfl, rfl⟩
        go_wp2_with fail
        refine (cnt40_any n w2).mono ?_
        rintro e w3 ⟨rfl, rfl⟩
        rw [HC.out]
        go_wp2_with fail
        go_ret
        exact ⟨rfl, HB2.out⟩
      · have HC := Lib.hid (show cntH n = 0 by unfold cntH; rw [if_neg h1, if_neg h2])
        obtain ⟨n, rfl⟩ : ∃ x : Nat, n = x := ⟨n.toNat, by omega⟩
        have hn : n ≤ 40 := by omega
        clear hn60
        go_enter Try.func5, Try.ntmps5
        go_wp2_with (go_at_call 26; refine (awake40 _).mono ?_; rintro e w1 ⟨rfl, hb1⟩; have HB1 := Lib.hid hb1; clear hb1)
        refine (new_any w1 _ (zsN l) (by rw [zsN_len]; exact HR.out.below HB1.out) (by rw [zsN_len]; omega)).mono ?_
        rintro e w2 ⟨b, wv, rfl, ht, hb2⟩
        have HB2 := Lib.hid (below_two HB1.out hb2)
        have HT := Lib.hid ht
        clear ht hb2
        go_wp2_with fail
        refine (htake_any w2 _ b wv _ l 0 n HT.out (by omega) HW.out (by omega)).mono ?_
        rintro e w3 he
        have hbb : w.heap.size ≤ b := Nat.le_trans HB1.out.size HT.out.2.1
        have hnil : ∀ g, (Value.slice none 0 0).ownBlock = some g → w.heap.size ≤ g := fun g hg => by cases hg
        have HBB := Lib.hid hbb; have HNIL := Lib.hid hnil
        clear hbb hnil
        cases hrow : rowA l (limH n) [] 0 with
        | none =>
          rw [hrow] at he
          obtain ⟨rfl, ht3⟩ : e = .returned (.tuple #[.slice none 0 0, .slice none 0 0, .int .i64 7]) ∧ _ := he
          have hb3 := tapeTo_below ht3 HB2.out.size HB2.out HBB.out HNIL.out
          have hR := rtake40_any w3 _ _ l n (HR.out.below hb3) (by omega) HW.out (by omega)
          rw [show rowN l (limH n) = none from hrow] at hR
          obtain ⟨⟨tv3, ht4, -⟩, -⟩ := ht3
          have HTT := Lib.hid ht4; have HB3 := Lib.hid hb3; have HRR := Lib.hid hR
          clear ht4 hb3 hR hrow
          go_wp2_with fail
          refine (cnt40_any (n : Int) w3).mono ?_
          rintro e w4 ⟨rfl, rfl⟩
          rw [HC.out]
          go_wp2_with fail
          refine HRR.out.mono ?_
          rintro e w4 ⟨he, hb4⟩
          obtain rfl : e = .returned (.tuple #[.slice none 0 0, .slice none 0 0, .int .i64 (l.length : Int), .bool false]) := he
          have q1 : ((l.length : Int) != (l.length : Int)) = false := by simp
          have HU := Lib.hid (used_any w4 _ b wv tv3 (zsN l) l.length (HTT.out.below hb4) (by rw [zsN_len]; omega))
          have HB4 := Lib.hid (below_two HB3.out hb4)
          clear hb4
          go_wp2_with fail
          refine HU.out.mono ?_
          rintro e w5 ⟨rfl, rfl⟩
          go_wp2_with fail
          go_ret
          exact ⟨rfl, HB4.out⟩
        | some r =>
          rw [hrow] at he
          obtain ⟨⟨sp, cp, sd, cd, rfl, hp0, hd⟩, ht3⟩ := he
          have hp := rd_of_row hp0
          have hb3 := tapeTo_below ht3 HB2.out.size HB2.out HBB.out HNIL.out
          have hR := rtake40_any w3 _ _ l n (HR.out.below hb3) (by omega) HW.out (by omega)
          rw [show rowN l (limH n) = some r from hrow] at hR
          obtain ⟨⟨tv3, ht4, -⟩, -⟩ := ht3
          have HTT := Lib.hid ht4; have HB3 := Lib.hid hb3; have HRR := Lib.hid hR; have HP := Lib.hid hp; have HD := Lib.hid hd
          clear ht4 hb3 hR hrow hp hd hp0
          go_wp2_with fail
          refine (cnt40_any (n : Int) w3).mono ?_
          rintro e w4 ⟨rfl, rfl⟩
          rw [HC.out]
          go_wp2_with fail
          refine HRR.out.mono ?_
          rintro e w4 ⟨he, hb4⟩
          obtain ⟨sp2, cp2, sd2, cd2, rfl, hp2, hd2⟩ := he
          have q1 : ((r.2 : Int) != (r.2 : Int)) = false := by simp
          have HU := Lib.hid (used_any w4 _ b wv tv3 (zsN l) r.2 (HTT.out.below hb4) (by rw [zsN_len]; omega))
          have HB4 := Lib.hid (below_two HB3.out hb4)
          have HP4 := Lib.hid (HP.out.below hb4); have HD4 := Lib.hid (HD.out.below hb4)
          have HP2 := Lib.hid (rd_of_row hp2); have HD2 := Lib.hid hd2
          clear hb4 hp2 hd2
          go_wp2_with fail
          refine HU.out.mono ?_
          rintro e w5 ⟨rfl, rfl⟩
          go_wp2_with fail
          refine (ints_any w4 _ _ _ _ n n HP4.out HP2.out (by omega) (by omega)).mono ?_
          rintro e w5 ⟨rfl, n5, rfl⟩
          rw [eqL_self]
          go_wp2_with fail
          refine (rsame_any _ _ _ r.1 r.1 (n - 1) (n - 1) (HD4.out.below (below_drewN' (Below.refl _ _) n5)) (HD2.out.below (below_drewN' (Below.refl _ _) n5)) (by omega) (by omega)).mono ?_
          rintro e w6 ⟨rfl, n6, rfl⟩
          rw [dwEq_self]
          go_wp2_with fail
          go_ret
          exact ⟨rfl, below_drewN' HB4.out _⟩

end Go.Proofs.Ytkgmobneipdpeaa
