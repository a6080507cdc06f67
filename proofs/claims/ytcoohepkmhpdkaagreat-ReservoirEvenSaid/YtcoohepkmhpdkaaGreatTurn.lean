/-
  The program's Turn.
-/
import Derived.Test.YtcoohepkmhpdkaaGreatTurnPlain
import Derived.Test.YtcoohepkmhpdkaaGreatShuf3
import Derived.Test.YtcoohepkmhpdkaaGreatResUndoes
namespace Go.Proofs.YtcoohepkmhpdkaaGreat
open Go.RowKit
set_option linter.unusedVariables false

theorem order_notright (w : World) (n k : Nat) (vd : Value) (nd : Nat) (d : List Int) (hr : Rd w 1 vd nd (i64s d)) (hk : k ≤ n) (hn : n ≤ 256) (hd : resRightB n k d = false) :
    Calls Tryz.prog 85 #[.int .i64 (n : Int), .int .i64 (k : Int), vd] w fun e w' => e = .returned (.tuple #[.slice none 0 0, .int .i64 2]) ∧ w = w' := by
  obtain ⟨sa, ca, rfl⟩ := hr.form
  refine order_bad w n k 2 sa nd ca (by decide) fun w1 hb => ?_
  have := right_any w1 n k _ _ d (hr.below hb) hk hn
  have hz : rightE n k d = 2 := by unfold rightE; rw [hd]; rfl
  rw [hz] at this
  exact this
theorem order_chk (w : World) (n k : Int) (vd : Value) (nd : Nat) (d : List Int) (hr : Rd w 1 vd nd (i64s d)) (hz : resChk n k ≠ 0) :
    Calls Tryz.prog 85 #[.int .i64 n, .int .i64 k, vd] w fun e w' => e = .returned (.tuple #[.slice none 0 0, .int .i64 (resChk n k)]) ∧ w = w' := by
  obtain ⟨sa, ca, rfl⟩ := hr.form
  exact order_bad w n k _ sa nd ca hz fun w1 hb => right_bad w1 n k (.slice sa nd ca) sa nd ca hz

/-- what is wrong with decisions and an order to turn them by -/
def turnE (n k : Int) (d q : List Int) : Int := if resChk n k ≠ 0 then resChk n k else if resRightB n.toNat k.toNat d = true ∧ (q.length : Int) = n ∧ isPB q = true then 0 else 2

set_option maxRecDepth 100000 in
set_option maxHeartbeats 2000000 in
theorem turn_bad (w : World) (n k : Int) (vd vq : Value) (nd nq : Nat) (d q : List Int) (hr : Rd w 1 vd nd (i64s d)) (hq : Rd w 1 vq nq (i64s q)) (hqn : nq ≤ 50000 ∨ (q.length : Int) ≠ n) (hE : turnE n k d q ≠ 0) :
    Calls Tryz.prog 37 #[.int .i64 n, .int .i64 k, vd, vq] w fun e w' => e = .returned (.tuple #[.slice none 0 0, .int .i64 (turnE n k d q)]) ∧ Below w.heap.size w w' := by
  have hld := hr.len_i64
  have hlq := hq.len_i64
  subst hld; subst hlq
  obtain ⟨sd, cd, rfl⟩ := hr.form
  obtain ⟨sq, cq, rfl⟩ := hq.form
  have HR := Lib.hid hr; have HQ := Lib.hid hq; clear hr hq
  by_cases hz : resChk n k = 0
  · have hr := resChk_zero.1 hz
    obtain ⟨n, rfl⟩ := Int.eq_ofNat_of_zero_le hr.1
    obtain ⟨k, rfl⟩ := Int.eq_ofNat_of_zero_le hr.2.1
    have hkn : k ≤ n := by omega
    have hn : n ≤ 256 := by omega
    have he : turnE (n : Int) (k : Int) d q = 2 := by
      unfold turnE at hE ⊢
      rw [if_neg (by simp [hz])] at hE ⊢
      split at hE
      · exact absurd rfl hE
      · rename_i h; rw [if_neg h]
    rw [he]
    cases hd : resRightB n k d with
    | false =>
      have HD := Lib.hid hd
      clear hd he hE hz hr hqn
      go_enter Tryz.func37, Tryz.ntmps37
      go_wp2_with fail
      refine (order_notright _ n k _ _ d HR.out hkn hn HD.out).mono ?_
      rintro e w1 ⟨rfl, rfl⟩
      go_wp2
      go_ret2
      exact ⟨rfl, Below.refl _ _⟩
    | true =>
      by_cases hl : (q.length : Int) = (n : Int)
      · have hpb : isPB q = false := by
          cases h : isPB q with
          | false => rfl
          | true =>
            unfold turnE at hE
            rw [if_neg (by simp [hz]), if_pos ⟨hd, hl, h⟩] at hE
            exact absurd rfl hE
        have q1 : ((q.length : Int) != (n : Int)) = false := by simp [hl]
        have hql : q.length ≤ 256 := by omega
        have HD := Lib.hid hd; have HPB := Lib.hid hpb
        clear hd he hE hz hr hqn hpb hl
        go_enter Tryz.func37, Tryz.ntmps37
        go_wp2_with fail
        refine (order_ok _ n k _ _ d HR.out hkn hn HD.out).mono ?_
        rintro e w1 ⟨s1, c1, rfl, hown1, hb1⟩
        have HB1 := Lib.hid hb1; clear hown1 hb1
        go_wp2_with fail
        refine (is_any _ _ _ q (HQ.out.below HB1.out) (by omega)).mono ?_
        rintro e w2 ⟨rfl, hb2⟩
        rw [HPB.out]
        have HB2 := Lib.hid hb2; clear hb2
        go_wp2
        go_ret2
        exact ⟨rfl, below_two HB1.out HB2.out⟩
      · have q1 : ((q.length : Int) != (n : Int)) = true := by simp; omega
        have HD := Lib.hid hd
        clear hd he hE hz hr hqn hl
        go_enter Tryz.func37, Tryz.ntmps37
        go_wp2_with fail
        refine (order_ok _ n k _ _ d HR.out hkn hn HD.out).mono ?_
        rintro e w1 ⟨s1, c1, rfl, hown1, hb1⟩
        have HB1 := Lib.hid hb1; clear hown1 hb1
        go_wp2
        go_ret2
        exact ⟨rfl, HB1.out⟩
  · have he : turnE n k d q = resChk n k := by unfold turnE; rw [if_pos hz]
    rw [he]
    have hc := Lib.hid (order_chk w n k _ _ d HR.out hz)
    have q1 : (resChk n k != 0) = true := by simp [hz]
    generalize resChk n k = E at *
    clear he hE hz hqn
    go_enter Tryz.func37, Tryz.ntmps37
    go_wp2_with fail
    refine hc.out.mono ?_
    rintro e w1 ⟨rfl, rfl⟩
    go_wp2
    go_ret2
    exact ⟨rfl, Below.refl _ _⟩

/-- a slice that reads, where its own block has not turned -/
theorem rd_kept {w w' : World} {sz : Nat} {sa : Option Addr} {n cap : Nat} {cs : List Value} (h : Rd w sz (.slice sa n cap) n cs) (hk : ∀ b o, sa = some ⟨b, o, none⟩ → w'.heap[b]? = w.heap[b]?) : Rd w' sz (.slice sa n cap) n cs := by
  obtain ⟨h1, h2, sa', cap', hv, hc, h3⟩ := h
  cases hv
  refine ⟨h1, h2, _, _, rfl, hc, ?_⟩
  rcases h3 with h3 | ⟨b, off, h4, h5⟩
  · exact .inl h3
  · exact .inr ⟨b, off, h4, fun i u hu => (World.cell?_of_block (w := w) (hk b off h4)).trans (h5 i u hu)⟩

theorem relab_take (k : Nat) (F D : List Int) (j : Nat) (h : j < D.length) (x : Int) (hx : D.getD j 0 = x) :
    (relab k F (D.take j) ++ D.drop j).set j (relab1 k F x) = relab k F (D.take (j + 1)) ++ D.drop (j + 1) ∧ (relab k F (D.take j) ++ D.drop j).getD j 0 = x := by
  have hl : (relab k F (D.take j)).length = j := by rw [relab_len, List.length_take]; omega
  have hd : D.drop j = x :: D.drop (j + 1) := by
    rw [List.drop_eq_getElem_cons h, ← hx]; simp [List.getD, List.getElem?_eq_getElem h]
  have ht : D.take (j + 1) = D.take j ++ [x] := by
    rw [List.take_succ_eq_append_getElem h, ← hx]; simp [List.getD, List.getElem?_eq_getElem h]
  constructor
  · rw [List.set_append_right _ _ (by omega), hl, Nat.sub_self, hd, ht]
    simp [relab]
  · rw [hd]
    have := getD_append_left (relab k F (D.take j) ++ [x]) (D.drop (j + 1)) j (by simp [hl])
    rw [List.append_assoc] at this
    rw [show (relab k F (D.take j) ++ x :: D.drop (j + 1)) = relab k F (D.take j) ++ ([x] ++ D.drop (j + 1)) from rfl, this]
    have h2 := getD_snoc (relab k F (D.take j)) x
    rwa [hl] at h2

set_option maxRecDepth 100000 in
set_option maxHeartbeats 4000000 in
theorem turn_ok (w : World) (n k : Nat) (vd vq : Value) (nd nq : Nat) (d q : List Int) (hr : Rd w 1 vd nd (i64s d)) (hq : Rd w 1 vq nq (i64s q)) (hk : k ≤ n) (hn : n ≤ 256) (hd : resRightB n k d = true) (hql : q.length = n) (hqp : IsP q) :
    Calls Tryz.prog 37 #[.int .i64 (n : Int), .int .i64 (k : Int), vd, vq] w fun e w' => ∃ sa cap, e = .returned (.tuple #[.slice sa (n - k) cap, .int .i64 0]) ∧ w'.ownsRow w.heap.size 3 1 (.slice sa (n - k) cap) (n - k) (i64s (turnL n k d q)) ∧ Below w.heap.size w w' := by
  have hld := hr.len_i64
  have hlq := hq.len_i64
  subst hld
  obtain ⟨sd, cd, rfl⟩ := hr.form
  obtain ⟨sq, cq, rfl⟩ := hq.form
  have hqn : nq = n := by omega
  subst hqn
  have hrd := resRightB_iff.1 hd
  obtain ⟨t1, t2, t3, t4, t5, t6, t7⟩ := turn_facts nq k d q hk hrd hqp hql
  obtain ⟨p1, p2⟩ := order_isP' nq k d hk hrd
  have hpb := isPB_iff.2 hqp
  have q1 : ((nq : Int) != (nq : Int)) = false := by simp
  have HR := Lib.hid hr; have HQ := Lib.hid hq; have HD := Lib.hid hd; have HPB := Lib.hid hpb; have IQ := Lib.hid hqp; have T1 := Lib.hid t1; have T3 := Lib.hid t3; have T4 := Lib.hid t4; have T5 := Lib.hid t5; have P1 := Lib.hid p1
  clear hr hq hd hpb hqp t1 t2 t3 t4 t5 t6 t7 p1 p2 hrd hlq hql
  go_enter Tryz.func37, Tryz.ntmps37
  go_wp2_with fail
  refine (order_ok _ nq k _ _ d HR.out hk hn HD.out).mono ?_
  rintro e w1 ⟨s1, c1, rfl, hown1, hb1⟩
  have HO1 := Lib.hid hown1; have HB1 := Lib.hid hb1; clear hown1 hb1
  go_wp2_with fail
  refine (is_any _ _ _ q (HQ.out.below HB1.out) (by omega)).mono ?_
  rintro e w2 ⟨rfl, hb2⟩
  rw [HPB.out]
  have HB2 := Lib.hid hb2; clear hb2
  go_wp2_with fail
  refine (then_ok _ _ _ _ _ q (orderL k d) ((HQ.out.below HB1.out).below HB2.out) ((rd_of_row HO1.out).below HB2.out) (by omega) rfl IQ.out P1.out).mono ?_
  rintro e w3 ⟨s3, c3, rfl, hown3, hb3⟩
  have HO3 := Lib.hid hown3; have HB3 := Lib.hid hb3; clear hown3 hb3
  go_wp2_with fail
  refine (undo_ok2 _ nq k _ (turnT k d q) (rd_of_row HO3.out) hk hn T1.out).mono ?_
  rintro e w4 ⟨s4, c4, s5, c5, B2, rfl, hown4, hf5, hb4, hB2, hlt5⟩
  have hbe : Below w.heap.size w w4 := below_two (below_two (below_two HB1.out HB2.out) HB3.out) hb4
  have hsz : w.heap.size ≤ B2 := Nat.le_trans (Nat.le_trans (Nat.le_trans HB1.out.size HB2.out.size) HB3.out.size) hB2
  have HO4 := Lib.hid hown4; have HF5 := Lib.hid hf5; have HB4 := Lib.hid hbe; have HLT := Lib.hid hlt5
  clear hown4 hf5 hb4 hB2 hlt5 hbe
  have hDl : (turnD nq k d q).length = nq - k := T5.out.1
  have HDL := Lib.hid hDl; clear hDl
  go_wp2
  go_loopw [47] (fun i wr => ∃ j : Nat, j ≤ nq - k ∧ i = .int .i64 (j : Int) ∧ Hid (wr.ownsRow B2 3 1 (.slice s4 (nq - k) c4) (nq - k) (i64s (relab k (turnF nq k d q) ((turnD nq k d q).take j) ++ (turnD nq k d q).drop j))) ∧ Hid (Below B2 w4 wr) ∧ Hid (Below w.heap.size w wr) ∧ Hid (Rd wr 1 (.slice s5 k c5) k (i64s (turnF nq k d q)))) (fun i _ => (nq - k) - (intOf i).toNat)
  case atStart => exact ⟨0, Nat.zero_le _, rfl, HO4, Below.refl _ _, HB4, HF5⟩
  case round =>
    obtain ⟨j, hj, rfl, HO, HBR, HB, HF⟩ := hrel
    by_cases hlt : j < nq - k
    · obtain ⟨g, hs4, hg1, hg2, hg3, hcell, hfz⟩ := row_ptr HO.out (by omega)
      subst hs4
      obtain ⟨k1, k2⟩ := relab_take k (turnF nq k d q) (turnD nq k d q) j (by rw [HDL.out]; exact hlt) _ rfl
      have hx := T5.out.2 j (by rw [HDL.out]; exact hlt)
      have cx := hcell j _ (i64s_at _ j (by rw [List.length_append, relab_len, List.length_take, List.length_drop, HDL.out]; omega))
      rw [k2] at cx
      have fx := hfz j
      generalize hxd : (turnD nq k d q).getD j 0 = x at *
      have K1 := Lib.hid k1
      have hset : (relab k (turnF nq k d q) ((turnD nq k d q).take j) ++ (turnD nq k d q).drop j).set j x = relab k (turnF nq k d q) ((turnD nq k d q).take j) ++ (turnD nq k d q).drop j := by
        refine ext_getD (by simp) fun t ht => ?_
        rw [getD_set _ _ _ _ (by rw [List.length_append, relab_len, List.length_take, List.length_drop, HDL.out]; omega)]
        by_cases h : j = t
        · rw [if_pos h, ← h, k2]
        · rw [if_neg h]
      have CX0 := Lib.hid hset; clear hset
      clear k1 k2 hcell hfz
      by_cases hxk : x < (k : Int)
      · obtain ⟨b, off, hs5, hc5⟩ := HF.out.at (by omega)
        subst hs5
        obtain ⟨a, rfl⟩ := Int.eq_ofNat_of_zero_le hx.1
        have cf := hc5 a _ (i64s_at (turnF nq k d q) a (by rw [T4.out]; omega))
        have hrl : relab1 k (turnF nq k d q) (a : Int) = (turnF nq k d q).getD a 0 := by unfold relab1; rw [if_pos hxk, Int.toNat_natCast]
        generalize hy : (turnF nq k d q).getD a 0 = y at *
        have HRL := Lib.hid hrl
        have hgb : b < B2 := HLT.out b off rfl
        clear hc5 hy hrl
        go_wp2
        go_roundw
        case rel =>
          refine ⟨j + 1, by omega, by go_num, ?_, HBR.out.setCell (p := ⟨g, j, none⟩) hg1 _, HB.out.setCell (p := ⟨g, j, none⟩) (Nat.le_trans hsz hg1) _, ?_⟩
          · have h1 := row_set HO.out (i := j) hlt (.int .i64 y)
            have kk := K1.out
            rw [HRL.out] at kk
            rw [← i64s_set, kk] at h1
            exact h1
          · exact rd_kept HF.out (fun b' o' hs => by cases hs; exact Below.heap_setCell _ _ _ _ (by show b ≠ g; omega))
        case measure => simp [intOf]; omega
      · have hrl : relab1 k (turnF nq k d q) x = x := by unfold relab1; rw [if_neg hxk]
        have HRL := Lib.hid hrl; clear hrl
        go_wp2
        go_roundw
        case rel =>
          refine ⟨j + 1, by omega, by go_num, ?_, HBR, HB, HF⟩
          have e : relab k (turnF nq k d q) ((turnD nq k d q).take j) ++ (turnD nq k d q).drop j = relab k (turnF nq k d q) ((turnD nq k d q).take (j + 1)) ++ (turnD nq k d q).drop (j + 1) := by
            rw [← K1.out, HRL.out, CX0.out]
          show World.ownsRow _ _ _ _ _ _ _
          rw [← e]
          exact HO.out
        case measure => simp [intOf]; omega
    · obtain rfl : j = nq - k := by omega
      go_wp2
      go_ret2
      refine ⟨_, _, rfl, ?_, HB.out⟩
      have h1 := row_mono HO.out hsz
      rw [← HDL.out, List.take_length, List.drop_length, List.append_nil] at h1
      rw [← HDL.out]
      exact h1

end Go.Proofs.YtcoohepkmhpdkaaGreat
