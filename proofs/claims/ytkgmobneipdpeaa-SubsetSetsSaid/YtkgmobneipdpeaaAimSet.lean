/-
  subset.AimSet.
-/
import Derived.Test.YtkgmobneipdpeaaMove
import Derived.Test.YtkgmobneipdpeaaSAim
import Derived.Test.YtkgmobneipdpeaaLawSA
namespace Go.Proofs.Ytkgmobneipdpeaa
open Go.RowKit
set_option linter.unusedVariables false
set_option linter.unusedSimpArgs false

theorem rs_of {n : Int} {l : List Int} (h : IsS n l) (hu : Up l) : rsB n l = true := by
  have h1 := isSB_iff.2 h
  have h2 : srtB l = true := srtB_iff.2 fun j hj => by
    have := List.pairwise_iff_getElem.1 hu j (j + 1) (by omega) hj (by omega)
    rw [List.getD_eq_getElem?_getD, List.getD_eq_getElem?_getD, List.getElem?_eq_getElem hj, List.getElem?_eq_getElem (show j < l.length by omega)]
    simp only [Option.getD_some]
    omega
  simp [rsB, h1, h2]

/-- the pick in the course of being moved -/
def mvMid (M W : List Int) (k : Nat) : List Int := (List.range W.length).map fun i => if i < k then M.getD (W.getD i 0).toNat 0 else W.getD i 0
theorem mvMid_len (M W : List Int) (k : Nat) : (mvMid M W k).length = W.length := by simp [mvMid]
theorem mvMid_get (M W : List Int) (k i : Nat) (h : i < W.length) : (mvMid M W k).getD i 0 = if i < k then M.getD (W.getD i 0).toNat 0 else W.getD i 0 := by
  simp [mvMid, List.getD, h]
theorem mvMid_zero (M W : List Int) : mvMid M W 0 = W :=
  ext_getD (mvMid_len _ _ _) fun i hi => by rw [mvMid_get _ _ _ _ (by rwa [mvMid_len] at hi), if_neg (by omega)]
theorem mvMid_end (M W : List Int) : mvMid M W W.length = mvL M W :=
  ext_getD (by rw [mvMid_len, mvL_len]) fun i hi => by
    rw [mvMid_len] at hi
    rw [mvMid_get _ _ _ _ hi, if_pos hi, mvL_get _ _ _ hi]
theorem mvMid_succ (M W : List Int) (k : Nat) (hk : k < W.length) : mvMid M W (k + 1) = (mvMid M W k).set k (M.getD (W.getD k 0).toNat 0) := by
  refine ext_getD (by simp [mvMid_len]) fun i hi => ?_
  rw [mvMid_len] at hi
  rw [mvMid_get _ _ _ _ hi]
  by_cases hik : i = k
  · subst hik
    rw [gset_eq _ _ _ (by rw [mvMid_len]; exact hi), if_pos (by omega)]
  · rw [gset_ne _ _ (fun e => hik e.symm), mvMid_get _ _ _ _ hi]
    by_cases h2 : i < k
    · rw [if_pos h2, if_pos (by omega)]
    · rw [if_neg h2, if_neg (by omega)]

set_option maxRecDepth 100000 in
set_option maxHeartbeats 1000000 in
theorem aimset_cnt (w : World) (vl v : Value) (n : Int) (m : Nat) (c : List Int) (h : Rd w 1 v m (i64s c)) (hb : cntS n (c.length : Int) ≠ 0) :
    Calls Try.prog 40 #[vl, .int .i64 n, v] w fun e w' => e = .returned (.tuple #[.slice none 0 0, .int .i64 1]) ∧ w = w' := by
  have C := Lib.hid (subcho_cnt w n v m c h hb)
  clear h hb
  go_enter Try.func40, Try.ntmps40
  go_wp2_with fail
  refine C.out.mono ?_
  rintro e w1 ⟨rfl, rfl⟩
  go_wp2_with fail
  go_ret2
  exact ⟨rfl, rfl⟩

set_option maxRecDepth 100000 in
set_option maxHeartbeats 1000000 in
theorem aimset_bad (w : World) (vl v : Value) (n : Int) (m : Nat) (c : List Int) (h : Rd w 1 v m (i64s c)) (hc : cntS n (c.length : Int) = 0) (hb : isSB n c = false) :
    Calls Try.prog 40 #[vl, .int .i64 n, v] w fun e w' => e = .returned (.tuple #[.slice none 0 0, .int .i64 2]) ∧ Below w.heap.size w w' := by
  have C := Lib.hid (subcho_bad w n v m c h hc hb)
  clear h hb hc
  go_enter Try.func40, Try.ntmps40
  go_wp2_with fail
  refine C.out.mono ?_
  rintro e w1 ⟨rfl, hb⟩
  have HB := Lib.hid hb; clear hb
  go_wp2_with fail
  go_ret2
  exact ⟨rfl, HB.out⟩

set_option maxRecDepth 100000 in
set_option maxHeartbeats 1000000 in
theorem aimset_dom (w : World) (vl v : Value) (n m : Nat) (p : List Int) (h : Rd w 1 v m (i64s p)) (hk : m ≤ n) (hn : n ≤ 256) (his : IsS (n : Int) p) (hb : rsB (n : Int) p = false) :
    Calls Try.prog 40 #[vl, .int .i64 (n : Int), v] w fun e w' => e = .returned (.tuple #[.slice none 0 0, .int .i64 2]) ∧ Below w.heap.size w w' := by
  obtain rfl := h.len_i64
  obtain ⟨sp, cp, rfl⟩ := h.form
  have C := Lib.hid (subcho_ok w n _ _ p h hn hk his)
  have HP := Lib.hid h; have HRS := Lib.hid hb
  clear h hb his
  go_enter Try.func40, Try.ntmps40
  go_wp2_with fail
  refine C.out.mono ?_
  rintro e w1 ⟨sc, cc, rfl, -, hb1⟩
  have HB1 := Lib.hid hb1; clear hb1
  go_wp2_with fail
  refine (rises_any w1 (n : Int) _ p.length p (HP.out.below HB1.out) (by omega)).mono ?_
  rintro e w2 ⟨rfl, hb2⟩
  rw [HRS.out]
  have HB2 := Lib.hid (below_two HB1.out hb2); clear hb2
  go_wp2_with fail
  go_ret2
  exact ⟨rfl, HB2.out⟩

/-- what AimSet aims at -/
def mvS (n : Nat) (was p : List Int) : List Int := mvL (moveL n (setL was) p) was

set_option maxRecDepth 100000 in
set_option maxHeartbeats 4000000 in
theorem aimset_any (w : World) (vl vp : Value) (m n k : Nat) (l : List Nat) (p : List Int) (hl : Rd w 1 vl m (u64s (zsN l))) (hp : Rd w 1 vp k (i64s p)) (hm : m ≤ 40000) (hw : W64 l) (hk : k ≤ n) (hn : n ≤ 256) (hrs : rsB (n : Int) p = true) :
    Calls Try.prog 40 #[vl, .int .i64 (n : Int), vp] w fun e w' => TkE (rowN l (limS n k))
      (fun r => ∃ so co, e = .returned (.tuple #[.slice so m co, .int .i64 0]) ∧ w'.ownsRow w.heap.size 55 1 (.slice so m co) m (u64s (zsN (aimS (limS n k) l r.1 (vsS (choS n (mvS n (pickL n (numsI r.1)) p)))))))
      (e = .returned (.tuple #[.slice none 0 0, .int .i64 7])) ∧ Below w.heap.size w w' := by
  obtain rfl := hl.len_u64
  obtain rfl := hp.len_i64
  rw [zsN_len] at *
  obtain ⟨sl, cl, rfl⟩ := hl.form
  obtain ⟨sp, cp, rfl⟩ := hp.form
  obtain ⟨his, hup⟩ := rs_up hrs
  have C := Lib.hid (subcho_ok w n _ _ p hp hn hk his)
  have HL := Lib.hid hl; have HW := Lib.hid hw; have HP := Lib.hid hp; have HRS := Lib.hid hrs; have HIS := Lib.hid his; have HUP := Lib.hid hup
  clear hl hp hw his hrs hup
  go_enter Try.func40, Try.ntmps40
  go_wp2_with fail
  refine C.out.mono ?_
  rintro e w1 ⟨sc, cc, rfl, -, hb1⟩
  have HB1 := Lib.hid hb1; clear hb1
  go_wp2_with fail
  refine (rises_any w1 (n : Int) _ p.length p (HP.out.below HB1.out) (by omega)).mono ?_
  rintro e w2 ⟨rfl, hb2⟩
  rw [HRS.out]
  have HB2 := Lib.hid (below_two HB1.out hb2); clear hb2 HB1
  have N := Lib.hid (new_any w2 (.slice sl l.length cl) (zsN l) (by rw [zsN_len]; exact HL.out.below HB2.out) (by rw [zsN_len]; omega))
  go_wp2_with fail
  refine N.out.mono ?_
  rintro e w3 ⟨b, wv, rfl, ht, hb3⟩
  have HT := Lib.hid (stake_own w3 _ b wv _ l 0 n p.length ht (by omega) HW.out hk hn)
  have hbb : w2.heap.size ≤ b := ht.2.1
  have hnil : ∀ g, (Value.slice none 0 0).ownBlock = some g → w2.heap.size ≤ g := fun g hg => by cases hg
  have HBB := Lib.hid hbb; have HNIL := Lib.hid hnil; have HB3 := Lib.hid hb3
  clear ht hbb hnil hb3
  go_wp2_with fail
  refine HT.out.mono ?_
  rintro e w4 he
  cases hrow : rowA l (limS n p.length) [] 0 with
  | none =>
    rw [hrow] at he
    obtain ⟨rfl, ht4⟩ : e = .returned (.tuple #[.slice none 0 0, .slice none 0 0, .int .i64 7]) ∧ _ := he
    have hb4 := tapeTo_below' ht4 HB3.out.size HB3.out HBB.out HNIL.out
    have HB4 := Lib.hid (HB2.out.trans (hb4.mono HB2.out.size))
    have HROW := Lib.hid (show rowN l (limS n p.length) = none from hrow)
    clear ht4 hb4 hrow
    go_wp2_with fail
    go_ret2
    rw [HROW.out]
    exact ⟨(rfl : _ = _), HB4.out⟩
  | some r =>
    rw [hrow] at he
    obtain ⟨⟨s1, c1, sd, cd, rfl, hpk, -⟩, ht4⟩ := he
    have hb4 := tapeTo_below' ht4 HB3.out.size HB3.out HBB.out HNIL.out
    have HB4 := Lib.hid (HB2.out.trans (hb4.mono HB2.out.size))
    have hrw : rowN l (limS n p.length) = some r := hrow
    obtain ⟨hrl, hsb⟩ := rowN_sub HW.out hk (k0 := 0) (by omega) hrw
    obtain ⟨-, hwp, hwl⟩ := cho_pick hsb
    rw [numsI_len, hrl] at hwl
    have HROW := Lib.hid hrw
    clear ht4 hb4 hrow hrw hrl hsb
    generalize hWas : pickL n (numsI r.1) = Was at *
    have hsl : (setL Was).length = p.length := by rw [(setL_len Was).2 hwp.1, hwl]
    have hss : IsS (n : Int) (setL Was) := ⟨(setL_up Was).1.nodup, fun x hx => hwp.2 x (((setL_up Was).2 x).1 hx)⟩
    have hsr := rs_of hss (setL_up Was).1
    obtain ⟨hmi, -, -⟩ := mvL_ok hwp HIS.out HUP.out hwl
    have HPK := Lib.hid hpk; have HWP := Lib.hid hwp; have HWL := Lib.hid hwl; have HSL := Lib.hid hsl; have HSR := Lib.hid hsr; have HMI := Lib.hid hmi; have HWAS := Lib.hid hWas
    clear hpk hwp hwl hsl hsr hss hmi hWas
    go_wp2_with fail
    refine (subset_set w4 _ p.length Was HPK.out.rd (by omega)).mono ?_
    rintro e w5 ⟨s5, c5, rfl, hown5, hb5⟩
    rw [HSL.out] at hown5
    rw [HSL.out]
    have HO5 := Lib.hid hown5; have HB5 := Lib.hid hb5
    clear hown5 hb5
    have HW5 := Lib.hid (below_two HB4.out HB5.out)
    go_wp2_with fail
    refine (submove_ok w5 n _ _ p.length p.length (setL Was) p (rd_of_row HO5.out) (HP.out.below HW5.out) hn HSR.out HRS.out HSL.out).mono ?_
    rintro e w6 ⟨s6, c6, rfl, hown6, hb6⟩
    have HO6 := Lib.hid hown6; have HB6 := Lib.hid (below_two HB5.out hb6)
    clear hown6 hb6
    have hpk6 := HPK.out.below HB6.out
    have HPK6 := Lib.hid hpk6
    have HW6 := Lib.hid (below_two HB4.out HB6.out)
    have h46 := HB6.out.size
    have h45 := HB5.out.size
    have h34 : w3.heap.size ≤ w6.heap.size ∨ True := .inr trivial
    have HS45 := Lib.hid h45
    have hw3 : w.heap.size ≤ w3.heap.size := Nat.le_trans HB2.out.size HB3.out.size
    have HW3 := Lib.hid hw3
    -- the pick's block lies ahead of what Set and Move have made
    have hblk : ∀ g off, s1 = some ⟨g, off, none⟩ → 0 < p.length → w3.heap.size ≤ g ∧ g < w4.heap.size := fun g off hs h0 => by
      obtain ⟨g', off', h1, h2, h3, -, -⟩ := HPK.out.at h0
      rw [hs] at h1
      cases h1
      exact ⟨h2, h3⟩
    have HBLK := Lib.hid hblk
    clear hpk6 h46 h45 h34 hw3 hblk
    go_wp2
    go_loopw [53] (fun i wr => ∃ q : Nat, q ≤ p.length ∧ i = .int .i64 (q : Int) ∧ Hid (Own wr w3.heap.size 1 (.slice s1 p.length c1) p.length (i64s (mvMid (moveL n (setL Was) p) Was q))) ∧ Hid (Chg (fun g => w3.heap.size ≤ g ∧ g < w4.heap.size) w6 wr)) (fun i _ => p.length - (intOf i).toNat)
    case atStart => exact ⟨0, Nat.zero_le _, rfl, by rw [mvMid_zero]; exact HPK6, Chg.refl _ _⟩
    case round =>
      obtain ⟨q, hq, rfl, HO, HC⟩ := hrel
      by_cases hlt : q < p.length
      · obtain ⟨g1, o1, rfl, hg1, hg2, hcell1, hfz1⟩ := HO.out.at (by omega)
        obtain ⟨hk1, hk2⟩ := HBLK.out g1 o1 rfl (by omega)
        have hqw : q < Was.length := by rw [HWL.out]; exact hlt
        have x1 := hcell1 q _ (i64s_at (mvMid (moveL n (setL Was) p) Was q) q (by rw [mvMid_len]; exact hqw))
        rw [mvMid_get _ _ _ _ hqw, if_neg (Nat.lt_irrefl _)] at x1
        have hbd := HWP.out.2 _ (getD_mem Was q hqw)
        have hsc := mvMid_succ (moveL n (setL Was) p) Was q hqw
        obtain ⟨a, ha⟩ : ∃ a : Nat, Was.getD q 0 = (a : Int) := ⟨(Was.getD q 0).toNat, by omega⟩
        rw [ha] at x1 hbd hsc
        rw [Int.toNat_natCast] at hsc
        have han : a < n := by omega
        have r6 := row_chg HO6.out HC.out (fun g hg e => by have := (HO6.out.lt g hg).1; have := HS45.out; omega)
        obtain ⟨g6, rfl, -, -, -, hcell6, -⟩ := row_ptr r6 (by omega)
        have x6 := hcell6 a _ (i64s_at (moveL n (setL Was) p) a (by rw [moveL_len]; exact han))
        have f1 := hfz1 (o1 + q)
        generalize hy : (moveL n (setL Was) p).getD a 0 = y at *
        have HSC := Lib.hid hsc
        have ha0 : (0 : Int) ≤ (a : Int) := by omega
        have ha1 : (a : Int) < (n : Int) := by omega
        have HK1 := Lib.hid (And.intro hk1 hk2)
        clear hcell1 hfz1 hbd hsc ha r6 hcell6 hy hg1 hg2 hk1 hk2
        go_wp2
        go_roundw
        case rel =>
          refine ⟨q + 1, by omega, by go_num, ?_, HC.out.setCell (p := ⟨g1, o1 + q, none⟩) (.inl HK1.out) _⟩
          show Own _ _ _ _ _ (i64s (mvMid (moveL n (setL Was) p) Was (q + 1)))
          rw [HSC.out, i64s_set]
          exact HO.out.set hlt _
        case measure => simp [intOf]; omega
      · obtain rfl : q = p.length := by omega
        have hfin := HO.out
        rw [← HWL.out, mvMid_end] at hfin
        rw [HWL.out] at hfin
        have hbw := HW6.out.trans (HC.out.below HW6.out.size fun g hg => Nat.le_trans HW3.out hg.1)
        have HFIN := Lib.hid hfin; have HBW := Lib.hid hbw
        clear hfin hbw
        have A := Lib.hid (saim_any wr (.slice sl l.length cl) (.slice s1 p.length c1) l.length n p.length l (mvL (moveL n (setL Was) p) Was) (by exact HL.out.below HBW.out) HFIN.out.rd (by omega) HW.out hk hn HMI.out)
        go_wp2_with fail
        refine A.out.mono ?_
        rintro e w7 ⟨he, hb7⟩
        rw [HROW.out] at he
        obtain ⟨so, co, rfl, ho7⟩ := he
        have HO7 := Lib.hid ho7; have HB7 := Lib.hid hb7
        clear ho7 hb7
        go_wp2_with fail
        go_ret2
        rw [HROW.out]
        refine ⟨⟨so, co, rfl, ?_⟩, below_two HBW.out HB7.out⟩
        show World.ownsRow _ _ _ _ _ _ (u64s (zsN (aimS (limS n p.length) l r.1 (vsS (choS n (mvS n (pickL n (numsI r.1)) p))))))
        rw [HWAS.out]
        exact row_mono HO7.out HBW.out.size

end Go.Proofs.Ytkgmobneipdpeaa
