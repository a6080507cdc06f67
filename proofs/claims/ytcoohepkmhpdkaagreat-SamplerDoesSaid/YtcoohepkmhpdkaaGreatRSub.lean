/-
  The reference's subset that words tell: Limits, Take.
-/
import Derived.Test.YtcoohepkmhpdkaaGreatSTake
namespace Go.Proofs.YtcoohepkmhpdkaaGreat
open Go.RowKit
set_option linter.unusedVariables false

theorem limS_snoc (n k : Nat) : limS n (k + 1) = limS n k ++ [n - k] := by simp [limS, List.range_succ]

set_option maxRecDepth 100000 in
set_option maxHeartbeats 1000000 in
theorem rlim41_any (w : World) (n k : Nat) (hk : k ≤ n) (hn : n ≤ 50000) :
    Calls Tryz.prog 70 #[.int .i64 (n : Int), .int .i64 (k : Int)] w fun e w' => ∃ sa cap, e = .returned (.slice sa k cap) ∧ w'.ownsRow w.heap.size 48 1 (.slice sa k cap) k (u64s (zsN (limS n k))) ∧ Below w.heap.size w w' := by
  go_enter Tryz.func70, Tryz.ntmps70
  go_wp2
  go_loopw [5, 6] (fun v i wr => ∃ (j : Nat) (sa : Option Addr) (cap : Nat), j ≤ k ∧ i = .int .i64 j ∧ v = .slice sa j cap ∧ Hid (wr.ownsRow w.heap.size 48 1 (.slice sa j cap) j (u64s (zsN (limS n j)))) ∧ Hid (Below w.heap.size w wr)) (fun _ i _ => k - (intOf i).toNat)
  case atStart => exact ⟨0, none, 0, Nat.zero_le _, rfl, rfl, World.ownsRow_nil _ _ _ _, Below.refl _ _⟩
  case round =>
    obtain ⟨j, sa, cap, hj, rfl, rfl, HO, HB⟩ := hrel
    by_cases hlt : j < k
    · have e1 : ((n : Int) - (j : Int)) = ((n - j : Nat) : Int) := by omega
      have hb : n - j ≤ 50000 := by omega
      have hs := limS_snoc n j
      generalize n - j = m at *
      have HS := Lib.hid hs; clear hs
      go_wp2_with (at_builtin; refine app_u64 _ rfl _ _ rfl w.heap.size _ _ _ rfl HO.out _ _ rfl ?qg ?qn ?qb ?_)
      case qg => rfl
      case qn => omega
      case qb => exact HB.out.size
      intro v' w1 hown hchg hfresh
      obtain ⟨sa', cap', rfl⟩ := (rd_of_row hown).form
      rw [← u64s_snoc, ← zsN_snoc, ← HS.out] at hown
      have HO1 := Lib.hid hown; have HC1 := Lib.hid hchg
      clear hown hchg hfresh
      go_wp2
      go_roundw
      case rel => exact ⟨j + 1, sa', cap', by omega, by go_num, rfl, HO1, HB.out.trans (HC1.out.below HB.out.size fun i hi => (HO.out.lt i hi).1)⟩
      case measure => simp [intOf]; omega
    · obtain rfl : j = k := by omega
      go_wp2
      go_ret
      exact ⟨sa, cap, rfl, HO.out, HB.out⟩

set_option maxRecDepth 100000 in
set_option maxHeartbeats 4000000 in
theorem rtake41_any (w : World) (v : Value) (m : Nat) (l : List Nat) (n k : Nat) (hr : Rd w 1 v m (u64s (zsN l))) (hm : m < 50000) (hw : W64 l) (hk : k ≤ n) (hn : n ≤ 256) :
    Calls Tryz.prog 29 #[v, .int .i64 (n : Int), .int .i64 (k : Int)] w fun e w' => TkE (rowN l (limS n k))
      (fun r => ∃ sp cp sd cd, e = .returned (.tuple #[.slice sp k cp, .slice sd k cd, .int .i64 (r.2 : Int), .bool true]) ∧ Rd w' 1 (.slice sp k cp) k (i64s (pickL n (numsI r.1))) ∧ Rd w' 3 (.slice sd k cd) k (dwC r.1))
      (e = .returned (.tuple #[.slice none 0 0, .slice none 0 0, .int .i64 (l.length : Int), .bool false])) ∧ Below w.heap.size w w' := by
  obtain rfl := hr.len_u64
  rw [zsN_len] at *
  obtain ⟨sa, cap, rfl⟩ := hr.form
  have HR := Lib.hid hr; have HW := Lib.hid hw
  clear hr hw
  go_enter Tryz.func29, Tryz.ntmps29
  go_wp2_with fail
  refine (rlim41_any w n k hk (by omega)).mono ?_
  rintro e w1 ⟨sl, cl, rfl, hown, hb1⟩
  have HL := Lib.hid hown; have HB1 := Lib.hid hb1
  clear hown hb1
  go_wp2_with fail
  refine (rrow_any w1 _ _ l.length k l (limS n k) (HR.out.below HB1.out) (rd_of_row HL.out) hm (by omega) HW.out (limS_ok hk (by omega))).mono ?_
  rintro e w2 ⟨he, hb2⟩
  have HB2 := Lib.hid (below_two HB1.out hb2)
  cases hrow : rowN l (limS n k) with
  | none =>
    rw [hrow] at he
    obtain rfl : e = .returned (.tuple #[.slice none 0 0, .int .i64 (l.length : Int), .bool false]) := he
    have HROW := Lib.hid hrow
    clear hb2 hrow
    go_wp2_with fail
    refine bodyPost_ret (v := .tuple #[.slice none 0 0, .slice none 0 0, .int .i64 (l.length : Int), .bool false]) (by simp [results, Tryz.results29, go_sem]) rfl ⟨?_, HB2.out⟩
    rw [HROW.out]
    exact (rfl : _ = _)
  | some r =>
    rw [hrow] at he
    obtain ⟨sd, cd, rfl, hd⟩ := he
    obtain ⟨hrl, hsb⟩ := rowN_sub HW.out hk (by omega) hrow
    rw [hrl] at hd ⊢
    have hd' : w2.ownsRow w.heap.size 65 3 (.slice sd k cd) k (dwC r.1) := row_mono hd HB1.out.size
    have HROW := Lib.hid hrow
    have HD := Lib.hid hd'; have HRL := Lib.hid hrl; have HSB := Lib.hid hsb
    clear hb2 hrow hd hd' hrl hsb
    go_wp2_with fail
    go_loopw [13, 30] (fun v i wr => ∃ (j : Nat) (sa : Option Addr) (cap : Nat), j ≤ k ∧ i = .int .i64 j ∧ v = .slice sa j cap ∧ Hid (wr.ownsRow w2.heap.size 3 1 (.slice sa j cap) j (i64s (numsI (r.1.take j)))) ∧ Hid (Below w2.heap.size w2 wr)) (fun _ i _ => k - (intOf i).toNat)
    case atStart => exact ⟨0, none, 0, Nat.zero_le _, rfl, rfl, World.ownsRow_nil _ _ _ _, Below.refl _ _⟩
    case round =>
      obtain ⟨j, sc, cc, hj, rfl, rfl, HO, HB⟩ := hrel
      by_cases hlt : j < k
      · have hrd := (rd_of_row HD.out).below HB.out
        obtain ⟨bb, off, rfl, hc⟩ := hrd.at (by omega)
        obtain ⟨c0, c1, c2⟩ := dwC_at r.1 j (by rw [HRL.out]; exact hlt)
        have x0 := hc _ _ c0
        have x1 := hc _ _ c1
        have x2 := hc _ _ c2
        rw [← Nat.add_assoc] at x1 x2
        have hsn : numsI (r.1.take (j + 1)) = numsI (r.1.take j) ++ [((r.1.getD j dwZ).1 : Int)] := by
          rw [List.take_succ_eq_append_getElem (by rw [HRL.out]; exact hlt), numsI_snoc]
          simp [List.getD, List.getElem?_eq_getElem (show j < r.1.length by rw [HRL.out]; exact hlt)]
        have hlt1 : (r.1.getD j dwZ).1 ≤ 256 := by
          have h1 := HSB.out j (by rw [numsI_len, HRL.out]; exact hlt)
          have e : (numsI r.1).getD j 0 = ((r.1.getD j dwZ).1 : Int) := by
            simp [numsI, List.getD, List.getElem?_eq_getElem (show j < r.1.length by rw [HRL.out]; exact hlt)]
          rw [e] at h1
          omega
        generalize r.1.getD j dwZ = d at *
        obtain ⟨d1, d2, d3⟩ := d
        simp only at x0 x1 x2 hlt1 hsn
        have HSN := Lib.hid hsn
        clear hrd hc c0 c1 c2 hsn
        go_wp2_with (at_builtin; refine app_i64 _ rfl _ _ rfl w2.heap.size _ _ _ rfl (HO.out.alloc _) _ _ rfl ?qg ?qn ?qb ?_)
        case qg => simp
        case qn => omega
        case qb => have := HB.out.size; simp; omega
        intro v' w3 hown hchg hfresh
        obtain ⟨sa', cap', rfl⟩ := (rd_of_row hown).form
        rw [← i64s_snoc, ← HSN.out] at hown
        have hbb : Below w2.heap.size w2 w3 := (HB.out.alloc HB.out.size _).trans (hchg.below (B := w2.heap.size) (by have := HB.out.size; simp; omega) fun i hi => (HO.out.lt i hi).1)
        have HO1 := Lib.hid hown; have HB3 := Lib.hid hbb
        clear hown hchg hfresh hbb
        go_wp2_with fail
        go_roundw
        case rel => exact ⟨j + 1, sa', cap', by omega, by go_num, rfl, HO1, HB3⟩
        case measure => simp [intOf]; omega
      · obtain rfl : j = k := by omega
        have hO := HO.out
        rw [List.take_of_length_le (by rw [HRL.out]; exact Nat.le_refl _)] at hO
        have hP := refpick_any wr n (.slice sc j cc) j (numsI r.1) (rd_of_row hO) (by omega) hk HSB.out
        have HP := Lib.hid hP
        clear hO hP
        go_wp2_with fail
        refine HP.out.mono ?_
        rintro e w4 ⟨sp, cp, rfl, hp, hb4⟩
        have HPO := Lib.hid hp; have HB4 := Lib.hid (below_two HB.out hb4)
        clear hp hb4
        go_wp2_with fail
        refine bodyPost_ret (v := .tuple #[.slice sp j cp, .slice sd j cd, .int .i64 (r.2 : Int), .bool true]) (by simp [results, Tryz.results29, go_sem]) rfl ⟨?_, below_two HB2.out HB4.out⟩
        rw [HROW.out]
        exact ⟨sp, cp, sd, cd, rfl, rd_of_row HPO.out, (rd_of_row HD.out).below HB4.out⟩

end Go.Proofs.YtcoohepkmhpdkaaGreat
