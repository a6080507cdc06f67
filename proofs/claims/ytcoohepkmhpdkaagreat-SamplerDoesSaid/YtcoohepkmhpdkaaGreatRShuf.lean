/-
  The reference's order that words tell: Limits, Take.
-/
import Derived.Test.YtcoohepkmhpdkaaGreatHTake
namespace Go.Proofs.YtcoohepkmhpdkaaGreat
open Go.RowKit
set_option linter.unusedVariables false

set_option maxRecDepth 100000 in
set_option maxHeartbeats 1000000 in
theorem rlim40_any (w : World) (n : Nat) (hn : n ≤ 50000) :
    Calls Tryz.prog 67 #[.int .i64 (n : Int)] w fun e w' => ∃ sa cap, e = .returned (.slice sa (n - 1) cap) ∧ w'.ownsRow w.heap.size 48 1 (.slice sa (n - 1) cap) (n - 1) (u64s (zsN (limH n))) ∧ Below w.heap.size w w' := by
  obtain ⟨N, hN⟩ : ∃ N, N = n - 1 := ⟨_, rfl⟩
  have HNK := Lib.hid hN
  rw [← hN]
  clear hN
  go_enter Tryz.func67, Tryz.ntmps67
  go_wp2
  go_loopw [3, 4] (fun v s wr => ∃ (i j : Nat) (sa : Option Addr) (cap : Nat), i ≤ n ∧ s = .int .i64 i ∧ v = .slice sa j cap ∧ j ≤ 50000 ∧ Hid (i = n - j) ∧ Hid (j ≤ n - 1) ∧ Hid (wr.ownsRow w.heap.size 48 1 (.slice sa j cap) j (u64s (zsN ((limH n).take j)))) ∧ Hid (Below w.heap.size w wr)) (fun _ i _ => (intOf i).toNat)
  case atStart => exact ⟨n, 0, none, 0, Nat.le_refl _, rfl, rfl, by omega, Lib.hid rfl, Lib.hid (Nat.zero_le _), World.ownsRow_nil _ _ _ _, Below.refl _ _⟩
  case round =>
    obtain ⟨i, j, sa, cap, hj, rfl, rfl, hj2, HIJ, HJN, HO, HB⟩ := hrel
    by_cases hlt : 2 ≤ i
    · have hij := HIJ.out
      have hjk : j < n - 1 := by omega
      have hs : (limH n).take (j + 1) = (limH n).take j ++ [i] := by
        rw [List.take_succ_eq_append_getElem (by rw [limH_len]; exact hjk)]
        have h1 := limH_get hjk
        rw [List.getD_eq_getElem?_getD, List.getElem?_eq_getElem (by rw [limH_len]; exact hjk)] at h1
        simp only [Option.getD_some] at h1
        rw [h1, hij]
      obtain ⟨q, rfl⟩ : ∃ q, i = q + 1 := ⟨i - 1, by omega⟩
      have HS := Lib.hid hs
      have HJK := Lib.hid (show j + 1 ≤ n - 1 by omega)
      have HQ := Lib.hid (show q = n - (j + 1) by omega)
      clear hs hij hjk
      go_wp2_with (at_builtin; refine app_u64 _ rfl _ _ rfl w.heap.size _ _ _ rfl HO.out _ _ rfl ?qg ?qn ?qb ?_)
      case qg => rfl
      case qn => omega
      case qb => exact HB.out.size
      intro v' w1 hown hchg hfresh
      obtain ⟨sa', cap', rfl⟩ := (rd_of_row hown).form
      have hcast : ((q : Int) + 1) = ((q + 1 : Nat) : Int) := by omega
      rw [hcast, ← u64s_snoc, ← zsN_snoc, ← HS.out] at hown
      have HO1 := Lib.hid hown; have HC1 := Lib.hid hchg
      clear hown hchg hfresh hcast
      go_wp2
      go_roundw
      case rel => exact ⟨q, j + 1, sa', cap', by omega, by go_num, rfl, by have := HJK.out; omega, HQ, HJK, HO1, HB.out.trans (HC1.out.below HB.out.size fun i hi => (HO.out.lt i hi).1)⟩
      case measure => simp [intOf]
    · have hjk : j = N := by have := HIJ.out; have := HNK.out; have := HJN.out; omega
      subst hjk
      have hO := HO.out
      rw [List.take_of_length_le (by rw [limH_len]; have := HNK.out; omega)] at hO
      have HO' := Lib.hid hO; clear hO
      go_wp2
      go_ret
      exact ⟨sa, cap, rfl, HO'.out, HB.out⟩

set_option maxRecDepth 100000 in
set_option maxHeartbeats 4000000 in
theorem rtake40_any (w : World) (v : Value) (m : Nat) (l : List Nat) (n : Nat) (hr : Rd w 1 v m (u64s (zsN l))) (hm : m < 50000) (hw : W64 l) (hn : n ≤ 256) :
    Calls Tryz.prog 27 #[v, .int .i64 (n : Int)] w fun e w' => TkE (rowN l (limH n))
      (fun r => ∃ sp cp sd cd, e = .returned (.tuple #[.slice sp n cp, .slice sd (n - 1) cd, .int .i64 (r.2 : Int), .bool true]) ∧ w'.ownsRow w.heap.size 3 1 (.slice sp n cp) n (i64s (permL (choD n r.1))) ∧ Rd w' 3 (.slice sd (n - 1) cd) (n - 1) (dwC r.1))
      (e = .returned (.tuple #[.slice none 0 0, .slice none 0 0, .int .i64 (l.length : Int), .bool false])) ∧ Below w.heap.size w w' := by
  obtain rfl := hr.len_u64
  rw [zsN_len] at *
  obtain ⟨sa, cap, rfl⟩ := hr.form
  obtain ⟨N, hN⟩ : ∃ N, N = n - 1 := ⟨_, rfl⟩
  have hL := rlim40_any w n (by omega)
  rw [← hN] at hL ⊢
  have hN256 : N ≤ 256 := by omega
  have HL0 := Lib.hid hL
  have HNK := Lib.hid hN; clear hN hL
  have HR := Lib.hid hr; have HW := Lib.hid hw
  clear hr hw
  go_enter Tryz.func27, Tryz.ntmps27
  go_wp2_with fail
  refine HL0.out.mono ?_
  rintro e w1 ⟨sl, cl, rfl, hown, hb1⟩
  have HL := Lib.hid hown; have HB1 := Lib.hid hb1
  clear hown hb1
  go_wp2_with fail
  refine (rrow_any w1 _ _ l.length N l (limH n) (HR.out.below HB1.out) (rd_of_row HL.out) hm (by omega) HW.out (limH_ok (by omega))).mono ?_
  rintro e w2 ⟨he, hb2⟩
  have HB2 := Lib.hid (below_two HB1.out hb2)
  cases hrow : rowN l (limH n) with
  | none =>
    rw [hrow] at he
    obtain rfl : e = .returned (.tuple #[.slice none 0 0, .int .i64 (l.length : Int), .bool false]) := he
    have HROW := Lib.hid hrow
    clear hb2 hrow
    go_wp2_with fail
    refine bodyPost_ret (v := .tuple #[.slice none 0 0, .slice none 0 0, .int .i64 (l.length : Int), .bool false]) (by simp [results, Tryz.results27, go_sem]) rfl ⟨?_, HB2.out⟩
    rw [HROW.out]
    exact (rfl : _ = _)
  | some r =>
    rw [hrow] at he
    obtain ⟨sd, cd, rfl, hd⟩ := he
    obtain ⟨hrl, hsb⟩ := choD_right HW.out (by omega) hrow
    rw [← HNK.out] at hrl
    rw [hrl] at hd ⊢
    have hd' : w2.ownsRow w.heap.size 65 3 (.slice sd N cd) N (dwC r.1) := row_mono hd HB1.out.size
    have hlts : ∀ j, j < N → (r.1.getD j dwZ).1 < n - j := fun j hj => by
      have := rowA_lt HW.out (limH_ok (by omega)) hrow j (by rw [limH_len, ← HNK.out]; exact hj)
      rw [limH_get (by rw [← HNK.out]; exact hj)] at this
      simpa using this
    have HROW := Lib.hid hrow
    have HD := Lib.hid hd'; have HRL := Lib.hid hrl; have HSB := Lib.hid hsb; have HLT := Lib.hid hlts
    clear hb2 hrow hd hd' hrl hsb hlts
    go_wp2_with fail
    refine (refrow_any w2 n (by omega)).mono ?_
    rintro e w3 ⟨sc, cc, rfl, hc3, hb3⟩
    have hz : rowL n = choH (fun j => (j : Int)) n (r.1.take 0) := by
      rw [List.take_zero, choH_nil]; rfl
    rw [hz] at hc3
    have HC3 := Lib.hid hc3; have HB3 := Lib.hid hb3
    clear hc3 hb3 hz
    go_wp2_with fail
    go_loopw [29] (fun i wr => ∃ (j : Nat), j ≤ N ∧ i = .int .i64 j ∧ Hid (wr.ownsRow w2.heap.size 3 1 (.slice sc n cc) n (i64s (choH (fun j => (j : Int)) n (r.1.take j)))) ∧ Hid (Below w2.heap.size w2 wr)) (fun i _ => N - (intOf i).toNat)
    case atStart => exact ⟨0, Nat.zero_le _, rfl, HC3, HB3⟩
    case round =>
      obtain ⟨j, hj, rfl, HO, HB⟩ := hrel
      by_cases hlt : j < N
      · have hrd := (rd_of_row HD.out).below HB.out
        obtain ⟨bb, off, rfl, hc⟩ := hrd.at (by omega)
        obtain ⟨c0, c1, c2⟩ := dwC_at r.1 j (by rw [HRL.out]; exact hlt)
        have x0 := hc _ _ c0
        have x1 := hc _ _ c1
        have x2 := hc _ _ c2
        rw [← Nat.add_assoc] at x1 x2
        have hnk := HNK.out
        obtain ⟨q, hq⟩ : ∃ q, q = n - 1 - j := ⟨_, rfl⟩
        have hsn : choH (fun j => (j : Int)) n (r.1.take (j + 1)) = (choH (fun j => (j : Int)) n (r.1.take j)).set q ((r.1.getD j dwZ).1 : Int) := by
          have hjl : j < r.1.length := by rw [HRL.out]; exact hlt
          have htl : (r.1.take j).length = j := by rw [List.length_take]; omega
          rw [List.take_succ_eq_append_getElem hjl, choH_snoc _ _ (by rw [htl]; omega), htl, hq]
          simp [List.getD, List.getElem?_eq_getElem hjl]
        have hlt1 : (r.1.getD j dwZ).1 ≤ 256 := by have := HLT.out j hlt; omega
        obtain ⟨g', hs3, hh1, hh2, hh3, hcell3, hfz3⟩ := row_ptr HO.out (by omega)
        subst hs3
        have hqn : q < n := by omega
        have xq := hcell3 q _ (i64s_at _ q (by rw [choH_len]; exact hqn))
        have fq := hfz3 q
        have e1 : ((n : Int) - 1 - (j : Int)) = (q : Int) := by omega
        have hq0 : (0 : Int) ≤ (q : Int) := by omega
        have hqi : (q : Int) < (n : Int) := by omega
        generalize (choH (fun j => (j : Int)) n (r.1.take j)).getD q 0 = old at xq
        generalize r.1.getD j dwZ = d at *
        obtain ⟨d1, d2, d3⟩ := d
        simp only at x0 x1 x2 hlt1 hsn
        have hset := row_set HO.out hqn (.int .i64 (d1 : Int))
        rw [← i64s_set, ← hsn] at hset
        have HSET := Lib.hid hset
        have HGB := Lib.hid hh1
        clear hrd hc c0 c1 c2 hsn hcell3 hfz3 hset hh1 hh3 hq hnk
        go_wp2_with fail
        go_roundw
        case rel => exact ⟨j + 1, by omega, by go_num, HSET.out.alloc _, Lib.hid ((HB.out.setCell (p := ⟨g', q, none⟩) HGB.out _).alloc (by have := HB.out.size; simpa [World.setCell] using this) _)⟩
        case measure => simp [intOf]; omega
      · obtain rfl : j = N := by omega
        have hO := HO.out
        rw [List.take_of_length_le (by rw [HRL.out]; exact Nat.le_refl _), choH_full (fun j => (j : Int)) (fun _ => 0) (by rw [HRL.out, HNK.out]) rfl] at hO
        have hP := refperm_any wr (.slice sc n cc) n (choD n r.1) (rd_of_row hO) (by omega) HSB.out
        have HP := Lib.hid hP
        clear hO hP
        go_wp2_with fail
        refine HP.out.mono ?_
        rintro e w4 ⟨sp, cp, rfl, hp, hb4⟩
        have HPO := Lib.hid (row_mono hp (Nat.le_trans HB2.out.size HB.out.size)); have HB4 := Lib.hid (below_two HB.out hb4)
        clear hp hb4
        go_wp2_with fail
        refine bodyPost_ret (v := .tuple #[.slice sp n cp, .slice sd j cd, .int .i64 (r.2 : Int), .bool true]) (by simp [results, Tryz.results27, go_sem]) rfl ⟨?_, below_two HB2.out HB4.out⟩
        rw [HROW.out]
        exact ⟨sp, cp, sd, cd, rfl, HPO.out, (rd_of_row HD.out).below HB4.out⟩

end Go.Proofs.YtcoohepkmhpdkaaGreat
