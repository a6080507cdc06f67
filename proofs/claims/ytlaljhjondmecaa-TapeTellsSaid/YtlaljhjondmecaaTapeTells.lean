/-
  TapeTells: any words, one by one, in order, and then no more.
-/
import Derived.Test.YtlaljhjondmecaaTape
import Derived.Test.YtlaljhjondmecaaWords
import Derived.Test.YtlaljhjondmecaaOrder
namespace Go.Proofs.Ytlaljhjondmecaa
open Go.RowKit
set_option linter.unusedVariables false

set_option maxRecDepth 100000 in
set_option maxHeartbeats 2000000 in
theorem awake37 (w : World) : Calls Try.prog 15 #[] w fun e w' => e = .returned (.bool true) ∧ Below w.heap.size w w' := by
  go_enter Try.func15, Try.ntmps15
  go_wp2_with fail
  refine (new_any _ _ [7] (rd_new w #[.int .u64 7] _ 1 1 rfl (by decide) _ _ rfl (by decide)) (by decide)).mono ?_
  rintro e w1 ⟨b, wv, rfl, ht, hb1⟩
  have HT := Lib.hid ht; have HB := Lib.hid hb1; clear ht hb1
  go_wp2_with fail
  refine (next_some _ _ _ _ _ _ 0 HT.out (by decide) (by decide)).mono ?_
  rintro e w2 ⟨tv, rfl, ht2, hc, hf⟩
  have HT2 := Lib.hid ht2; have HC := Lib.hid hc; have HF := Lib.hid hf; clear ht2 hc hf
  go_wp2_with fail
  refine (next_none _ _ _ _ _ [7] HT2.out).mono ?_
  rintro e w3 ⟨rfl, rfl⟩
  go_wp2_with (go_at_call 63; refine (used_any _ _ _ _ _ _ _ HT2.out (by decide)).mono ?_; rintro e w3 ⟨rfl, rfl⟩)
  go_ret
  have hsz : w.heap.size ≤ w1.heap.size := by have := HB.out.size; simp at this; omega
  have hb0 : w.heap.size + 1 ≤ b := by have := HT.out.2.1; simpa using this
  refine ⟨rfl, ((((Below.refl _ w).alloc (Nat.le_refl _) _).trans (HB.out.mono (by simp))).trans (HC.out.below hsz fun k hk => ?_))⟩
  rcases hk with rfl | hk
  · omega
  · cases hk

set_option maxRecDepth 100000 in
set_option maxHeartbeats 2000000 in
theorem taken37 (w0 w : World) (b : Nat) (wv : Value) (v : Value) (l : List Int) (hr : Rd w0 1 v l.length (u64s l)) (h0 : Below w0.heap.size w0 w) (ht : TapeAt w w0.heap.size b wv (.slice none 0 0) l 0) (hl : l.length < 50000) :
    Calls Try.prog 16 #[.pointer (some ⟨b, 0, none⟩), v] w fun e w' => e = .returned (.bool true) ∧ Below w0.heap.size w0 w' := by
  obtain ⟨sa, ca, rfl⟩ := hr.form
  have HR := Lib.hid hr; have H0 := Lib.hid h0; have HT := Lib.hid ht
  clear hr h0 ht
  go_enter Try.func16, Try.ntmps16
  go_wp2
  go_loopw [13] (fun i wr => ∃ (k : Nat) (tv : Value), k ≤ l.length ∧ i = .int .i64 k ∧ Hid (TapeAt wr w0.heap.size b wv tv l k) ∧ Hid (Below w0.heap.size w0 wr)) (fun i _ => l.length - (intOf i).toNat)
  case atStart => exact ⟨0, _, Nat.zero_le _, rfl, HT, H0⟩
  case round =>
    obtain ⟨k, tv, hk, rfl, HTk, HBk⟩ := hrel
    by_cases hlt : k < l.length
    · have hr := HR.out.below HBk.out
      obtain ⟨gb, off, rfl, hc⟩ := hr.at (by omega)
      have cx := hc k _ (u64s_at l k hlt)
      have hkc : (k : Int) ≤ (ca : Int) := by have := hr.cap_le; omega
      have HRk := Lib.hid hr; clear hr hc
      have q1 : ((k : Int) != (k : Int)) = false := by simp
      have q2 : (((l.length : Int) - (k : Int)) != ((l.length : Int) - (k : Int))) = false := by simp
      generalize hx : l.getD k 0 = x at *
      have HX := Lib.hid hx; clear hx
      go_wp2_with fail
      refine wp_region_mix [(true, 0), (true, 2), (false, 1), (false, 3), (false, 4), (true, 5), (true, 7), (true, 8), (true, 9), (true, 10), (false, 6), (false, 11), (false, 12), (false, 13), (true, 14), (true, 16), (true, 17), (true, 18), (false, 15), (false, 19), (false, 20), (false, 21)] (by kernel_rfl) (by kernel_rfl) ?_
      change wpMix _ _ _ [_, _, _, _, _, _, _, _, _, _, _, _, _, _, _, _, _, _, _, _, _, _] _ _
      repeat (first
        | (refine mix_take (by rfl) (fun K hK => ⟨_, fun w' => by go_simp; with_reducible rfl, ?_⟩); go_simp; refine hK _ _ ?_; clear hK K)
        | (refine mix_skip (by rfl) (fun K hK => ?_); go_simp; refine hK _ _ ?_; clear hK K)
        | (refine mix_only (by rfl) (fun K hK => ?_); go_wp2_with (first
          | (go_at_call 63; refine (used_any _ _ _ _ _ _ _ (by exact HTk.out) hl).mono ?_; rintro e w3 ⟨rfl, rfl⟩)
          | (go_at_call 64; refine (left_any _ _ _ _ _ _ _ (by exact HTk.out)).mono ?_; rintro e w3 ⟨rfl, rfl⟩)
          | (go_at_call 66; refine (taken_any _ _ _ _ _ _ _ (by exact HTk.out) hl).mono ?_; rintro e w3 ⟨sv, cv, rfl, hown3, hb3⟩; have HO3 := Lib.hid hown3; have HB3 := Lib.hid hb3; clear hown3 hb3)
          | (go_at_call 65; go_must (refine (words_any _ _ _ _ _ _ _ (rd_of_row HO3.out) (by exact (Rd.below (w := wr.drew) HRk.out HB3.out).to_u64 (by omega) _ (by omega)) (by omega) (by omega)).mono ?_); rintro e w4 ⟨rfl, n4, rfl⟩; simp only [eqL_self]))))
      refine mix_nil ?_
      have ht4 : TapeAt (w3.drewN n4) w0.heap.size b wv tv l k := TapeAt.below (w := wr.drew) HTk.out (below_drewN' HB3.out n4)
      have hb4 : Below w0.heap.size w0 (w3.drewN n4) := HBk.out.drew.trans ((below_drewN' HB3.out n4).mono HBk.out.size)
      have HT4 := Lib.hid ht4; have HB4 := Lib.hid hb4; clear ht4 hb4
      have q3 : (x != x) = false := by simp
      go_wp2_with (go_at_call 62; go_must (refine (next_some _ _ _ _ _ _ _ HT4.out hlt hl).mono ?_); rintro e w5 ⟨tv', rfl, ht5, hc5, hf5⟩; rw [HX.out]; have HT5 := Lib.hid ht5; have HC5 := Lib.hid hc5; clear ht5 hc5 hf5)
      go_roundw
      case rel =>
        refine ⟨k + 1, tv', by omega, by go_num, HT5, ?_⟩
        refine HB4.out.trans (HC5.out.below HB4.out.size fun i hi => ?_)
        obtain ⟨-, hB, -, -, hown, -⟩ := HT4.out
        rcases hi with rfl | hi
        · exact hB
        · exact (hown.lt i hi).1
      case measure => simp [intOf]; omega
    · obtain rfl : k = l.length := by omega
      have q4 : ((l.length : Int) == (l.length : Int)) = true := by simp
      have q5 : (((l.length : Int) - (l.length : Int)) == 0) = true := by simp
      have hlen : l.take l.length = l := List.take_length
      have HL := Lib.hid hlen; clear hlen
      go_wp2_with (first
          | (go_at_call 62; go_must (refine (next_none _ _ _ _ _ _ HTk.out).mono ?_); rintro e w3 ⟨rfl, rfl⟩)
          | (go_at_call 63; go_must (refine (used_any _ _ _ _ _ _ _ HTk.out hl).mono ?_); rintro e w3 ⟨rfl, rfl⟩)
          | (go_at_call 64; go_must (refine (left_any _ _ _ _ _ _ _ HTk.out).mono ?_); rintro e w3 ⟨rfl, rfl⟩)
          | (go_at_call 66; go_must (refine (taken_any _ _ _ _ _ _ _ HTk.out hl).mono ?_); rintro e w3 ⟨sv, cv, rfl, hown3, hb3⟩; rw [HL.out] at hown3; have HO3 := Lib.hid hown3; have HB3 := Lib.hid hb3; clear hown3 hb3)
          | (go_at_call 65; go_must (refine (words_any _ _ _ _ _ _ _ (rd_of_row HO3.out) ((HR.out.below HBk.out).below HB3.out) (by omega) (by omega)).mono ?_); rintro e w4 ⟨rfl, n4, rfl⟩; simp only [eqL_self]))
      go_ret
      exact ⟨rfl, HBk.out.trans ((below_drewN' HB3.out n4).mono HBk.out.size)⟩

set_option maxRecDepth 100000 in
set_option maxHeartbeats 2000000 in
theorem law_TapeTells (w : World) (v : Value) (n : Nat) (l : List Int) (hr : Rd w 1 v n (u64s l)) :
    Calls Try.prog 3 #[v] w fun e w' => e = .returned (.bool true) ∧ Below w.heap.size w w' := by
  obtain rfl := hr.len_u64
  obtain ⟨sa, ca, rfl⟩ := hr.form
  have HR := Lib.hid hr; clear hr
  by_cases hl : 200 < l.length
  · go_enter Try.func3, Try.ntmps3
    go_wp2_with (go_at_call 15; refine (awake37 _).mono ?_; rintro e w1 ⟨rfl, hb1⟩; have HB1 := Lib.hid hb1; clear hb1)
    go_ret
    exact ⟨rfl, HB1.out⟩
  · go_enter Try.func3, Try.ntmps3
    go_wp2_with (first
      | (go_at_call 15; refine (awake37 _).mono ?_; rintro e w1 ⟨rfl, hb1⟩; have HB1 := Lib.hid hb1; clear hb1)
      | (go_at_call 17; refine (new_any _ _ l (HR.out.below HB1.out) (by omega)).mono ?_; rintro e w2 ⟨b, wv, rfl, ht2, hb2⟩; have HT2 := Lib.hid ht2; have HB2 := Lib.hid hb2; clear ht2 hb2)
      | (go_at_call 16; go_must (refine (taken37 w1 _ _ _ _ l (HR.out.below HB1.out) HB2.out HT2.out (by omega)).mono ?_); rintro e w3 ⟨rfl, hb3⟩; have HB3 := Lib.hid hb3; clear hb3))
    go_ret
    exact ⟨rfl, HB1.out.trans (HB3.out.mono HB1.out.size)⟩

end Go.Proofs.Ytlaljhjondmecaa
