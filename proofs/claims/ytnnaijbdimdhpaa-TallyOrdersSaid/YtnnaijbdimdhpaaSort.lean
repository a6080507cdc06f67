/-
  slices.Sort, Index, Equal at []int in this proof's words; what Is answers, the program's and the reference's.
-/
import Derived.Test.YtnnaijbdimdhpaaShelf
import Derived.Test.YtnnaijbdimdhpaaBs
import Derived.Test.YtnnaijbdimdhpaaPl
namespace Go.Proofs.Ytnnaijbdimdhpaa
open Go.RowKit
set_option linter.unusedVariables false

/-- the cells of a row written anew (as function 98 leaves them) -/
theorem own_put {w : World} {B : Nat} {e : TypeId} {g n cap : Nat} {cs : List Value} (h : w.ownsRow B e 1 (.slice (some ⟨g, 0, none⟩) n cap) n cs) (l : List Int) (hl : l.length = n) (q : Nat) (os : Array Obj) :
    (Sort.grow (Sort.putRow (Value.int .i64) (Sort.ahead w q) g 0 l.toArray) os).ownsRow B e 1 (.slice (some ⟨g, 0, none⟩) n cap) n (i64s l) ∧ Chg (fun k => k = g) w (Sort.grow (Sort.putRow (Value.int .i64) (Sort.ahead w q) g 0 l.toArray) os) := by
  have hheap : (Sort.grow (Sort.putRow (Value.int .i64) (Sort.ahead w q) g 0 l.toArray) os).heap = w.heap.modify g (Sort.onCells (Sort.putCells (Value.int .i64) 0 l.toArray)) ++ os := rfl
  rcases h.2 with ⟨h0, _⟩ | ⟨g', cap', cur, hv, hb, hg, hc, hm, hs, ht⟩
  · cases h0
  · cases hv
    have hgl := block_lt hg
    have hnew : (Sort.grow (Sort.putRow (Value.int .i64) (Sort.ahead w q) g 0 l.toArray) os).heap[g]? = some (.cells (Sort.putCells (Value.int .i64) 0 l.toArray cur) e (0, 0)) := by
      rw [hheap, Array.getElem?_append_left (by simpa using hgl), Array.getElem?_modify, if_pos rfl, hg]
      rfl
    refine ⟨⟨by rw [i64s_len, hl, Nat.mul_one], .inr ⟨g, cap, _, rfl, hb, hnew, hc, hm, by simpa [Sort.putCells] using hs, ?_⟩⟩, ⟨rfl, rfl, rfl, by rw [hheap]; simp, fun k hk hs => ?_⟩⟩
    · refine List.ext_getElem? fun i => ?_
      rw [List.getElem?_take]
      by_cases hi : i < n * 1
      · rw [if_pos hi]
        have hin : i < n := by omega
        have hic : i < cur.size := by rw [hs]; omega
        simp only [Sort.putCells, Array.getElem?_toList, Array.getElem?_mapIdx, Array.getElem?_eq_getElem hic, Option.map_some]
        rw [if_pos ⟨Nat.zero_le _, by simp [hl, hin]⟩, i64s_at l i (by omega)]
        simp [List.getD, hl, hin]
      · rw [if_neg hi, List.getElem?_eq_none (by rw [i64s_len]; omega)]
    · rw [hheap, Array.getElem?_append_left (by simpa using hk), Array.getElem?_modify, if_neg (fun h => hs h.symm)]

theorem sort_own (w : World) (B : Nat) (v : Value) (n : Nat) (l : List Int) (h : w.ownsRow B 3 1 v n (i64s l)) (hbig : n ≤ 17592186043904) :
    Calls Try.prog 98 #[v] w fun e w' => e = .returned (.tuple #[]) ∧ w'.ownsRow B 3 1 v n (i64s (l.mergeSort fun x y => decide (x ≤ y))) ∧ Chg (fun k => v.ownBlock = some k) w w' := by
  have hr := rd_of_row h
  have hln := hr.len_i64
  subst hln
  obtain ⟨sa, cap, rfl⟩ := hr.form
  have hm := hr.2.1
  by_cases hn : 0 < l.length
  · obtain ⟨g, rfl, hg1, hg2, hg3, hcell, hfz⟩ := row_ptr h hn
    have hmx : l.length < 4611686018427387904 := by omega
    refine (Try.slices_Sort_int g 0 cap l w ?_ hg2 hmx).mono ?_
    · intro j hj
      have hj' : j < l.length := by simpa using hj
      rw [Nat.zero_add]
      refine ⟨?_, hfz j⟩
      rw [hcell j _ (i64s_at l j hj')]
      simp [List.getD, hj']
    · rintro e w' ⟨rfl, q, os, rfl⟩
      obtain ⟨h1, h2⟩ := own_put h (l.mergeSort fun x y => decide (x ≤ y)) (by rw [List.length_mergeSort]) q os
      exact ⟨rfl, h1, h2.mono fun k hk => by rw [hk]; rfl⟩
  · obtain rfl : l = [] := List.eq_nil_of_length_eq_zero (by omega)
    refine (Try.slices_Sort_int_none sa cap w).mono ?_
    rintro e w' ⟨rfl, rfl⟩
    exact ⟨rfl, by simpa using h, Chg.refl _ _⟩

theorem equal_rd (w : World) (va vb : Value) (n m : Nat) (a b : List Int) (ha : Rd w 1 va n (i64s a)) (hb : Rd w 1 vb m (i64s b)) :
    Calls Try.prog 75 #[va, vb] w fun e w' => e = .returned (.bool (eqL a b)) ∧ ∃ q, w' = w.drewN q := by
  have hln := ha.len_i64
  have hlm := hb.len_i64
  subst hln; subst hlm
  obtain ⟨sa, ca, rfl⟩ := ha.form
  obtain ⟨sb, cb, rfl⟩ := hb.form
  have hma := ha.2.1
  have hmb := hb.2.1
  unfold maxLen at hma hmb
  by_cases hl : a.length = b.length
  · by_cases hn : 0 < a.length
    · obtain ⟨b1, o1, rfl, hc1⟩ := ha.at hn
      obtain ⟨b2, o2, rfl, hc2⟩ := hb.at (by omega)
      refine (Try.slices_Equal_int b1 o1 a.length ca b2 o2 b.length cb a b w (Nat.le_refl _) (Nat.le_refl _) (by omega) (by omega) (fun j hj => hc1 j _ (i64s_at a j hj)) (fun j hj => hc2 j _ (i64s_at b j hj))).mono ?_
      rintro e w' ⟨rfl, q, rfl⟩
      refine ⟨ret_bool ?_, q, rfl⟩
      rw [List.take_length, List.take_length, Bool.eq_iff_iff, eqL_iff, beq_iff_eq]
    · obtain rfl : a = [] := List.eq_nil_of_length_eq_zero (by omega)
      obtain rfl : b = [] := List.eq_nil_of_length_eq_zero (by simpa using hl.symm)
      refine (Try.slices_Equal_int_empty sa sb ca 0 cb w (by omega)).mono ?_
      rintro e w' ⟨rfl, rfl⟩
      exact ⟨rfl, 0, rfl⟩
  · refine (Try.slices_Equal_int_lens sa sb a.length ca b.length cb w hl).mono ?_
    rintro e w' ⟨rfl, rfl⟩
    exact ⟨ret_bool (eqL_len hl).symm, 0, rfl⟩

theorem isPB_sort (l : List Int) : eqL (l.mergeSort fun x y => decide (x ≤ y)) (rowL l.length) = isPB l := by
  rw [Bool.eq_iff_iff, eqL_iff, isPB_iff, sort_row]

set_option maxRecDepth 100000 in
set_option maxHeartbeats 1000000 in
/-- the program's Is -/
theorem is_any (w : World) (v : Value) (n : Nat) (l : List Int) (h : Rd w 1 v n (i64s l)) (hbig : n ≤ 100000) :
    Calls Try.prog 74 #[v] w fun e w' => e = .returned (.bool (isPB l)) ∧ Below w.heap.size w w' := by
  have hln := h.len_i64
  subst hln
  obtain ⟨sa, cap, rfl⟩ := h.form
  have HR := Lib.hid h; clear h
  go_enter Try.func74, Try.ntmps74
  go_wp2_with (first
    | (go_at_call 97; go_must (refine (clone_i64 _ _ l _ HR.out (by omega)).mono ?_); rintro e w1 ⟨s1, c1, rfl, hown1, hb1⟩; have HO1 := Lib.hid hown1; have HB1 := Lib.hid hb1; clear hown1 hb1)
    | (go_at_call 98; go_must (refine (sort_own _ _ _ _ l HO1.out (by omega)).mono ?_); rintro e w2 ⟨rfl, hown2, hc2⟩; have HO2 := Lib.hid hown2; have HC2 := Lib.hid hc2; clear hown2 hc2)
    | (go_at_call 94; go_must (refine (shufrow_any _ l.length (by omega)).mono ?_); rintro e w3 ⟨s3, c3, rfl, hown3, hb3⟩; have HO3 := Lib.hid hown3; have HB3 := Lib.hid hb3; clear hown3 hb3)
    | (go_at_call 75; go_must (refine (equal_rd _ _ _ _ _ _ _ ((rd_of_row HO2.out).below HB3.out) (rd_of_row HO3.out)).mono ?_); rintro e w4 ⟨rfl, q4, rfl⟩))
  go_ret
  refine ⟨ret_bool (isPB_sort l), HB1.out.trans ((HC2.out.below HB1.out.size fun k hk => (HO1.out.lt k hk).1).trans ?_)⟩
  exact (below_drewN' HB3.out q4).mono (Nat.le_trans HB1.out.size HC2.out.size)

theorem isPB_not {p : List Int} (i : Nat) (hi : i < p.length) (h : p.count (i : Int) ≠ 1) : isPB p = false := by
  rw [Bool.eq_false_iff, Ne, isPB_iff, ← count_row]
  exact fun hh => h (hh i hi)
theorem isPB_all {p : List Int} (h : ∀ i, i < p.length → p.count (i : Int) = 1) : isPB p = true := isPB_iff.2 (count_row.1 h)
theorem count_take (p : List Int) (j : Nat) (x : Int) (h : j < p.length) : (p.take (j + 1)).count x = (p.take j).count x + if p.getD j 0 = x then 1 else 0 := by
  rw [List.take_succ_eq_append_getElem h, List.count_append]
  simp [List.getD, List.getElem?_eq_getElem h, List.count_singleton]
theorem count_le (p : List Int) (j : Nat) (x : Int) : (p.take j).count x ≤ p.length := Nat.le_trans List.count_le_length (by rw [List.length_take]; omega)

set_option maxRecDepth 100000 in
set_option maxHeartbeats 2000000 in
/-- the reference's Is -/
theorem refis_any (w : World) (v : Value) (n : Nat) (l : List Int) (h : Rd w 1 v n (i64s l)) (hbig : n ≤ 100000) :
    Calls Try.prog 41 #[v] w fun e w' => e = .returned (.bool (isPB l)) ∧ w = w' := by
  have hln := h.len_i64
  subst hln
  obtain ⟨sa, cap, rfl⟩ := h.form
  have HR := Lib.hid h; clear h
  go_enter Try.func41, Try.ntmps41
  go_wp2
  go_loop [9] (fun i => ∃ s : Nat, s ≤ l.length ∧ i = .int .i64 s ∧ Hid (∀ t, t < s → l.count (t : Int) = 1)) (fun i => l.length - (intOf i).toNat)
  case atStart => exact ⟨0, Nat.zero_le _, rfl, fun t ht => by omega⟩
  case round =>
    obtain ⟨s, hs, rfl, HS⟩ := hrel
    by_cases hlt : s < l.length
    · go_wp2
      go_loop [4, 14] (fun c i => ∃ j : Nat, j ≤ l.length ∧ i = .int .i64 j ∧ c = .int .i64 ((l.take j).count (s : Int) : Nat)) (fun _ i => l.length - (intOf i).toNat)
      case atStart => exact ⟨0, Nat.zero_le _, rfl, by simp⟩
      case round =>
        obtain ⟨j, hj, rfl, rfl⟩ := hrel
        by_cases hjt : j < l.length
        · obtain ⟨b, off, rfl, hc⟩ := HR.out.at (by omega)
          have cx := hc j _ (i64s_at l j hjt)
          have hstep := count_take l j (s : Int) hjt
          have hcl := count_le l j (s : Int)
          clear hc
          generalize hx : l.getD j 0 = x at *
          have HX := Lib.hid hx; clear hx
          by_cases hxs : x = (s : Int)
          · have q : (x == (s : Int)) = true := by simp [hxs]
            rw [if_pos hxs] at hstep
            have HP := Lib.hid hstep; clear hxs hstep
            go_wp2
            go_round
            case rel => exact ⟨j + 1, by omega, by go_num, by rw [HP.out]; go_num⟩
            case measure => simp [intOf]; omega
          · have q : (x == (s : Int)) = false := by simp [hxs]
            rw [if_neg hxs] at hstep
            have HP := Lib.hid hstep; clear hxs hstep
            go_wp2
            go_round
            case rel => exact ⟨j + 1, by omega, by go_num, by rw [HP.out]; rfl⟩
            case measure => simp [intOf]; omega
        · obtain rfl : j = l.length := by omega
          have ht : (l.take l.length).count (s : Int) = l.count (s : Int) := by rw [List.take_length]
          generalize hc : (l.take l.length).count (s : Int) = c at *
          by_cases h1 : c = 1
          · have q : ((c : Int) != 1) = false := by simp [h1]
            have HC := Lib.hid h1; have HT := Lib.hid ht; clear h1 ht hc
            go_wp2
            go_round
            case rel =>
              refine ⟨s + 1, by omega, by go_num, fun t htt => ?_⟩
              by_cases hts : t = s
              · subst hts; rw [← HT.out]; exact HC.out
              · exact HS.out t (by omega)
            case measure => simp [intOf]; omega
          · have q : ((c : Int) != 1) = true := by simp; omega
            have HC := Lib.hid h1; have HT := Lib.hid ht; clear h1 ht hc
            go_wp2
            go_ret
            exact ⟨ret_bool (isPB_not s hlt (by rw [← HT.out]; exact HC.out)).symm, rfl⟩
    · obtain rfl : s = l.length := by omega
      go_wp2
      go_ret
      exact ⟨ret_bool (isPB_all HS.out).symm, rfl⟩

end Go.Proofs.Ytnnaijbdimdhpaa
