/-
  The reference's Slots: of the decisions that go on from some, how many leave a set.
-/
import Derived.Test.YtnnaijbdimdhpaaTly24
namespace Go.Proofs.Ytnnaijbdimdhpaa
open Go.RowKit Go.Shelf
set_option linter.unusedVariables false

/-- of the decisions that go on from some, how many leave a set -/
def cntS (n k : Nat) (s : Nat) (d : List Int) : Nat := ((allL (upI (k + d.length + 1) n)).map fun e => sumP (slotsR k (d ++ e))).count s
theorem cntS_end {n k : Nat} (s : Nat) {d : List Int} (h : n ≤ k + d.length) : cntS n k s d = if sumP (slotsR k d) = s then 1 else 0 := by
  unfold cntS
  rw [upI_nil (by omega)]
  simp only [allL, List.map_cons, List.map_nil, List.append_nil, List.count_singleton]
  simp
theorem cntS_step {n k : Nat} (s : Nat) {d : List Int} (h : k + d.length < n) : cntS n k s d = sumB (fun x => cntS n k s (d ++ [(x : Int)])) (k + d.length + 1) := by
  unfold cntS
  rw [upI_cons (by omega)]
  simp only [allL, Int.toNat_natCast, List.map_flatMap, List.map_map]
  rw [count_flatMap]
  refine sumB_congr _ fun x _ => ?_
  simp only [List.length_append, List.length_cons, List.length_nil, Nat.zero_add]
  rw [show k + (d.length + 1) + 1 = k + d.length + 1 + 1 by omega]
  congr 1
  apply List.map_congr_left
  intro e _
  simp
theorem allL_len_le {b : Nat} : ∀ l : List Int, (∀ x ∈ l, x ≤ (b : Int)) → (allL l).length ≤ b ^ l.length
  | [], _ => by simp [allL]
  | x :: l, h => by
    have h1 := allL_len_le l fun y hy => h y (List.mem_cons_of_mem _ hy)
    have hx := h x List.mem_cons_self
    simp only [allL, List.length_flatMap, List.length_map, List.map_const', List.sum_replicate_nat, List.length_range, List.length_cons]
    rw [Nat.pow_succ, Nat.mul_comm]
    exact Nat.mul_le_mul h1 (by omega)
theorem upI_le {k n : Nat} : ∀ x ∈ upI k n, x ≤ (n : Int) := by
  intro x hx
  obtain ⟨i, hi, rfl⟩ := List.mem_map.1 hx
  have := List.mem_range.1 hi
  omega
theorem cntS_le {n k s : Nat} {d : List Int} (hn : n ≤ 6) : cntS n k s d ≤ 46656 := by
  unfold cntS
  refine Nat.le_trans List.count_le_length ?_
  rw [List.length_map]
  refine Nat.le_trans (allL_len_le (b := 6) _ fun x hx => by have := upI_le x hx; omega) ?_
  exact Nat.le_trans (Nat.pow_le_pow_right (n := 6) (j := 6) (by omega) (by rw [upI_len]; omega)) (by decide)
theorem sumB_le_of {f : Nat → Nat} {m n : Nat} (h : m ≤ n) : sumB f m ≤ sumB f n := by
  obtain ⟨d, rfl⟩ : ∃ d, n = m + d := ⟨n - m, by omega⟩
  rw [sumB_split]; omega

theorem slotAt_bd (k s : Nat) (d : List Int) (hs : s < k) : ∃ m : Nat, slotAt k s d = m ∧ m < k + d.length := by
  unfold slotAt
  refine foldI_ind (fun cur i x => if x = (s : Int) then (k : Int) + i else cur) (s : Int) (fun l a => ∃ m : Nat, a = m ∧ m < k + l.length) ⟨s, rfl, by simp; omega⟩ ?_ d
  rintro l x a ⟨m, rfl, hm⟩
  rw [List.length_append]
  split
  · exact ⟨k + l.length, by omega, by simp⟩
  · exact ⟨m, rfl, by omega⟩
theorem slotsR_bd {k : Nat} {d : List Int} {x : Int} (h : x ∈ slotsR k d) : ∃ m : Nat, x = m ∧ m < k + d.length := by
  unfold slotsR at h
  obtain ⟨s, hs, rfl⟩ := List.mem_map.1 h
  exact slotAt_bd k s d (List.mem_range.1 hs)
theorem slotsR_len (k : Nat) (d : List Int) : (slotsR k d).length = k := by simp [slotsR]
theorem sumP_snoc (l : List Int) (x : Int) : sumP (l ++ [x]) = sumP l + 2 ^ x.toNat := by simp [sumP, List.foldl_append]
theorem sumP_le : ∀ (q : Nat) (l : List Int), l.length = q → (∀ x ∈ l, x.toNat ≤ 6) → sumP l ≤ 64 * q := by
  intro q
  induction q with
  | zero => intro l h _; rw [List.length_eq_zero_iff.1 h]; simp [sumP]
  | succ q ih =>
    intro l h hb
    have hne : l ≠ [] := by rintro rfl; simp at h
    have hl := List.dropLast_concat_getLast hne
    rw [← hl, sumP_snoc]
    have h1 := ih l.dropLast (by rw [List.length_dropLast]; omega) fun x hx => hb x (List.dropLast_subset _ hx)
    have h2 : 2 ^ (l.getLast hne).toNat ≤ 2 ^ 6 := Nat.pow_le_pow_right (by omega) (hb _ (List.getLast_mem hne))
    omega

set_option maxRecDepth 100000 in
set_option maxHeartbeats 2000000 in
theorem refSlots_any (n k s : Nat) (hn : n ≤ 6) (hk : k ≤ n) (hs64 : s < 18446744073709551616) : ∀ (f : Nat) (d : List Int) (v : Value) (w : World), k + d.length + f = n → Rd w 1 v d.length (i64s d) →
    Calls Try.prog 30 #[.int .i64 n, .int .i64 k, v, .int .u64 s] w fun e w' => e = .returned (.int .u64 (cntS n k s d)) ∧ Below w.heap.size w w' := by
  intro f
  induction f with
  | zero =>
    intro d v w hf hr
    obtain ⟨sd, cd, rfl⟩ := hr.form
    have hS := refslots_any w n k _ d.length d hr (by omega) (by omega)
    have heq : ((d.length : Int) == (n : Int) - (k : Int)) = true := by rw [beq_iff_eq]; omega
    have hbd : ∀ x ∈ slotsR k d, ∃ m : Nat, x = m ∧ m < 6 := by
      intro x hx
      obtain ⟨m, h1, h2⟩ := slotsR_bd hx
      exact ⟨m, h1, by omega⟩
    obtain ⟨C, hC⟩ : ∃ C, C = cntS n k s d := ⟨_, rfl⟩
    have hC2 := cntS_end s (d := d) (show n ≤ k + d.length by omega)
    rw [← hC] at hC2 ⊢
    have hlen := slotsR_len k d
    obtain ⟨L, hL⟩ : ∃ L, L = slotsR k d := ⟨_, rfl⟩
    rw [← hL] at hS hbd hC2 hlen
    have HBD := Lib.hid hbd
    have HC := Lib.hid hC2
    have HL := Lib.hid hlen
    obtain ⟨l, hl⟩ : ∃ l, l = d.length := ⟨_, rfl⟩
    rw [← hl] at hS heq ⊢
    clear hbd hC hC2 hr hL hlen hl hf
    go_enter Try.func30, Try.ntmps30
    go_wp2_with (refine hS.mono ?_; rintro e w1 ⟨sb, cb, rfl, hown, hb1⟩; have HRB := Lib.hid (rd_of_row hown); have HB1 := Lib.hid hb1; clear hown hb1)
    go_loop [9, 11, 26] (fun z u i => ∃ q : Nat, q ≤ k ∧ i = .int .i64 q ∧ ∃ y : Nat, y ≤ 64 * q ∧ Hid (y = sumP (L.take q)) ∧ z = .int .u64 y) (fun _ _ i => k - (intOf i).toNat)
    case atStart => exact ⟨0, Nat.zero_le _, rfl, 0, by omega, rfl, rfl⟩
    case round =>
      obtain ⟨q, hq, rfl, y, hy, HY, rfl⟩ := hrel
      by_cases hlt : q < k
      · obtain ⟨b, off, rfl, hcell⟩ := HRB.out.at (by omega)
        have hqL : q < L.length := by rw [HL.out]; exact hlt
        have hc := hcell q _ (i64s_at L q hqL)
        obtain ⟨m, hm, hm6⟩ := HBD.out (L.getD q 0) (by simp [List.getD, List.getElem?_eq_getElem hqL])
        rw [hm] at hc
        have htk : L.take (q + 1) = L.take q ++ [(m : Int)] := by rw [List.take_add_one, List.getElem?_eq_getElem hqL, ← hm]; simp [List.getD, List.getElem?_eq_getElem hqL]
        have hp := power_any m w1 (by omega)
        have hP64 : 2 ^ m ≤ 64 := Nat.pow_le_pow_right (n := 2) (j := 6) (by omega) (by omega)
        have hnew : y + 2 ^ m = sumP (L.take (q + 1)) := by rw [htk, sumP_snoc, ← HY.out]; rfl
        generalize 2 ^ m = P at *
        have HNEW := Lib.hid hnew
        clear hcell hm htk hnew HY
        go_wp2_with (refine hp.mono ?_; rintro e w1 ⟨rfl, rfl⟩)
        go_round
        case rel => exact ⟨q + 1, by omega, by go_num, y + P, by omega, HNEW, by go_num⟩
        case measure => simp [intOf]; omega
      · obtain rfl : q = k := by omega
        have hyL : y = sumP L := by rw [HY.out, List.take_of_length_le (by rw [HL.out]; exact Nat.le_refl _)]
        have hCy : C = if y = s then 1 else 0 := by rw [HC.out, hyL]
        by_cases hys : y = s
        · have hb : ((y : Int) == (s : Int)) = true := by rw [beq_iff_eq]; omega
          rw [if_pos hys] at hCy
          have HCY := Lib.hid hCy
          clear hys hCy hyL HY HC
          go_wp2
          go_ret
          exact ⟨ret_int (by rw [HCY.out]; rfl), HB1.out⟩
        · have hb : ((y : Int) == (s : Int)) = false := by rw [beq_eq_false_iff_ne]; omega
          rw [if_neg hys] at hCy
          have HCY := Lib.hid hCy
          clear hys hCy hyL HY HC
          go_wp2
          go_ret
          exact ⟨ret_int (by rw [HCY.out]; rfl), HB1.out⟩
  | succ f ih =>
    intro d v w hf hr
    obtain ⟨sd, cd, rfl⟩ := hr.form
    have heq : ((d.length : Int) == (n : Int) - (k : Int)) = false := by rw [beq_eq_false_iff_ne]; omega
    have hC2 := cntS_step s (d := d) (show k + d.length < n by omega)
    have hCle : cntS n k s d ≤ 46656 := cntS_le hn
    obtain ⟨C, hC⟩ : ∃ C, C = cntS n k s d := ⟨_, rfl⟩
    rw [← hC] at hC2 hCle ⊢
    obtain ⟨T, hT⟩ : ∃ T, T = k + d.length + 1 := ⟨_, rfl⟩
    rw [← hT] at hC2
    have HIH := Lib.hid ih
    have HC := Lib.hid hC2
    have HRD := Lib.hid hr
    obtain ⟨l, hl⟩ : ∃ l, l = d.length := ⟨_, rfl⟩
    rw [← hl] at heq hT
    have hl6 : l ≤ 6 := by omega
    have HLD := Lib.hid hl
    have HF : Hid (k + d.length + (f + 1) = n) := hf
    have HRL : Hid (Rd w 1 (.slice sd l cd) l (i64s d)) := by rw [hl]; exact hr
    rw [← hl]
    clear hC hC2 hr ih hl hf HRD
    go_enter Try.func30, Try.ntmps30
    go_wp2
    go_loopw [12, 13, 14] (fun z i u wr => ∃ q : Nat, q ≤ T ∧ i = .int .i64 q ∧ ∃ y : Nat, y ≤ 46656 ∧ Hid (y = sumB (fun x => cntS n k s (d ++ [(x : Int)])) q) ∧ z = .int .u64 y ∧ Hid (Below w.heap.size w wr)) (fun _ i _ _ => T - (intOf i).toNat)
    case atStart => exact ⟨0, Nat.zero_le _, rfl, 0, by omega, rfl, rfl, Below.refl _ _⟩
    case round =>
      obtain ⟨q, hq, rfl, y, hy, HY, rfl, HB⟩ := hrel
      by_cases hlt : q < T
      · have hqz : (q : Int) ≤ (k : Int) + (l : Int) := by omega
        obtain ⟨c, hc⟩ : ∃ c, c = cntS n k s (d ++ [(q : Int)]) := ⟨_, rfl⟩
        have hnew : y + c = sumB (fun x => cntS n k s (d ++ [(x : Int)])) (q + 1) := by rw [HY.out, hc]; rfl
        have hle : y + c ≤ 46656 := by
          rw [hnew]
          refine Nat.le_trans (sumB_le_of (show q + 1 ≤ T by omega)) ?_
          rw [← HC.out]; exact hCle
        have hrec : ∀ (v : Value) (W : World), Rd W 1 v (l + 1) (i64s d ++ [.int .i64 (q : Int)]) → Calls Try.prog 30 #[.int .i64 n, .int .i64 k, v, .int .u64 s] W fun e w' => e = .returned (.int .u64 c) ∧ Below W.heap.size W w' := by
          intro v W h
          have := HIH.out (d ++ [(q : Int)]) v W (by have := HF.out; simp; omega) (by rw [i64s_snoc, List.length_append, ← HLD.out]; exact h)
          rwa [← hc] at this
        have HREC := Lib.hid hrec
        have HNEW := Lib.hid hnew
        clear hc hnew hrec HY
        go_wp2_with (at_builtin; refine apps_i64 _ rfl _ _ rfl wr.heap.size _ _ _ rfl (World.ownsRow_nil _ _ _ _) _ _ _ rfl (HRL.out.below HB.out) ?ra ?rb ?_)
        case ra => omega
        case rb => exact Nat.le_refl _
        intro v' w1 hown hchg hfresh
        obtain ⟨sa', cap', rfl⟩ := (rd_of_row hown).form
        have HO1 := Lib.hid hown
        have HB1 := Lib.hid (hchg.below (Nat.le_refl wr.heap.size) (fun k hk => by cases hk))
        clear hown hchg hfresh
        go_wp2_with (at_builtin; refine app_i64 _ rfl _ _ rfl wr.heap.size _ _ _ rfl HO1.out _ _ rfl ?rg ?rn ?rh ?_)
        case rg => rfl
        case rn => omega
        case rh => exact HB1.out.size
        intro v2 w2 hown2 hchg2 hfresh2
        obtain ⟨sa2, cap2, rfl⟩ := (rd_of_row hown2).form
        have HB2 := Lib.hid (HB1.out.trans (hchg2.below HB1.out.size fun i hi => (HO1.out.lt i hi).1))
        have HR2 := Lib.hid (HREC.out _ w2 (rd_of_row hown2))
        clear hown2 hchg2 hfresh2
        go_wp2_with (refine HR2.out.mono ?_; rintro e w3 ⟨rfl, hb3⟩; have HB3 := Lib.hid hb3; clear hb3)
        go_roundw
        case rel => exact ⟨q + 1, by omega, by go_num, y + c, hle, HNEW.out, by go_num, HB.out.trans ((HB2.out.trans (HB3.out.mono HB2.out.size)).mono HB.out.size)⟩
        case measure => simp [intOf]; omega
      · obtain rfl : q = T := by omega
        go_wp2
        go_ret
        exact ⟨ret_int (by rw [HC.out, HY.out]), HB.out⟩

end Go.Proofs.Ytnnaijbdimdhpaa
