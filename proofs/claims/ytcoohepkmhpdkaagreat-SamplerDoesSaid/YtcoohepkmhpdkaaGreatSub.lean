/-
  subset.self, row, right, Pick; the reference's Count, Right, Pick, Is.
-/
import Derived.Test.YtcoohepkmhpdkaaGreatShuf3
import Derived.Test.YtcoohepkmhpdkaaGreatPl
namespace Go.Proofs.YtcoohepkmhpdkaaGreat
open Go.RowKit
set_option linter.unusedVariables false
set_option linter.unusedSimpArgs false

def cntS (n k : Int) : Int := if n < 0 ∨ 256 < n ∨ n < k then 1 else 0
theorem cntS_zero {n k : Int} : cntS n k = 0 ↔ 0 ≤ n ∧ n ≤ 256 ∧ k ≤ n := by
  unfold cntS; split <;> omega
theorem cntS_one {n k : Int} (h : ¬ (0 ≤ n ∧ n ≤ 256 ∧ k ≤ n)) : cntS n k = 1 := by
  unfold cntS; rw [if_pos (by omega)]

set_option maxRecDepth 100000 in
set_option maxHeartbeats 1000000 in
theorem subright_any (n k : Int) (w : World) : Calls Tryz.prog 78 #[.int .i64 n, .int .i64 k] w fun e w' => e = .returned (.bool (decide (0 ≤ n ∧ n ≤ 256 ∧ k ≤ n))) ∧ w = w' := by
  by_cases a : 0 ≤ n
  · by_cases b : n ≤ 256
    · by_cases c : k ≤ n
      · have hr : decide (0 ≤ n ∧ n ≤ 256 ∧ k ≤ n) = true := by simp [a, b, c]
        have HR := Lib.hid hr; clear hr
        go_enter Tryz.func78, Tryz.ntmps78
        go_wp2
        go_ret
        exact ⟨ret_bool (by simp [a, b, c]), rfl⟩
      · have hr : decide (0 ≤ n ∧ n ≤ 256 ∧ k ≤ n) = false := by simp [c]
        have HR := Lib.hid hr; clear hr
        go_enter Tryz.func78, Tryz.ntmps78
        go_wp2
        go_ret
        exact ⟨ret_bool (by simp [a, b, c]), rfl⟩
    · have hr : decide (0 ≤ n ∧ n ≤ 256 ∧ k ≤ n) = false := by simp [b]
      have HR := Lib.hid hr; clear hr
      go_enter Tryz.func78, Tryz.ntmps78
      go_wp2
      go_ret
      exact ⟨ret_bool (by simp [a, b]; try omega), rfl⟩
  · have hr : decide (0 ≤ n ∧ n ≤ 256 ∧ k ≤ n) = false := by simp [a]
    have HR := Lib.hid hr; clear hr
    go_enter Tryz.func78, Tryz.ntmps78
    go_wp2
    go_ret
    exact ⟨ret_bool (by simp [a]; try omega), rfl⟩

set_option maxRecDepth 100000 in
set_option maxHeartbeats 1000000 in
theorem self_any (w : World) (n : Nat) (hn : n ≤ 50000) :
    Calls Tryz.prog 146 #[.int .i64 (n : Int)] w fun e w' => ∃ sa cap, e = .returned (.slice sa n cap) ∧ w'.ownsRow w.heap.size 3 1 (.slice sa n cap) n (i64s (rowL n)) ∧ Below w.heap.size w w' := by
  go_enter Tryz.func146, Tryz.ntmps146
  go_wp2_with (at_make; refine mk_i64 _ rfl _ _ rfl w.heap.size _ _ n rfl rfl ?hL ?hC ?hN ?hB ?_)
  case hL => rfl
  case hC => rfl
  case hN => omega
  case hB => exact Nat.le_refl _
  intro w3 hown3 hc3 hsz3
  have hB3 : Below w.heap.size w w3 := hc3.below (Nat.le_refl _) (fun _ h => h.elim)
  have HO3 := Lib.hid hown3; have HB3 := Lib.hid hB3
  clear hown3 hB3 hsz3 hc3
  go_wp2
  go_loopw [9] (fun i wr => ∃ k : Nat, k ≤ n ∧ i = .int .i64 k ∧ Hid (wr.ownsRow w.heap.size 3 1 (.slice (some ⟨w.heap.size, 0, none⟩) n n) n (i64s (rowL k ++ List.replicate (n - k) 0))) ∧ Hid (Below w.heap.size w wr)) (fun i _ => n - (intOf i).toNat)
  case atStart => exact ⟨0, Nat.zero_le _, rfl, HO3, HB3⟩
  case round =>
    obtain ⟨k, hk, rfl, HO, HB⟩ := hrel
    by_cases hlt : k < n
    · obtain ⟨g', hs3, hh1, hh2, hh3, hcell3, hfz3⟩ := row_ptr HO.out (by omega)
      cases hs3
      have cd := hcell3 k _ (i64s_at _ k (by simp [rowL_len]; omega))
      have fd := hfz3 k
      have hstep : (rowL k ++ List.replicate (n - k) 0).set k (k : Int) = rowL (k + 1) ++ List.replicate (n - (k + 1)) 0 := by
        rw [List.set_append_right _ _ (by rw [rowL_len]; exact Nat.le_refl _), rowL_len, Nat.sub_self, rowL_succ, List.append_assoc]
        have : n - k = (n - (k + 1)) + 1 := by omega
        rw [this, List.replicate_succ]
        rfl
      have HST := Lib.hid hstep
      generalize hy : (rowL k ++ List.replicate (n - k) 0).getD k 0 = y at *
      clear hstep hcell3 hfz3 hy
      go_wp2
      go_roundw
      case rel =>
        refine ⟨k + 1, by omega, by go_num, ?_, HB.out.setCell (p := ⟨w.heap.size, k, none⟩) (Nat.le_refl _) _⟩
        show World.ownsRow _ _ _ _ _ _ (i64s (rowL (k + 1) ++ List.replicate (n - (k + 1)) 0))
        rw [← HST.out, i64s_set]
        exact row_set HO.out hlt _
      case measure => simp [intOf]; omega
    · obtain rfl : k = n := by omega
      go_wp2
      go_ret
      refine ⟨_, _, rfl, ?_, HB.out⟩
      have := HO.out
      rw [Nat.sub_self, List.replicate_zero, List.append_nil] at this
      exact this

set_option maxRecDepth 100000 in
set_option maxHeartbeats 1000000 in
theorem subrow_any (w : World) (n : Nat) (hn : n ≤ 50000) :
    Calls Tryz.prog 119 #[.int .i64 (n : Int)] w fun e w' => ∃ sa cap, e = .returned (.slice sa n cap) ∧ w'.ownsRow w.heap.size 3 1 (.slice sa n cap) n (i64s (rowL n)) ∧ Below w.heap.size w w' := by
  have e := permL_row n
  have s := shRight_row n
  have E := Lib.hid e; have S := Lib.hid s; clear e s
  go_enter Tryz.func119, Tryz.ntmps119
  go_wp2_with fail
  refine (self_any _ n hn).mono ?_
  rintro e w1 ⟨s1, c1, rfl, hown1, hb1⟩
  have HO1 := Lib.hid hown1; have HB1 := Lib.hid hb1; clear hown1 hb1
  go_wp2_with fail
  refine (perm_ok _ _ _ (rowL n) (rd_of_row HO1.out) hn S.out).mono ?_
  rintro e w2 ⟨s2, c2, rfl, hown2, hb2⟩
  rw [E.out] at hown2
  have HO2 := Lib.hid hown2; have HB2 := Lib.hid hb2; clear hown2 hb2
  go_wp2
  go_ret
  exact ⟨s2, c2, rfl, row_mono HO2.out HB1.out.size, below_two HB1.out HB2.out⟩

theorem isS_prefix {n : Int} {l : List Int} (h : ∀ i, i < l.length → (0 ≤ l.getD i 0 ∧ l.getD i 0 < n) ∧ ∀ j, j < i → l.getD j 0 ≠ l.getD i 0) : IsS n l := by
  refine ⟨nodup_of_inj fun i j hi hj e => ?_, fun x hx => ?_⟩
  · rcases Nat.lt_trichotomy i j with h1 | h1 | h1
    · exact absurd e ((h j hj).2 i h1)
    · exact h1
    · exact absurd e.symm ((h i hi).2 j h1)
  · obtain ⟨i, hi, rfl⟩ := mem_getD hx
    exact (h i hi).1

set_option maxRecDepth 100000 in
set_option maxHeartbeats 2000000 in
theorem refis41_any (w : World) (n : Int) (v : Value) (m : Nat) (l : List Int) (h : Rd w 1 v m (i64s l)) (hbig : m ≤ 17592186043904) :
    Calls Tryz.prog 41 #[.int .i64 n, v] w fun e w' => e = .returned (.bool (isSB n l)) ∧ w = w' := by
  have hln := h.len_i64
  subst hln
  obtain ⟨sa, cap, rfl⟩ := h.form
  have HR := Lib.hid h; clear h
  go_enter Tryz.func41, Tryz.ntmps41
  go_wp2
  go_loop [10] (fun i => ∃ s : Nat, s ≤ l.length ∧ i = .int .i64 s ∧ Hid (∀ i, i < s → (0 ≤ l.getD i 0 ∧ l.getD i 0 < n) ∧ ∀ j, j < i → l.getD j 0 ≠ l.getD i 0)) (fun i => l.length - (intOf i).toNat)
  case atStart => exact ⟨0, Nat.zero_le _, rfl, fun t ht => by omega⟩
  case round =>
    obtain ⟨s, hs, rfl, HS⟩ := hrel
    by_cases hlt : s < l.length
    · obtain ⟨b, off, rfl, hc⟩ := HR.out.at (by omega)
      have cx := hc s _ (i64s_at l s hlt)
      have hbad1 : ¬ (0 ≤ l.getD s 0 ∧ l.getD s 0 < n) → isSB n l = false := fun hn => isSB_not fun hh => hn (hh.2 _ (getD_mem l s hlt))
      have hbad2 : ∀ j, j < s → l.getD j 0 = l.getD s 0 → isSB n l = false := fun j hj e => isSB_not fun hh => by
        have := nodup_inj hh.1 (i := j) (j := s) (by omega) hlt e; omega
      generalize hx : l.getD s 0 = x at *
      have HX := Lib.hid hx; have HBAD1 := Lib.hid hbad1; have HBAD2 := Lib.hid hbad2; have HCC := Lib.hid hc; clear hx hbad1 hbad2 hc
      by_cases h0 : x < 0
      · go_wp2
        go_ret
        exact ⟨ret_bool (HBAD1.out (by omega)).symm, rfl⟩
      · by_cases h1 : n ≤ x
        · go_wp2
          go_ret
          exact ⟨ret_bool (HBAD1.out (by omega)).symm, rfl⟩
        · go_wp2
          go_loop [7] (fun c => ∃ j : Nat, j ≤ s ∧ c = .int .i64 j ∧ Hid (∀ t, t < j → l.getD t 0 ≠ x)) (fun c => s - (intOf c).toNat)
          case atStart => exact ⟨0, Nat.zero_le _, rfl, fun t ht => by omega⟩
          case round =>
            obtain ⟨j, hj, rfl, HJ⟩ := hrel
            by_cases hjt : j < s
            · have cy := HCC.out j _ (i64s_at l j (by omega))
              have hjl : (j : Int) < (l.length : Int) := by omega
              generalize hy : l.getD j 0 = y at *
              have HY := Lib.hid hy; clear hy
              by_cases hyx : y = x
              · have q : (y == x) = true := by simp [hyx]
                have HYX := Lib.hid hyx; clear hyx
                go_wp2
                go_ret
                exact ⟨ret_bool (HBAD2.out j hjt (by rw [HY.out]; exact HYX.out)).symm, rfl⟩
              · have q : (y == x) = false := by simp [hyx]
                have HYX := Lib.hid hyx; clear hyx
                go_wp2
                go_round
                case rel =>
                  refine ⟨j + 1, by omega, by go_num, fun t ht => ?_⟩
                  by_cases htj : t = j
                  · subst htj; rw [HY.out]; exact HYX.out
                  · exact HJ.out t (by omega)
                case measure => simp [intOf]; omega
            · obtain rfl : j = s := by omega
              go_wp2
              go_round
              case rel =>
                refine ⟨j + 1, by omega, by go_num, fun i hi => ?_⟩
                by_cases hij : i = j
                · subst hij
                  rw [HX.out]
                  exact ⟨by omega, HJ.out⟩
                · exact HS.out i (by omega)
              case measure => simp [intOf]; omega
    · obtain rfl : s = l.length := by omega
      go_wp2
      go_ret
      exact ⟨ret_bool (isSB_iff.2 (isS_prefix HS.out)).symm, rfl⟩

end Go.Proofs.YtcoohepkmhpdkaaGreat
