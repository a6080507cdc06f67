/-
  The reference's Orders: of the choices that go on from some, how many come to an order.
-/
import Derived.Test.YtnnaijbdimdhpaaTlyOrd1
namespace Go.Proofs.Ytnnaijbdimdhpaa
open Go.RowKit Go.Shelf
set_option linter.unusedVariables false
set_option linter.unusedSimpArgs false

theorem shRight_snoc {c : List Int} {q : Nat} (h : shRight c) (hq : q ≤ c.length) : shRight (c ++ [(q : Int)]) := by
  intro i hi
  rw [List.length_append, List.length_singleton] at hi
  by_cases h1 : i < c.length
  · rw [getD_append_left _ _ _ h1]; exact h i h1
  · obtain rfl : i = c.length := by omega
    rw [getD_snoc]; omega

set_option maxRecDepth 100000 in
set_option maxHeartbeats 2000000 in
theorem refCount_any (n : Nat) (p : List Int) (hn : n ≤ 6) (hp : p.length = n) : ∀ (f : Nat) (c : List Int) (v vp : Value) (w : World), c.length + f = n → shRight c → Rd w 1 v c.length (i64s c) → Rd w 1 vp n (i64s p) →
    Calls Try.prog 76 #[.int .i64 n, v, vp] w fun e w' => e = .returned (.int .u64 (cntO n p c)) ∧ Below w.heap.size w w' := by
  intro f
  induction f with
  | zero =>
    intro c v vp w hf hc hr hrp
    obtain ⟨sd, cd, rfl⟩ := hr.form
    obtain ⟨sp, cp, rfl⟩ := hrp.form
    have hP := refperm_any w _ c.length c hr (by omega) hc
    obtain ⟨l, hl⟩ : ∃ l, l = c.length := ⟨_, rfl⟩
    have heq : ((c.length : Int) == (n : Int)) = true := by rw [beq_iff_eq]; omega
    have hC2 := cntO_end p (c := c) (show n ≤ c.length by omega)
    have hlen := permL_len c
    obtain ⟨C, hC⟩ : ∃ C, C = cntO n p c := ⟨_, rfl⟩
    rw [← hC] at hC2 ⊢
    obtain ⟨L, hL⟩ : ∃ L, L = permL c := ⟨_, rfl⟩
    rw [← hL] at hP hC2 hlen
    rw [← hl] at hP heq hlen ⊢
    obtain rfl : l = n := by omega
    have HC := Lib.hid hC2; have HL := Lib.hid hlen; have HRP := Lib.hid hrp; have HPL := Lib.hid hp
    clear hC hL hC2 hlen hr hrp hp hf hc hl
    go_enter Try.func76, Try.ntmps76
    go_wp2_with (refine hP.mono ?_; rintro e w1 ⟨sb, cb, rfl, hown, hb1⟩; have HRB := Lib.hid (rd_of_row hown); have HB1 := Lib.hid hb1; clear hown hb1)
    go_loopw [8, 20] (fun _ i wr => ∃ q : Nat, q ≤ l ∧ i = .int .i64 q ∧ Hid (L.take q = p.take q) ∧ Hid (Below w1.heap.size w1 wr)) (fun _ i _ => l - (intOf i).toNat)
    case atStart => exact ⟨0, Nat.zero_le _, rfl, rfl, Below.refl _ _⟩
    case round =>
      obtain ⟨q, hq, rfl, HQ, HW⟩ := hrel
      have HBW : Hid (Below w.heap.size w wr) := HB1.out.trans (HW.out.mono HB1.out.size)
      by_cases hlt : q < l
      · obtain ⟨b1, o1, rfl, hc1⟩ := (HRB.out.below HW.out).at (by omega)
        obtain ⟨b2, o2, rfl, hc2⟩ := (HRP.out.below HBW.out).at (by omega)
        have hqL : q < L.length := by rw [HL.out]; exact hlt
        have hqp : q < p.length := by rw [HPL.out]; exact hlt
        have c1 := hc1 q _ (i64s_at L q hqL)
        have c2 := hc2 q _ (i64s_at p q hqp)
        have hnx : L.getD q 0 = p.getD q 0 → L.take (q + 1) = p.take (q + 1) := fun e => by
          rw [List.take_succ_eq_append_getElem hqL, List.take_succ_eq_append_getElem hqp, HQ.out]
          congr 2
          simpa [List.getD, List.getElem?_eq_getElem hqL, List.getElem?_eq_getElem hqp] using e
        have hno : L.getD q 0 ≠ p.getD q 0 → C = 0 := fun e => by
          rw [HC.out, if_neg fun h => e (by rw [h])]
        clear hc1 hc2
        generalize L.getD q 0 = x at *
        generalize p.getD q 0 = y at *
        by_cases hxy : x = y
        · have ht : (x != y) = false := by simp [hxy]
          have HN := Lib.hid (hnx hxy)
          clear hnx hno hxy hqL hqp
          go_wp2
          go_region
          go_wp2
          go_roundw
          case rel => exact ⟨q + 1, by omega, by go_num, HN.out, HW.out.drew⟩
          case measure => simp [intOf]; omega
        · have ht : (x != y) = true := by simp [hxy]
          have HN := Lib.hid (hno hxy)
          clear hnx hno hxy hqL hqp
          go_wp2
          go_region
          go_wp2
          go_ret
          exact ⟨ret_int (by rw [HN.out]; rfl), HBW.out.drew⟩
      · obtain rfl : q = l := by omega
        have hLp : L = p := by
          have := HQ.out
          rwa [List.take_of_length_le (by rw [HL.out]; exact Nat.le_refl _), List.take_of_length_le (by rw [HPL.out]; exact Nat.le_refl _)] at this
        have h1 : C = 1 := by rw [HC.out, if_pos hLp]
        have HN := Lib.hid h1
        clear hLp h1
        go_wp2
        go_ret
        exact ⟨ret_int (by rw [HN.out]; rfl), HBW.out⟩
  | succ f ih =>
    intro c v vp w hf hc hr hrp
    obtain ⟨sd, cd, rfl⟩ := hr.form
    obtain ⟨sp, cp, rfl⟩ := hrp.form
    have heq : ((c.length : Int) == (n : Int)) = false := by rw [beq_eq_false_iff_ne]; omega
    have hC2 := cntO_step p (c := c) (show c.length < n by omega)
    have hCle : cntO n p c ≤ 46656 := cntO_le hn
    obtain ⟨C, hC⟩ : ∃ C, C = cntO n p c := ⟨_, rfl⟩
    rw [← hC] at hC2 hCle ⊢
    obtain ⟨T, hT⟩ : ∃ T, T = c.length + 1 := ⟨_, rfl⟩
    rw [← hT] at hC2
    have HIH := Lib.hid ih
    have HC := Lib.hid hC2
    have HRP := Lib.hid hrp
    have HCR := Lib.hid hc
    obtain ⟨l, hl⟩ : ∃ l, l = c.length := ⟨_, rfl⟩
    rw [← hl] at heq hT
    have hl6 : l ≤ 6 := by omega
    have HLD := Lib.hid hl
    have HF : Hid (c.length + (f + 1) = n) := hf
    have HRL : Hid (Rd w 1 (.slice sd l cd) l (i64s c)) := by rw [hl]; exact hr
    rw [← hl]
    clear hC hC2 hr ih hl hf hrp hc
    go_enter Try.func76, Try.ntmps76
    go_wp2
    go_loopw [9, 10, 11] (fun z i u wr => ∃ q : Nat, q ≤ T ∧ i = .int .i64 q ∧ ∃ y : Nat, y ≤ 46656 ∧ Hid (y = sumB (fun x => cntO n p (c ++ [(x : Int)])) q) ∧ z = .int .u64 y ∧ Hid (Below w.heap.size w wr)) (fun _ i _ _ => T - (intOf i).toNat)
    case atStart => exact ⟨0, Nat.zero_le _, rfl, 0, by omega, rfl, rfl, Below.refl _ _⟩
    case round =>
      obtain ⟨q, hq, rfl, y, hy, HY, rfl, HB⟩ := hrel
      by_cases hlt : q < T
      · have hqz : (q : Int) ≤ (l : Int) := by omega
        obtain ⟨d, hd⟩ : ∃ d, d = cntO n p (c ++ [(q : Int)]) := ⟨_, rfl⟩
        have hnew : y + d = sumB (fun x => cntO n p (c ++ [(x : Int)])) (q + 1) := by rw [HY.out, hd]; rfl
        have hle : y + d ≤ 46656 := by
          rw [hnew]
          refine Nat.le_trans (sumB_le_of (show q + 1 ≤ T by omega)) ?_
          rw [← HC.out]; exact hCle
        have hrec : ∀ (v : Value) (W : World), Rd W 1 v (l + 1) (i64s c ++ [.int .i64 (q : Int)]) → Rd W 1 (.slice sp n cp) n (i64s p) → Calls Try.prog 76 #[.int .i64 n, v, .slice sp n cp] W fun e w' => e = .returned (.int .u64 d) ∧ Below W.heap.size W w' := by
          intro v W h h2
          have := HIH.out (c ++ [(q : Int)]) v _ W (by have := HF.out; simp; omega) (shRight_snoc HCR.out (by have := HLD.out; omega)) (by rw [i64s_snoc, List.length_append, ← HLD.out]; exact h) h2
          rwa [← hd] at this
        have HREC := Lib.hid hrec
        have HNEW := Lib.hid hnew
        clear hd hnew hrec HY
        go_wp2_with (at_builtin; refine apps_i64 _ rfl _ _ rfl wr.heap.size _ _ _ rfl (World.ownsRow_nil _ _ _ _) _ _ _ rfl (HRL.out.below HB.out) ?ra ?rb ?_)
        case ra => omega
        case rb => exact Nat.le_refl _
        intro v' w1 hown hchg hfresh
        obtain ⟨sa', cap', rfl⟩ := (rd_of_row hown).form
        have HO1 := Lib.hid hown
        have HB1 := Lib.hid (hchg.below (Nat.le_refl wr.heap.size) (fun k hk => by cases hk))
        clear hown hchg hfresh
        go_wp2_with (at_builtin; refine app_i64 _ rfl _ _ rfl wr.heap.size _ _ _ rfl HO1.out _ _ rfl ?rg ?rn ?rh ?_)
        case rg => rfl
        case rn => omega
        case rh => exact HB1.out.size
        intro v2 w2 hown2 hchg2 hfresh2
        obtain ⟨sa2, cap2, rfl⟩ := (rd_of_row hown2).form
        have HB2 := Lib.hid (HB1.out.trans (hchg2.below HB1.out.size fun i hi => (HO1.out.lt i hi).1))
        have HR2 := Lib.hid (HREC.out _ w2 (rd_of_row hown2) ((HRP.out.below HB.out).below HB2.out))
        clear hown2 hchg2 hfresh2
        go_wp2_with (refine HR2.out.mono ?_; rintro e w3 ⟨rfl, hb3⟩; have HB3 := Lib.hid hb3; clear hb3)
        go_roundw
        case rel => exact ⟨q + 1, by omega, by go_num, y + d, hle, HNEW.out, by go_num, HB.out.trans ((HB2.out.trans (HB3.out.mono HB2.out.size)).mono HB.out.size)⟩
        case measure => simp [intOf]; omega
      · obtain rfl : q = T := by omega
        go_wp2
        go_ret
        exact ⟨ret_int (by rw [HC.out, HY.out]), HB.out⟩

set_option maxRecDepth 100000 in
theorem refOrders_any (p : List Int) (vp : Value) (n : Nat) (w : World) (hn : n ≤ 6) (hrp : Rd w 1 vp n (i64s p)) :
    Calls Try.prog 42 #[vp] w fun e w' => e = .returned (.int .u64 (cntO n p [])) ∧ Below w.heap.size w w' := by
  have hln := hrp.len_i64
  subst hln
  have C := refCount_any p.length p hn rfl p.length [] (.slice none 0 0) vp w (by simp) (fun i hi => by simp at hi) (Rd.nil _ _) hrp
  obtain ⟨sp, cp, rfl⟩ := hrp.form
  clear hrp
  go_enter Try.func42, Try.ntmps42
  go_wp2_with (refine C.mono ?_; rintro e w' ⟨rfl, hb⟩)
  go_ret
  exact ⟨rfl, hb⟩

end Go.Proofs.Ytnnaijbdimdhpaa
