/-
  The program's and the reference's Pick.
-/
import Derived.Test.YtcoohepkmhpdkaaGreatSub
namespace Go.Proofs.YtcoohepkmhpdkaaGreat
open Go.RowKit
set_option linter.unusedVariables false

theorem drop_cons' (l : List Int) (i : Nat) (h : i < l.length) : l.drop i = l.getD i 0 :: l.drop (i + 1) := by
  rw [List.drop_eq_getElem_cons h]
  simp [List.getD, List.getElem?_eq_getElem h]

theorem cut_set (F : List Int) (i a : Nat) (h : i + a < F.length) : (F.set (i + a) (F.getD i 0)).drop (i + 1) = cut (F.drop i) a ∧ (F.drop i).getD a 0 = F.getD (i + a) 0 := by
  have hd : ∀ t, (F.drop i).getD t 0 = F.getD (i + t) 0 := fun t => by simp [List.getD]
  refine ⟨?_, hd a⟩
  refine ext_getD (by simp [cut_len]; omega) fun t ht => ?_
  have htl : i + 1 + t < F.length := by simp at ht; omega
  have e1 : ((F.set (i + a) (F.getD i 0)).drop (i + 1)).getD t 0 = (F.set (i + a) (F.getD i 0)).getD (i + 1 + t) 0 := by simp [List.getD]
  have e2 : (cut (F.drop i) a).getD t 0 = ((F.drop i).set a ((F.drop i).getD 0 0)).getD (t + 1) 0 := by simp [cut, List.getD]
  rw [e1, e2, getD_set _ _ _ _ h, getD_set _ _ _ _ (by simp; omega), hd, hd]
  by_cases h1 : i + a = i + 1 + t
  · rw [if_pos h1, if_pos (by omega)]; rfl
  · rw [if_neg h1, if_neg (by omega)]
    congr 1
    omega

set_option maxRecDepth 100000 in
set_option maxHeartbeats 4000000 in
theorem refpick_any (w : World) (n : Nat) (v : Value) (m : Nat) (c : List Int) (h : Rd w 1 v m (i64s c)) (hbig : n ≤ 50000) (hmn : m ≤ n) (hc : sbRight (n : Int) c) :
    Calls Tryz.prog 71 #[.int .i64 (n : Int), v] w fun e w' => ∃ sa cap, e = .returned (.slice sa m cap) ∧ w'.ownsRow w.heap.size 3 1 (.slice sa m cap) m (i64s (pickL n c)) ∧ Below w.heap.size w w' := by
  have hln := h.len_i64
  subst hln
  obtain ⟨sa, cap, rfl⟩ := h.form
  have HR := Lib.hid h; have HC := Lib.hid hc; clear h hc
  go_enter Tryz.func71, Tryz.ntmps71
  go_wp2_with (go_at_call 68; go_must (refine (refrow_any _ n (by omega)).mono ?_); rintro e w1 ⟨s1, c1, rfl, hown1, hb1⟩; have HO1 := Lib.hid hown1; have HB1 := Lib.hid hb1; clear hown1 hb1)
  go_loopw [5, 6, 13] (fun v u i wr => ∃ (j q : Nat) (F out : List Int) (sr so : Option Addr) (cr co : Nat), j ≤ c.length ∧ q + j = n ∧ i = .int .i64 (j : Int) ∧ v = .slice sr q cr ∧ u = .slice so j co ∧ q ≤ cr ∧ F.length = n ∧ out.length = j ∧ Hid (out ++ pickR (F.drop j) (c.drop j) = pickL n c) ∧ Hid (0 < q → ∃ g, s1 = some ⟨g, 0, none⟩ ∧ sr = some ⟨g, j, none⟩) ∧
    Hid (wr.ownsRow w.heap.size 3 1 (.slice s1 n c1) n (i64s F)) ∧ Hid (wr.ownsRow w1.heap.size 3 1 (.slice so j co) j (i64s out)) ∧ Hid (Below w.heap.size w wr) ∧ w1.heap.size ≤ wr.heap.size) (fun _ _ i _ => c.length - (intOf i).toNat)
  case atStart =>
    refine ⟨0, n, rowL n, [], s1, none, c1, 0, Nat.zero_le _, by omega, rfl, rfl, rfl, (rd_of_row HO1.out).cap_le.1, rowL_len _, rfl, rfl, ?_, HO1, World.ownsRow_nil _ _ _ _, HB1, Nat.le_refl _⟩
    intro hq
    obtain ⟨g, hs, -⟩ := row_ptr HO1.out (by omega)
    exact ⟨g, hs, hs⟩
  case round =>
    obtain ⟨j, q, F, out, sr, so, cr, co, hj, hqj, rfl, rfl, rfl, hqc, hFl, hol, HP, HSR, HO, HOO, HB, hsz⟩ := hrel
    by_cases hlt : j < c.length
    · obtain ⟨q, rfl⟩ : ∃ q', q = q' + 1 := ⟨q - 1, by omega⟩
      obtain ⟨g, hs1, hsr⟩ := HSR.out (by omega)
      subst hs1; subst hsr
      obtain ⟨b, off, hsa, hcc⟩ := (HR.out.below HB.out).at (by omega)
      subst hsa
      have hx := HC.out j hlt
      obtain ⟨a, ha⟩ : ∃ a : Nat, c.getD j 0 = (a : Int) := ⟨(c.getD j 0).toNat, by omega⟩
      have cx := hcc j _ (i64s_at c j hlt)
      rw [ha] at cx
      have hja : j + a < F.length := by omega
      obtain ⟨k1, k2⟩ := cut_set F j a hja
      have hgl : g < w1.heap.size := (HO1.out.lt g rfl).2
      obtain ⟨g2, hg2e, hg1, hg2, hg3, hcell, hfz⟩ := row_ptr HO.out (by omega)
      cases hg2e
      have ca := hcell (j + a) _ (i64s_at F (j + a) hja)
      have cj := hcell j _ (i64s_at F j (by omega))
      have hstep : (out ++ [F.getD (j + a) 0]) ++ pickR ((F.set (j + a) (F.getD j 0)).drop (j + 1)) (c.drop (j + 1)) = pickL n c := by
        have h1 := HP.out
        rw [drop_cons' c j hlt] at h1
        simp only [pickR] at h1
        rw [ha, Int.toNat_natCast, ← k1, k2] at h1
        rw [List.append_assoc]; exact h1
      have HST := Lib.hid hstep; have HGL := Lib.hid hgl; have HFL := Lib.hid hFl; have HOL := Lib.hid hol
      have haq : (a : Int) < ((q + 1 : Nat) : Int) := by omega
      have hjc : (j : Int) < (c.length : Int) := by omega
      have hjan : j + a < n := by omega
      have h1q : (1 : Int) ≤ ((q + 1 : Nat) : Int) := by omega
      clear hx ha hcc k1 k2 hcell hfz hstep hgl hFl hol hja
      generalize hy : F.getD (j + a) 0 = y at *
      generalize hz : F.getD j 0 = z at *
      clear hy hz
      go_wp2_with (at_builtin; refine app_i64 _ rfl _ _ rfl w1.heap.size _ _ _ rfl HOO.out _ _ rfl ?qg ?qn ?qb ?_)
      case qg => rfl
      case qn => omega
      case qb => exact hsz
      intro v' w2 hown hchg hfresh
      obtain ⟨so', co', rfl⟩ := (rd_of_row hown).form
      have hO2 : w2.ownsRow w.heap.size 3 1 (.slice (some ⟨g, 0, none⟩) n c1) n (i64s F) := row_chg HO.out hchg fun g' hg' hg2 => by
        obtain rfl : g = g' := by cases hg'; rfl
        have := (HOO.out.lt _ hg2).1; have := HGL.out; omega
      obtain ⟨g2, hs2, -, -, -, hcell2, hfz2⟩ := row_ptr hO2 (by omega)
      cases hs2
      have eb : ∀ o, w2.cell? ⟨g, o, none⟩ = wr.cell? ⟨g, o, none⟩ := fun o => World.cell?_of_block (w := wr) (hchg.block g hg2 (fun hx => by have := (HOO.out.lt _ hx).1; have := HGL.out; omega))
      have c2j : w2.cell? ⟨g, j, none⟩ = some (.int .i64 z) := (eb j).trans cj
      have c2a : w2.cell? ⟨g, j + a, none⟩ = some (.int .i64 y) := (eb _).trans ca
      have f2 := hfz2 (j + a)
      have hB2 : Below w.heap.size w w2 := HB.out.trans (hchg.below HB.out.size fun i hi => by have := (HOO.out.lt _ hi).1; have := HB1.out.size; omega)
      have hsz2 := Nat.le_trans hsz hchg.size
      rw [← i64s_snoc] at hown
      have HO2 := Lib.hid hO2; have HOO2 := Lib.hid hown; have HB2 := Lib.hid hB2
      clear hO2 hown hB2 hchg hfresh hcell2 hfz2 ca cj cx eb
      go_wp2
      go_roundw
      case rel =>
        refine ⟨j + 1, q, F.set (j + a) z, out ++ [y], (if cr = 1 then some ⟨g, j, none⟩ else some ⟨g, j + 1, none⟩), so', cr - 1, co', by omega, by omega, by go_num, rfl, rfl, by omega, by rw [List.length_set]; exact HFL.out, by have := HOL.out; simp; omega, HST, ?_, ?_, ?_, HB2.out.setCell (p := ⟨g, j + a, none⟩) hg1 _, ?_⟩
        · exact fun hq => ⟨g, rfl, by rw [if_neg (by omega)]⟩
        · show World.ownsRow _ _ _ _ _ _ (i64s (F.set (j + a) z))
          rw [i64s_set]
          exact row_set HO2.out hjan _
        · exact row_kept HOO2.out fun x hx => Below.heap_setCell _ _ _ _ (by have := (HOO2.out.lt _ hx).1; have := HGL.out; show x ≠ g; omega)
        · simpa [World.setCell] using hsz2
      case measure => simp [intOf]; omega
    · obtain rfl : j = c.length := by omega
      go_wp2
      go_ret
      refine ⟨so, co, rfl, ?_, HB.out⟩
      have hp := HP.out
      rw [List.drop_length] at hp
      simp only [pickR, List.append_nil] at hp
      rw [← hp]
      exact row_mono HOO.out HB1.out.size

set_option maxRecDepth 100000 in
set_option maxHeartbeats 1000000 in
theorem pick_cnt (w : World) (n : Int) (v : Value) (m : Nat) (c : List Int) (h : Rd w 1 v m (i64s c)) (hb : cntS n (c.length : Int) ≠ 0) :
    Calls Tryz.prog 105 #[.int .i64 n, v] w fun e w' => e = .returned (.tuple #[.slice none 0 0, .int .i64 1]) ∧ w = w' := by
  have hln := h.len_i64
  subst hln
  obtain ⟨sa, cap, rfl⟩ := h.form
  have hr : decide (0 ≤ n ∧ n ≤ 256 ∧ (c.length : Int) ≤ n) = false := by
    rw [decide_eq_false_iff_not]; exact fun hh => hb (cntS_zero.2 hh)
  have HR := Lib.hid hr; clear hr hb h
  go_enter Tryz.func105, Tryz.ntmps105
  go_wp2_with fail
  refine (subright_any _ _ _).mono ?_
  rintro e w1 ⟨rfl, rfl⟩
  rw [HR.out]
  go_wp2
  go_ret2
  exact ⟨rfl, rfl⟩

theorem Own.to_i64 {w : World} {B : Nat} {sa : Option Addr} {n cap : Nat} {l : List Int} (h : Own w B 1 (.slice sa n cap) n (i64s l)) {k : Nat} (hk : k ≤ n) (cap' : Nat) (hc' : k ≤ cap') : Own w B 1 (.slice sa k cap') k (i64s (l.take k)) := by
  obtain ⟨h1, h2, sa', cap2, hv, hc, h3⟩ := h
  cases hv
  have hl : l.length = n := by simpa [i64s] using h1
  refine ⟨by simp [i64s]; omega, by omega, _, _, rfl, hc', ?_⟩
  rcases h3 with h3 | ⟨g, off, cur, e, h4, h5, h6, h7⟩
  · exact .inl (by omega)
  · refine .inr ⟨g, off, cur, e, h4, h5, h6, fun i u hu => h7 i u ?_⟩
    simp only [i64s, List.getElem?_map, List.getElem?_take] at hu ⊢
    split at hu
    · exact hu
    · cases hu
theorem Own.set {w : World} {B g off n cap : Nat} {cs : List Value} (h : Own w B 1 (.slice (some ⟨g, off, none⟩) n cap) n cs) {i : Nat} (hi : i < n) (u : Value) :
    Own (w.setCell ⟨g, off + i, none⟩ u) B 1 (.slice (some ⟨g, off, none⟩) n cap) n (cs.set i u) := by
  obtain ⟨h1, h2, sa', cap2, hv, hc, h3⟩ := h
  cases hv
  refine ⟨by rw [List.length_set]; exact h1, h2, _, _, rfl, hc, ?_⟩
  rcases h3 with h3 | ⟨g', off', cur, e, h4, h5, h6, h7⟩
  · exact .inl h3
  · cases h4
    refine .inr ⟨g, off, _, e, rfl, h5, set_of h6 (off + i) u, fun j x hx => ?_⟩
    have hil : i < cs.length := by omega
    have hcur := h7 i _ (List.getElem?_eq_getElem hil)
    have hsz : off + i < cur.size := (Array.getElem?_eq_some_iff.1 hcur).1
    rw [List.getElem?_set] at hx
    by_cases hij : i = j
    · subst hij
      rw [if_pos rfl, if_pos hil] at hx
      rw [Array.getElem?_setIfInBounds_self]
      rw [if_pos hsz]; exact hx
    · rw [if_neg hij] at hx
      rw [Array.getElem?_setIfInBounds_ne (by omega)]
      exact h7 j x hx
theorem Own.below {w w' : World} {B sz : Nat} {v : Value} {n : Nat} {cs : List Value} (h : Own w B sz v n cs) (hb : Below w.heap.size w w') : Own w' B sz v n cs := by
  obtain ⟨h1, h2, sa', cap2, hv, hc, h3⟩ := h
  refine ⟨h1, h2, sa', cap2, hv, hc, ?_⟩
  rcases h3 with h3 | ⟨g, off, cur, e, h4, h5, h6, h7⟩
  · exact .inl h3
  · exact .inr ⟨g, off, cur, e, h4, h5, by rw [hb.block g (block_lt h6)]; exact h6, h7⟩
theorem Own.base {w : World} {B B' sz : Nat} {v : Value} {n : Nat} {cs : List Value} (h : Own w B sz v n cs) (hb : B' ≤ B) : Own w B' sz v n cs := by
  obtain ⟨h1, h2, sa', cap2, hv, hc, h3⟩ := h
  refine ⟨h1, h2, sa', cap2, hv, hc, ?_⟩
  rcases h3 with h3 | ⟨g, off, cur, e, h4, h5, h6, h7⟩
  · exact .inl h3
  · exact .inr ⟨g, off, cur, e, h4, Nat.le_trans hb h5, h6, h7⟩
/-- what may be written, its cells -/
theorem Own.at {w : World} {B : Nat} {sa : Option Addr} {n cap : Nat} {cs : List Value} (h : Own w B 1 (.slice sa n cap) n cs) (hn : 0 < n) :
    ∃ g off, sa = some ⟨g, off, none⟩ ∧ B ≤ g ∧ g < w.heap.size ∧ (∀ i u, cs[i]? = some u → w.cell? ⟨g, off + i, none⟩ = some u) ∧ ∀ i, w.frozen? ⟨g, i, none⟩ = false := by
  obtain ⟨h1, h2, sa', cap2, hv, hc, h3⟩ := h
  cases hv
  rcases h3 with h3 | ⟨g, off, cur, e, h4, h5, h6, h7⟩
  · omega
  · exact ⟨g, off, h4, h5, block_lt h6, fun i u hu => cell_of h6 _ (h7 i u hu), fun i => frozen_of h6 i⟩

set_option maxRecDepth 100000 in
set_option maxHeartbeats 4000000 in
theorem pick_own (w : World) (n : Nat) (v : Value) (m : Nat) (c : List Int) (h : Rd w 1 v m (i64s c)) (hn : n ≤ 256) (hmn : m ≤ n) :
    Calls Tryz.prog 105 #[.int .i64 (n : Int), v] w fun e w' =>
      (sbRightB (n : Int) c = true ∧ ∃ sa cap, e = .returned (.tuple #[.slice sa m cap, .int .i64 0]) ∧ Own w' w.heap.size 1 (.slice sa m cap) m (i64s (pickL n c)) ∧ Below w.heap.size w w') ∨
      (sbRightB (n : Int) c = false ∧ e = .returned (.tuple #[.slice none 0 0, .int .i64 2]) ∧ Below w.heap.size w w') := by
  have hln := h.len_i64
  subst hln
  obtain ⟨sa, cap, rfl⟩ := h.form
  have hr : decide (0 ≤ (n : Int) ∧ (n : Int) ≤ 256 ∧ (c.length : Int) ≤ (n : Int)) = true := by
    rw [decide_eq_true_iff]; omega
  have HR := Lib.hid h; have HOK := Lib.hid hr; clear h hr
  go_enter Tryz.func105, Tryz.ntmps105
  go_wp2_with fail
  refine (subright_any _ _ _).mono ?_
  rintro e w1 ⟨rfl, rfl⟩
  rw [HOK.out]
  go_wp2_with fail
  refine (subrow_any _ n (by omega)).mono ?_
  rintro e w1 ⟨s1, c1, rfl, hown1, hb1⟩
  have HO1 := Lib.hid hown1; have HB1 := Lib.hid hb1; clear hown1 hb1
  go_wp2
  go_loopw [18] (fun i wr => ∃ (j : Nat) (P : List Int), j ≤ c.length ∧ i = .int .i64 (j : Int) ∧ P.length = n ∧ Hid (∀ t, t < j → 0 ≤ c.getD t 0 ∧ c.getD t 0 ≤ (n : Int) - 1 - (t : Int)) ∧ Hid (P.take j ++ pickR (P.drop j) (c.drop j) = pickL n c) ∧
    Hid (wr.ownsRow w.heap.size 3 1 (.slice s1 n c1) n (i64s P)) ∧ Hid (Below w.heap.size w wr)) (fun i _ => c.length - (intOf i).toNat)
  case atStart => exact ⟨0, rowL n, Nat.zero_le _, rfl, rowL_len _, fun t ht => by omega, rfl, HO1, HB1⟩
  case round =>
    obtain ⟨j, P, hj, rfl, hPl, HC, HP, HO, HB⟩ := hrel
    by_cases hlt : j < c.length
    · obtain ⟨b, off, hsa, hcc⟩ := (HR.out.below HB.out).at (by omega)
      have cx := hcc j _ (i64s_at c j hlt)
      have hblt : b < w.heap.size := by
        obtain ⟨b', off', hsa', hcc'⟩ := HR.out.at (by omega)
        rw [hsa] at hsa'
        cases hsa'
        exact World.block_lt_of_cell? _ _ (hcc' j _ (i64s_at c j hlt))
      have hbad : ¬ (0 ≤ c.getD j 0 ∧ c.getD j 0 ≤ (n : Int) - 1 - (j : Int)) → sbRightB (n : Int) c = false := fun hn => by
        rw [Bool.eq_false_iff, Ne, sbRightB_iff]; exact fun hh => hn (hh j hlt)
      subst hsa
      have HBAD := Lib.hid hbad; have HBL := Lib.hid hblt
      clear hcc hbad hblt
      by_cases h0 : c.getD j 0 < 0
      · generalize hx : c.getD j 0 = x at *
        have HX := Lib.hid hx; clear hx
        go_wp2
        go_ret2
        exact .inr ⟨HBAD.out (by omega), rfl, HB.out⟩
      · by_cases h1 : (n : Int) - 1 - (j : Int) < c.getD j 0
        · generalize hx : c.getD j 0 = x at *
          have HX := Lib.hid hx; clear hx
          go_wp2
          go_ret2
          exact .inr ⟨HBAD.out (by omega), rfl, HB.out⟩
        · obtain ⟨a, ha⟩ : ∃ a : Nat, c.getD j 0 = (a : Int) := ⟨(c.getD j 0).toNat, by omega⟩
          rw [ha] at cx h0 h1
          have hja : j + a < P.length := by omega
          obtain ⟨k0, k1, k2⟩ := swp_cut P j a hja
          have hstep : (swp P j (j + a)).take (j + 1) ++ pickR ((swp P j (j + a)).drop (j + 1)) (c.drop (j + 1)) = pickL n c := by
            have h1 := HP.out
            rw [drop_cons' c j hlt] at h1
            simp only [pickR] at h1
            rw [ha, Int.toNat_natCast, ← k1, k2] at h1
            rw [k0, List.append_assoc]; exact h1
          obtain ⟨g, hs1, hg1, hg2, hg3, hcell, hfz⟩ := row_ptr HO.out (by omega)
          subst hs1
          have ca := hcell (j + a) _ (i64s_at P (j + a) (by omega))
          have cj := hcell j _ (i64s_at P j (by omega))
          have fa := hfz (j + a)
          have fj := hfz j
          have hja' : (j : Int) + (a : Int) < (n : Int) := by omega
          have hjn : (j : Int) < (n : Int) := by omega
          have hj0 : (0 : Int) ≤ (j : Int) + (a : Int) := by omega
          have hj00 : (0 : Int) ≤ (j : Int) := by omega
          have HX := Lib.hid ha; have HPL := Lib.hid hPl; have HST := Lib.hid hstep
          clear ha hcell hfz hPl hstep hja k0 k1 k2
          generalize hy : P.getD j 0 = y at *
          generalize hz : P.getD (j + a) 0 = z at *
          have HY := Lib.hid hy; have HZ2 := Lib.hid hz
          clear hy hz
          obtain ⟨v2, hv2⟩ := cell?_setCell_some (w := wr) (p := ⟨g, j, none⟩) (x := .int .i64 z) (q := ⟨g, j + a, none⟩) (v := .int .i64 z) ca
          go_wp2
          go_region
          go_wp2
          go_roundw
          case rel =>
            refine ⟨j + 1, swp P j (j + a), by omega, by go_num, by rw [swp_len]; exact HPL.out, ?_, HST, ?_, ?_⟩
            · intro t ht
              by_cases htj : t = j
              · subst htj; rw [HX.out]; omega
              · exact HC.out t (by omega)
            · have h1 := row_set HO.out (i := j) (by omega) (.int .i64 z)
              have h2 := row_set h1 (i := j + a) (by omega) (.int .i64 y)
              rw [← i64s_set, ← i64s_set] at h2
              show World.ownsRow _ _ _ _ _ _ (i64s (swp P j (j + a)))
              unfold swp
              rw [HY.out, HZ2.out]
              exact h2
            · exact ((HB.out.setCell (p := ⟨g, j, none⟩) hg1 _).setCell (p := ⟨g, j + a, none⟩) hg1 _).drew
          case measure => simp [intOf]; omega
    · obtain rfl : j = c.length := by omega
      have hcap := (rd_of_row HO.out).cap_le
      have hc1 : (c.length : Int) ≤ (c1 : Int) := by omega
      clear hcap
      go_wp2
      go_ret2
      have hsb : sbRightB (n : Int) c = true := sbRightB_iff.2 HC.out
      have hp := HP.out
      rw [List.drop_length] at hp
      simp only [pickR, List.append_nil] at hp
      refine .inl ⟨hsb, _, _, rfl, ?_, HB.out⟩
      rw [← hp]
      exact (own_of_row HO.out).to_i64 hmn _ (Nat.le_refl _)

theorem pick_any (w : World) (n : Nat) (v : Value) (m : Nat) (c : List Int) (h : Rd w 1 v m (i64s c)) (hn : n ≤ 256) (hmn : m ≤ n) :
    Calls Tryz.prog 105 #[.int .i64 (n : Int), v] w fun e w' =>
      (sbRightB (n : Int) c = true ∧ ∃ sa cap, e = .returned (.tuple #[.slice sa m cap, .int .i64 0]) ∧ Rd w' 1 (.slice sa m cap) m (i64s (pickL n c)) ∧ Below w.heap.size w w') ∨
      (sbRightB (n : Int) c = false ∧ e = .returned (.tuple #[.slice none 0 0, .int .i64 2]) ∧ Below w.heap.size w w') :=
  (pick_own w n v m c h hn hmn).mono fun e w' hh => hh.imp (fun ⟨h1, sa, cap, h2, h3, h4⟩ => ⟨h1, sa, cap, h2, h3.rd, h4⟩) id

end Go.Proofs.YtcoohepkmhpdkaaGreat
