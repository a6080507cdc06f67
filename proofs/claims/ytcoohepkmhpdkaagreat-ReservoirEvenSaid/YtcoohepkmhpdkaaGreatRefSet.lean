/-
  The reference's Set.
-/
import Derived.Test.YtcoohepkmhpdkaaGreatSub3
namespace Go.Proofs.YtcoohepkmhpdkaaGreat
open Go.RowKit
set_option linter.unusedVariables false

/-- one that may be the next -/
def nextS (s : List Int) (q : Nat) (x : Int) : Prop := q = 0 ∨ s.getD (q - 1) 0 < x
theorem up_get {s : List Int} (h : Up s) {i j : Nat} (hij : i < j) (hj : j < s.length) : s.getD i 0 < s.getD j 0 := by
  have := List.pairwise_iff_getElem.1 h i j (by omega) hj hij
  simpa [List.getD, List.getElem?_eq_getElem hj, List.getElem?_eq_getElem (show i < s.length by omega)] using this
theorem nextS_self {s : List Int} (h : Up s) {q : Nat} (hq : q < s.length) : nextS s q (s.getD q 0) := by
  by_cases h0 : q = 0
  · exact .inl h0
  · exact .inr (up_get h (by omega) hq)
theorem nextS_le {s : List Int} (h : Up s) {q : Nat} {y : Int} (hq : q ≤ s.length) (hy : y ∈ s) (hn : nextS s q y) : q < s.length ∧ s.getD q 0 ≤ y := by
  obtain ⟨i, hi, rfl⟩ := mem_getD hy
  have hqi : q ≤ i := by
    rcases hn with h0 | h1
    · omega
    · by_cases h2 : q ≤ i
      · exact h2
      · exfalso
        by_cases h3 : i = q - 1
        · rw [h3] at h1; omega
        · have := up_get h (i := i) (j := q - 1) (by omega) (by omega); omega
  refine ⟨by omega, ?_⟩
  by_cases h2 : q = i
  · rw [h2]; omega
  · have := up_get h (i := q) (j := i) (by omega) hi; omega

def lenOf : Value → Nat
  | .slice _ n _ => n
  | _ => 0

set_option maxRecDepth 100000 in
set_option maxHeartbeats 4000000 in
theorem refset_any (w : World) (v : Value) (n : Nat) (l : List Int) (h : Rd w 1 v n (i64s l)) (hbig : n ≤ 40000) :
    Calls Tryz.prog 16 #[v] w fun e w' => ∃ sa cap, e = .returned (.slice sa (setL l).length cap) ∧ w'.ownsRow w.heap.size 3 1 (.slice sa (setL l).length cap) (setL l).length (i64s (setL l)) ∧ Below w.heap.size w w' := by
  have hln := h.len_i64
  subst hln
  obtain ⟨sa, cap, rfl⟩ := h.form
  have HR := Lib.hid h; clear h
  go_enter Tryz.func16, Tryz.ntmps16
  go_wp2
  go_loopw [3] (fun u wr => ∃ (q : Nat) (so : Option Addr) (co : Nat), q ≤ (setL l).length ∧ u = .slice so q co ∧ Hid (wr.ownsRow w.heap.size 3 1 (.slice so q co) q (i64s ((setL l).take q))) ∧ Hid (Below w.heap.size w wr)) (fun u _ => (setL l).length - lenOf u)
  case atStart => exact ⟨0, none, 0, Nat.zero_le _, rfl, World.ownsRow_nil _ _ _ _, Below.refl _ _⟩
  case round =>
    obtain ⟨q, so, co, hq, rfl, HO, HB⟩ := hrel
    have hql : q ≤ 40000 := Nat.le_trans hq (Nat.le_trans (setL_le l) hbig)
    obtain ⟨last, hlastdef⟩ : ∃ last, last = (setL l).getD (q - 1) 0 := ⟨_, rfl⟩
    have hq0 : q = 0 ∨ ∃ g, so = some ⟨g, 0, none⟩ ∧ 0 < q ∧ wr.cell? ⟨g, q - 1, none⟩ = some (.int .i64 last) ∧ (setL l).getD (q - 1) 0 = last := by
      rcases Nat.eq_zero_or_pos q with h | h
      · exact .inl h
      · obtain ⟨g, hs, hg1, hg2, hg3, hcell, hfz⟩ := row_ptr HO.out h
        refine .inr ⟨g, hs, h, ?_, hlastdef.symm⟩
        have h1 := hcell (q - 1) _ (i64s_at _ (q - 1) (by rw [List.length_take]; omega))
        rw [getD_take _ _ _ (by omega), ← hlastdef] at h1
        exact h1
    clear hlastdef
    go_wp2
    go_loop [4, 9] (fun bst i => ∃ s : Nat, s ≤ l.length ∧ i = .int .i64 s ∧ ((bst = .int .i64 (-1) ∧ ∀ t, t < s → ¬ nextS (setL l) q (l.getD t 0)) ∨ (∃ b' : Nat, b' < s ∧ bst = .int .i64 (b' : Int) ∧ nextS (setL l) q (l.getD b' 0) ∧ ∀ t, t < s → nextS (setL l) q (l.getD t 0) → l.getD b' 0 ≤ l.getD t 0))) (fun _ i => l.length - (intOf i).toNat)
    case atStart => exact ⟨0, Nat.zero_le _, rfl, .inl ⟨rfl, fun t ht => by omega⟩⟩
    case round =>
      obtain ⟨s, hs, rfl, hbst⟩ := hrel
      by_cases hlt : s < l.length
      · obtain ⟨b, off, rfl, hc⟩ := (HR.out.below HB.out).at (by omega)
        have cx := hc s _ (i64s_at l s hlt)
        have HCC := Lib.hid hc
        have BST := Lib.hid hbst
        clear hc
        generalize hx : l.getD s 0 = x at *
        have HX := Lib.hid hx; clear hx
        rcases hq0 with hq0 | ⟨g, hso, hqpos, cq, hlast⟩
        · have q0 : ((q : Int) == 0) = true := by simp [hq0]
          have hnx : nextS (setL l) q x := .inl hq0
          clear hq0
          rcases hbst with ⟨rfl, hh⟩ | ⟨b', hb', rfl, hh1, hh2⟩
          · have HH := Lib.hid hh; clear hh
            have NX := Lib.hid hnx; clear hnx
            go_wp2
            go_round
            case rel =>
              refine ⟨s + 1, by omega, by go_num, .inr ⟨s, by omega, rfl, (by rw [HX.out]; exact NX.out), fun t ht hc => ?_⟩⟩
              by_cases hts : t = s
              · subst hts; exact Int.le_refl _
              · exact absurd hc (HH.out t (by omega))
            case measure => simp [intOf]; omega
          · have cy := HCC.out b' _ (i64s_at l b' (by omega))
            have hb'l : (b' : Int) < (l.length : Int) := by omega
            have hb0 : (0 : Int) ≤ (b' : Int) := by omega
            have H1 := Lib.hid hh1; have H2 := Lib.hid hh2; clear hh1 hh2
            generalize hy : l.getD b' 0 = y at *
            have HY := Lib.hid hy; clear hy
            by_cases hxy : x < y
            · have NX := Lib.hid hnx; clear hnx
              go_wp2
              go_round
              case rel =>
                refine ⟨s + 1, by omega, by go_num, .inr ⟨s, by omega, rfl, (by rw [HX.out]; exact NX.out), fun t ht hc => ?_⟩⟩
                by_cases hts : t = s
                · subst hts; exact Int.le_refl _
                · have := H2.out t (by omega) hc
                  rw [HX.out]; have := HY.out; omega
              case measure => simp [intOf]; omega
            · have NX := Lib.hid hnx; clear hnx
              go_wp2
              go_round
              case rel =>
                refine ⟨s + 1, by omega, by go_num, .inr ⟨b', by omega, rfl, (by rw [HY.out]; exact H1.out), fun t ht hc => ?_⟩⟩
                by_cases hts : t = s
                · subst hts; rw [HX.out, HY.out]; omega
                · rw [HY.out]; exact H2.out t (by omega) hc
              case measure => simp [intOf]; omega
        · have q0 : ((q : Int) == 0) = false := by simp; omega
          subst hso
          by_cases hl : last < x
          · have hnx : nextS (setL l) q x := .inr (by rw [hlast]; exact hl)
            have HLA := Lib.hid hlast
            clear hlast
            rcases hbst with ⟨rfl, hh⟩ | ⟨b', hb', rfl, hh1, hh2⟩
            · have HH := Lib.hid hh; clear hh
              have NX := Lib.hid hnx; clear hnx
              go_wp2
              go_round
              case rel =>
                refine ⟨s + 1, by omega, by go_num, .inr ⟨s, by omega, rfl, (by rw [HX.out]; exact NX.out), fun t ht hc => ?_⟩⟩
                by_cases hts : t = s
                · subst hts; exact Int.le_refl _
                · exact absurd hc (HH.out t (by omega))
              case measure => simp [intOf]; omega
            · have cy := HCC.out b' _ (i64s_at l b' (by omega))
              have hb'l : (b' : Int) < (l.length : Int) := by omega
              have hb0 : (0 : Int) ≤ (b' : Int) := by omega
              have H1 := Lib.hid hh1; have H2 := Lib.hid hh2; clear hh1 hh2
              generalize hy : l.getD b' 0 = y at *
              have HY := Lib.hid hy; clear hy
              by_cases hxy : x < y
              · have NX := Lib.hid hnx; clear hnx
                go_wp2
                go_round
                case rel =>
                  refine ⟨s + 1, by omega, by go_num, .inr ⟨s, by omega, rfl, (by rw [HX.out]; exact NX.out), fun t ht hc => ?_⟩⟩
                  by_cases hts : t = s
                  · subst hts; exact Int.le_refl _
                  · have := H2.out t (by omega) hc
                    rw [HX.out]; have := HY.out; omega
                case measure => simp [intOf]; omega
              · have NX := Lib.hid hnx; clear hnx
                go_wp2
                go_round
                case rel =>
                  refine ⟨s + 1, by omega, by go_num, .inr ⟨b', by omega, rfl, (by rw [HY.out]; exact H1.out), fun t ht hc => ?_⟩⟩
                  by_cases hts : t = s
                  · subst hts; rw [HX.out, HY.out]; omega
                  · rw [HY.out]; exact H2.out t (by omega) hc
                case measure => simp [intOf]; omega
          · have hnx : ¬ nextS (setL l) q x := by
              rintro (h | h)
              · omega
              · rw [hlast] at h; exact hl h
            have HLA := Lib.hid hlast
            clear hbst hlast
            have NX := Lib.hid hnx; clear hnx
            go_wp2
            go_round
            case rel =>
              refine ⟨s + 1, by omega, by go_num, ?_⟩
              rcases BST.out with ⟨rfl, hh⟩ | ⟨b', hb', rfl, hh1, hh2⟩
              · refine .inl ⟨rfl, fun t ht => ?_⟩
                by_cases hts : t = s
                · subst hts; rw [HX.out]; exact NX.out
                · exact hh t (by omega)
              · refine .inr ⟨b', by omega, rfl, hh1, fun t ht hc => ?_⟩
                by_cases hts : t = s
                · subst hts; rw [HX.out] at hc; exact absurd hc NX.out
                · exact hh2 t (by omega) hc
            case measure => simp [intOf]; omega
      · obtain rfl : s = l.length := by omega
        obtain ⟨hup, hmem⟩ := setL_up l
        rcases hbst with ⟨rfl, hh⟩ | ⟨b', hb', rfl, hh1, hh2⟩
        · have hqe : q = (setL l).length := by
            by_cases h : q < (setL l).length
            · exfalso
              obtain ⟨t, ht, he⟩ := mem_getD ((hmem _).1 (getD_mem (setL l) q h))
              exact hh t ht (by rw [he]; exact nextS_self hup h)
            · omega
          have HQE := Lib.hid hqe
          clear hh hup hmem hq0
          go_wp2
          go_ret
          have hq := HQE.out
          subst hq
          refine ⟨so, co, rfl, ?_, HB.out⟩
          have := HO.out
          rw [List.take_length] at this
          exact this
        · have hy : l.getD b' 0 ∈ setL l := (hmem _).2 (getD_mem l b' hb')
          obtain ⟨k1, k2⟩ := nextS_le hup hq hy hh1
          have hbe : l.getD b' 0 = (setL l).getD q 0 := by
            obtain ⟨t, ht, he⟩ := mem_getD ((hmem _).1 (getD_mem (setL l) q k1))
            have := hh2 t ht (by rw [he]; exact nextS_self hup k1)
            rw [he] at this
            omega
          have hstep : (setL l).take q ++ [l.getD b' 0] = (setL l).take (q + 1) := by
            rw [List.take_succ_eq_append_getElem k1, hbe]
            simp [List.getD, List.getElem?_eq_getElem k1]
          obtain ⟨b, off, rfl, hc⟩ := (HR.out.below HB.out).at (by omega)
          have cx := hc b' _ (i64s_at l b' hb')
          have hb'l : (b' : Int) < (l.length : Int) := by omega
          have hb0 : (0 : Int) ≤ (b' : Int) := by omega
          have hsl := setL_le l
          have hqs : q < 50000 := by omega
          have HST := Lib.hid hstep; have HK := Lib.hid k1
          clear hc hy hh1 hh2 hstep hup hmem hbe k1 k2 hsl hq0
          generalize hyy : l.getD b' 0 = y at *
          clear hyy
          go_wp2_with (at_builtin; refine app_i64 _ rfl _ _ rfl w.heap.size _ _ _ rfl HO.out _ _ rfl ?qg ?qn ?qb ?_)
          case qg => rfl
          case qn => omega
          case qb => exact HB.out.size
          intro v' w1 hown hchg hfresh
          obtain ⟨so', co', rfl⟩ := (rd_of_row hown).form
          rw [← i64s_snoc, HST.out] at hown
          have HO1 := Lib.hid hown; have HC1 := Lib.hid hchg
          clear hown hchg hfresh
          go_wp2
          go_roundw
          case rel => exact ⟨q + 1, so', co', HK.out, rfl, HO1, HB.out.trans (HC1.out.below HB.out.size fun i hi => (HO.out.lt i hi).1)⟩
          case measure =>
            have := HK.out
            simp [lenOf]; omega

end Go.Proofs.YtcoohepkmhpdkaaGreat
