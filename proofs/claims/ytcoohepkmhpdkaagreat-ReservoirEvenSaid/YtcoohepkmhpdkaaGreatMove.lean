/-
  slices.IsSorted, subset.rises, Move; the reference's Rises, has, Move.
-/
import Derived.Test.YtcoohepkmhpdkaaGreatOthers
import Derived.Test.YtcoohepkmhpdkaaGreatSub3
import Derived.Deep.RegionHeld3
namespace Go.Proofs.YtcoohepkmhpdkaaGreat
open Go.RowKit
set_option linter.unusedVariables false
set_option linter.unusedSimpArgs false

/-- each element is no less than the one ahead of it -/
def Srt (l : List Int) : Prop := ∀ i, i + 1 < l.length → l.getD i 0 ≤ l.getD (i + 1) 0
def srtB (l : List Int) : Bool := (List.range (l.length - 1)).all fun i => decide (l.getD i 0 ≤ l.getD (i + 1) 0)
theorem srtB_iff {l : List Int} : srtB l = true ↔ Srt l := by
  simp only [srtB, Srt, List.all_eq_true, List.mem_range, decide_eq_true_eq]
  exact ⟨fun h i hi => h i (by omega), fun h i hi => h i (by omega)⟩
theorem srtB_not {l : List Int} {i : Nat} (hi : i + 1 < l.length) (h : l.getD (i + 1) 0 < l.getD i 0) : srtB l = false := by
  rw [Bool.eq_false_iff]
  intro hb
  have := srtB_iff.1 hb i hi
  omega

set_option maxRecDepth 100000 in
set_option maxHeartbeats 2000000 in
theorem sorted_any (w : World) (v : Value) (n : Nat) (l : List Int) (h : Rd w 1 v n (i64s l)) (hbig : n ≤ 17592186043904) :
    Calls Tryz.prog 116 #[v] w fun e w' => e = .returned (.bool (srtB l)) ∧ ∃ m, w' = w.drewN m := by
  obtain rfl := h.len_i64
  obtain ⟨sa, ca, rfl⟩ := h.form
  have H := Lib.hid h; clear h
  go_enter Tryz.func116, Tryz.ntmps116
  go_wp2
  go_loopw [3] (fun s wr => ∃ (i : Int) (m : Nat), -1 ≤ i ∧ i ≤ 17592186043904 ∧ s = .int .i64 i ∧ wr = w.drewN m ∧ Hid (i ≤ (l.length : Int) - 1 ∧ (0 ≤ i ∨ l.length = 0) ∧ ∀ j : Nat, i ≤ (j : Int) → j + 1 < l.length → l.getD j 0 ≤ l.getD (j + 1) 0)) (fun s _ => (intOf s + 1).toNat)
  case atStart => exact ⟨(l.length : Int) - 1, 0, by omega, by omega, rfl, rfl, Lib.hid ⟨Int.le_refl _, by omega, fun j h1 h2 => by omega⟩⟩
  case round =>
    obtain ⟨i, m, hi1, hi2, rfl, hwr, HI⟩ := hrel
    have HWR := Lib.hid hwr
    have hbw : Below w.heap.size w wr := by rw [hwr]; exact below_drewN' (Below.refl _ _) m
    have HBW := Lib.hid hbw
    clear hwr hbw
    by_cases hlt : 0 < i
    · obtain ⟨hb1, hb2, hb3⟩ := HI.out
      obtain ⟨q, rfl⟩ : ∃ q : Nat, i = (q : Int) + 1 := ⟨(i - 1).toNat, by omega⟩
      obtain ⟨b, off, rfl, hc⟩ := (H.out.below HBW.out).at (by omega)
      have x1 := hc (q + 1) _ (i64s_at l (q + 1) (by omega))
      have x2 := hc q _ (i64s_at l q (by omega))
      have e1 : ((q : Int) + 1 - 1) = (q : Int) := by omega
      have z1 : (0 : Int) ≤ (q : Int) := by omega
      have z2 : (q : Int) < (l.length : Int) := by omega
      have z3 : (q : Int) + 1 < (l.length : Int) := by omega
      have z4 : (0 : Int) ≤ (q : Int) + 1 := by omega
      have u1 : IntKind.i64.wrap (q : Int) = (q : Int) := by rw [IntKind.wrap_i64]; omega
      have L := fun w' => Tryz.cmp_Less_int2 (l.getD (q + 1) 0) (l.getD q 0) w'
      by_cases hx : l.getD (q + 1) 0 < l.getD q 0
      · have hnot := srtB_not (by omega) hx
        generalize l.getD (q + 1) 0 = x at *
        generalize l.getD q 0 = y at *
        have hd : decide (x < y) = true := decide_eq_true hx
        rw [hd] at L
        have HL := Lib.hid L; have HN := Lib.hid hnot
        clear hc L hnot hx hd hb3 hb1 hb2 hlt
        go_wp2
        go_quiet ((go_at_call 144; exact Calls.quiet_of_same (HL.out _)))
        go_wp2
        go_ret
        exact ⟨ret_bool HN.out.symm, m + nq, by rw [HWR.out]; simp⟩
      · have hle : l.getD q 0 ≤ l.getD (q + 1) 0 := by omega
        have HLE := Lib.hid hle
        have HREL := Lib.hid (show (q : Int) ≤ (l.length : Int) - 1 ∧ (0 ≤ (q : Int) ∨ l.length = 0) ∧ ∀ j : Nat, (q : Int) ≤ (j : Int) → j + 1 < l.length → l.getD j 0 ≤ l.getD (j + 1) 0 from ⟨by omega, .inl (by omega), fun j h1 h2 => by
          by_cases h3 : j = q
          · subst h3; exact hle
          · exact hb3 j (by omega) h2⟩)
        generalize l.getD (q + 1) 0 = x at x1 L hx
        generalize l.getD q 0 = y at x2 L hx
        have hd : decide (x < y) = false := by simp; omega
        rw [hd] at L
        have HL := Lib.hid L
        clear hc L hx hd hb3 hb1 hb2 hlt hle
        go_wp2
        go_quiet ((go_at_call 144; exact Calls.quiet_of_same (HL.out _)))
        go_wp2
        go_roundw
        case rel => exact ⟨(q : Int), m + nq, by omega, by omega, by go_num, by rw [HWR.out]; simp, HREL⟩
        case measure => simp [intOf]; omega
    · go_wp2
      go_ret
      exact ⟨ret_bool (srtB_iff.2 fun j hj => HI.out.2.2 j (by omega) hj).symm, m, HWR.out⟩

/-- a pick that rises -/
def rsB (n : Int) (l : List Int) : Bool := isSB n l && srtB l

set_option maxRecDepth 100000 in
set_option maxHeartbeats 2000000 in
theorem rises_any (w : World) (n : Int) (v : Value) (m : Nat) (l : List Int) (h : Rd w 1 v m (i64s l)) (hbig : m ≤ 17592186043904) :
    Calls Tryz.prog 79 #[.int .i64 n, v] w fun e w' => e = .returned (.bool (rsB n l)) ∧ Below w.heap.size w w' := by
  have C := Lib.hid (subis_any w n v m l h hbig)
  have HR := Lib.hid h
  obtain ⟨sa, ca, rfl⟩ := h.form
  clear h
  cases his : isSB n l with
  | false =>
    have HB := Lib.hid (show rsB n l = false by simp [rsB, his])
    have HIS := Lib.hid his; clear his
    go_enter Tryz.func79, Tryz.ntmps79
    go_wp2_with fail
    refine C.out.mono ?_
    rintro e w1 ⟨rfl, hb⟩
    have HB1 := Lib.hid hb; clear hb
    rw [HIS.out]
    go_wp2_with fail
    go_ret
    exact ⟨ret_bool HB.out.symm, HB1.out⟩
  | true =>
    have HB := Lib.hid (show rsB n l = srtB l by simp [rsB, his])
    have HIS := Lib.hid his; clear his
    go_enter Tryz.func79, Tryz.ntmps79
    go_wp2_with fail
    refine C.out.mono ?_
    rintro e w1 ⟨rfl, hb⟩
    have HB1 := Lib.hid hb; clear hb
    rw [HIS.out]
    go_wp2_with fail
    refine (sorted_any w1 _ m l (HR.out.below HB1.out) hbig).mono ?_
    rintro e w2 ⟨rfl, q, rfl⟩
    go_wp2_with fail
    go_ret
    exact ⟨ret_bool (by rw [HB.out]), below_drewN' HB1.out _⟩

set_option maxRecDepth 100000 in
set_option maxHeartbeats 2000000 in
theorem refrises_any (w : World) (n : Int) (v : Value) (m : Nat) (l : List Int) (h : Rd w 1 v m (i64s l)) (hbig : m ≤ 17592186043904) :
    Calls Tryz.prog 14 #[.int .i64 n, v] w fun e w' => e = .returned (.bool (rsB n l)) ∧ ∃ q, w' = w.drewN q := by
  have C := Lib.hid (refis41_any w n v m l h hbig)
  obtain rfl := h.len_i64
  obtain ⟨sa, ca, rfl⟩ := h.form
  have H := Lib.hid h; clear h
  cases his : isSB n l with
  | false =>
    have HB := Lib.hid (show rsB n l = false by simp [rsB, his])
    have HIS := Lib.hid his; clear his
    go_enter Tryz.func14, Tryz.ntmps14
    go_wp2_with fail
    refine C.out.mono ?_
    rintro e w1 ⟨rfl, rfl⟩
    rw [HIS.out]
    go_wp2_with fail
    go_ret
    exact ⟨ret_bool HB.out.symm, 0, rfl⟩
  | true =>
    have HB := Lib.hid (show rsB n l = srtB l by simp [rsB, his])
    have HIS := Lib.hid his; clear his
    go_enter Tryz.func14, Tryz.ntmps14
    go_wp2_with fail
    refine C.out.mono ?_
    rintro e w1 ⟨rfl, rfl⟩
    rw [HIS.out]
    go_wp2_with fail
    go_loopw [5] (fun s wr => ∃ (q : Nat) (u : Nat), s = .int .i64 ((q : Int) + 1) ∧ q ≤ l.length ∧ wr = w.drewN u ∧ Hid (∀ j : Nat, j < q → j + 1 < l.length → l.getD j 0 ≤ l.getD (j + 1) 0)) (fun s _ => (l.length + 1) - (intOf s).toNat)
    case atStart => exact ⟨0, 0, rfl, Nat.zero_le _, rfl, Lib.hid fun j h1 _ => by omega⟩
    case round =>
      obtain ⟨q, u, rfl, hql, hwr, HI⟩ := hrel
      have HWR := Lib.hid hwr
      have hbw : Below w.heap.size w wr := by rw [hwr]; exact below_drewN' (Below.refl _ _) u
      have HBW := Lib.hid hbw
      clear hwr hbw
      by_cases hlt : q + 1 < l.length
      · obtain ⟨b, off, rfl, hc⟩ := (H.out.below HBW.out).at (by omega)
        have x1 := hc (q + 1) _ (i64s_at l (q + 1) (by omega))
        have x2 := hc q _ (i64s_at l q (by omega))
        have e1 : ((q : Int) + 1 - 1) = (q : Int) := by omega
        have z1 : (0 : Int) ≤ (q : Int) := by omega
        have z2 : (q : Int) < (l.length : Int) := by omega
        have z3 : (q : Int) + 1 < (l.length : Int) := by omega
        have z4 : (0 : Int) ≤ (q : Int) + 1 := by omega
        have u1 : IntKind.i64.wrap (q : Int) = (q : Int) := by rw [IntKind.wrap_i64]; omega
        by_cases hx : l.getD (q + 1) 0 < l.getD q 0
        · have hnot := srtB_not hlt hx
          generalize l.getD (q + 1) 0 = x at *
          generalize l.getD q 0 = y at *
          have hd : decide (x < y) = true := decide_eq_true hx
          have HN := Lib.hid hnot
          clear hc hnot hx
          go_wp2
          go_quiet (fail)
          go_wp2
          go_ret
          exact ⟨ret_bool (by rw [HB.out, HN.out]), u + nq, by rw [HWR.out]; simp⟩
        · have HREL := Lib.hid (show ∀ j : Nat, j < q + 1 → j + 1 < l.length → l.getD j 0 ≤ l.getD (j + 1) 0 from fun j h1 h2 => by
            by_cases h3 : j = q
            · subst h3; omega
            · exact HI.out j (by omega) h2)
          generalize l.getD (q + 1) 0 = x at x1 hx
          generalize l.getD q 0 = y at x2 hx
          have hd : decide (x < y) = false := by simp; omega
          clear hc hx
          go_wp2
          go_quiet (fail)
          go_wp2
          go_roundw
          case rel => exact ⟨q + 1, u + nq, by go_num, by omega, by rw [HWR.out]; simp, HREL⟩
          case measure => simp [intOf]; omega
      · go_wp2
        go_ret
        exact ⟨ret_bool (by rw [HB.out]; exact (srtB_iff.2 fun j hj => HI.out j (by omega) hj).symm), u, HWR.out⟩

theorem rs_up {n : Int} {l : List Int} (h : rsB n l = true) : IsS n l ∧ Up l := by
  simp only [rsB, Bool.and_eq_true] at h
  have h1 := isSB_iff.1 h.1
  have h2 := srtB_iff.1 h.2
  refine ⟨h1, ?_⟩
  have hle : ∀ i j, i < j → j < l.length → l.getD i 0 ≤ l.getD j 0 := by
    intro i j hij
    induction j with
    | zero => omega
    | succ j ih =>
      intro hj
      by_cases h3 : i = j
      · subst h3; exact h2 i hj
      · exact Int.le_trans (ih (by omega) (by omega)) (h2 j hj)
  refine List.pairwise_iff_getElem.2 fun i j hi hj hij => ?_
  have h4 := hle i j hij hj
  have h5 : l[i] ≠ l[j] := fun he => by
    have := (List.nodup_iff_pairwise_ne.1 h1.1)
    exact (List.pairwise_iff_getElem.1 this i j hi hj hij) he
  rw [List.getD_eq_getElem?_getD, List.getD_eq_getElem?_getD, List.getElem?_eq_getElem hi, List.getElem?_eq_getElem hj] at h4
  simp only [Option.getD_some] at h4
  omega


theorem concat_ends (w : World) (g : Nat) (v1 v2 : Value) (n1 n2 : Nat) (l1 l2 l : List Int) (m : Nat) (hl : l1 ++ l2 = l) (hm : l.length = m) (h1 : Rd w 1 v1 n1 (i64s l1)) (h2 : Rd w 1 v2 n2 (i64s l2)) (hb1 : n1 ≤ 50000) (hb2 : n2 ≤ 50000)
    (hc0 : w.cell? ⟨g, 0, none⟩ = some v1) (hc1 : w.cell? ⟨g, 1, none⟩ = some v2) (hg : g < w.heap.size) :
    Calls Tryz.prog 80 #[.slice (some ⟨g, 0, none⟩) 2 2] w fun e w' => ∃ sa cap, e = .returned (.slice sa m cap) ∧ w'.ownsRow w.heap.size 3 1 (.slice sa m cap) m (i64s l) ∧ Below w.heap.size w w' := by
  subst hl; subst hm
  exact concat_two w g v1 v2 n1 n2 l1 l2 h1 h2 hb1 hb2 hc0 hc1 hg

set_option maxRecDepth 100000 in
set_option maxHeartbeats 1000000 in
theorem submove_cnt (w : World) (n : Int) (vf vt : Value) (h : ¬ (0 ≤ n ∧ n ≤ 256)) :
    Calls Tryz.prog 34 #[.int .i64 n, vf, vt] w fun e w' => e = .returned (.tuple #[.slice none 0 0, .int .i64 1]) ∧ w = w' := by
  have hr : decide (0 ≤ n ∧ n ≤ 256 ∧ (0 : Int) ≤ n) = false := by
    rw [decide_eq_false_iff_not]; exact fun hh => h ⟨hh.1, hh.2.1⟩
  have HR := Lib.hid hr; clear hr h
  go_enter Tryz.func34, Tryz.ntmps34
  go_wp2_with fail
  refine (subright_any _ _ _).mono ?_
  rintro e w1 ⟨rfl, rfl⟩
  rw [HR.out]
  go_wp2
  go_ret2
  exact ⟨rfl, rfl⟩

set_option maxRecDepth 100000 in
set_option maxHeartbeats 2000000 in
theorem submove_dom (w : World) (n : Nat) (vf vt : Value) (mf mt : Nat) (fr to : List Int) (hf : Rd w 1 vf mf (i64s fr)) (ht : Rd w 1 vt mt (i64s to)) (hbf : mf ≤ 17592186043904) (hbt : mt ≤ 17592186043904) (hn : n ≤ 256)
    (h : ¬ (rsB (n : Int) fr = true ∧ rsB (n : Int) to = true ∧ fr.length = to.length)) :
    Calls Tryz.prog 34 #[.int .i64 (n : Int), vf, vt] w fun e w' => e = .returned (.tuple #[.slice none 0 0, .int .i64 2]) ∧ Below w.heap.size w w' := by
  obtain rfl := hf.len_i64
  obtain rfl := ht.len_i64
  obtain ⟨sf, cf, rfl⟩ := hf.form
  obtain ⟨st, ct, rfl⟩ := ht.form
  have hr : decide (0 ≤ (n : Int) ∧ (n : Int) ≤ 256 ∧ (0 : Int) ≤ (n : Int)) = true := by rw [decide_eq_true_iff]; omega
  have HOK := Lib.hid hr; have HF := Lib.hid hf; have HT := Lib.hid ht; clear hr hf ht
  cases h1 : rsB (n : Int) fr with
  | false =>
    have H1 := Lib.hid h1; clear h h1
    go_enter Tryz.func34, Tryz.ntmps34
    go_wp2_with fail
    refine (subright_any _ _ _).mono ?_
    rintro e w1 ⟨rfl, rfl⟩
    rw [HOK.out]
    go_wp2_with fail
    refine (rises_any _ _ _ _ fr HF.out hbf).mono ?_
    rintro e w1 ⟨rfl, hb1⟩
    rw [H1.out]
    have HB1 := Lib.hid hb1; clear hb1
    go_wp2
    go_ret2
    exact ⟨rfl, HB1.out⟩
  | true =>
    cases h2 : rsB (n : Int) to with
    | false =>
      have H1 := Lib.hid h1; have H2 := Lib.hid h2; clear h h1 h2
      go_enter Tryz.func34, Tryz.ntmps34
      go_wp2_with fail
      refine (subright_any _ _ _).mono ?_
      rintro e w1 ⟨rfl, rfl⟩
      rw [HOK.out]
      go_wp2_with fail
      refine (rises_any _ _ _ _ fr HF.out hbf).mono ?_
      rintro e w1 ⟨rfl, hb1⟩
      rw [H1.out]
      have HB1 := Lib.hid hb1; clear hb1
      go_wp2_with fail
      refine (rises_any _ _ _ _ to (HT.out.below HB1.out) hbt).mono ?_
      rintro e w2 ⟨rfl, hb2⟩
      rw [H2.out]
      have HB2 := Lib.hid hb2; clear hb2
      go_wp2
      go_ret2
      exact ⟨rfl, below_two HB1.out HB2.out⟩
    | true =>
      have h3 : fr.length ≠ to.length := fun e => h ⟨h1, h2, e⟩
      have H1 := Lib.hid h1; have H2 := Lib.hid h2; clear h h1 h2
      have h4 : ((fr.length : Int) != (to.length : Int)) = true := by simp; omega
      go_enter Tryz.func34, Tryz.ntmps34
      go_wp2_with fail
      refine (subright_any _ _ _).mono ?_
      rintro e w1 ⟨rfl, rfl⟩
      rw [HOK.out]
      go_wp2_with fail
      refine (rises_any _ _ _ _ fr HF.out hbf).mono ?_
      rintro e w1 ⟨rfl, hb1⟩
      rw [H1.out]
      have HB1 := Lib.hid hb1; clear hb1
      go_wp2_with fail
      refine (rises_any _ _ _ _ to (HT.out.below HB1.out) hbt).mono ?_
      rintro e w2 ⟨rfl, hb2⟩
      rw [H2.out]
      have HB2 := Lib.hid hb2; clear hb2
      go_wp2
      go_ret2
      exact ⟨rfl, below_two HB1.out HB2.out⟩

set_option maxRecDepth 100000 in
set_option maxHeartbeats 4000000 in
theorem submove_ok (w : World) (n : Nat) (vf vt : Value) (mf mt : Nat) (fr to : List Int) (hf : Rd w 1 vf mf (i64s fr)) (ht : Rd w 1 vt mt (i64s to)) (hn : n ≤ 256)
    (h1 : rsB (n : Int) fr = true) (h2 : rsB (n : Int) to = true) (h3 : fr.length = to.length) :
    Calls Tryz.prog 34 #[.int .i64 (n : Int), vf, vt] w fun e w' => ∃ sa cap, e = .returned (.tuple #[.slice sa n cap, .int .i64 0]) ∧ w'.ownsRow w.heap.size 3 1 (.slice sa n cap) n (i64s (moveL n fr to)) ∧ Below w.heap.size w w' := by
  obtain rfl := hf.len_i64
  obtain rfl := ht.len_i64
  obtain ⟨sf, cf, rfl⟩ := hf.form
  obtain ⟨st, ct, rfl⟩ := ht.form
  have isf := (rs_up h1).1
  have ist := (rs_up h2).1
  have lf := othL_len isf
  have lt := othL_len ist
  have ef := endsL_len isf
  have et := endsL_len ist
  have hr : decide (0 ≤ (n : Int) ∧ (n : Int) ≤ 256 ∧ (0 : Int) ≤ (n : Int)) = true := by rw [decide_eq_true_iff]; omega
  have h4 : ((fr.length : Int) != (to.length : Int)) = false := by rw [h3]; simp
  have HOK := Lib.hid hr; have HF := Lib.hid hf; have HT := Lib.hid ht; have H1 := Lib.hid h1; have H2 := Lib.hid h2; have ISF := Lib.hid isf; have IST := Lib.hid ist; clear hr hf ht h1 h2 isf ist
  have H3 := Lib.hid h3; clear h3
  have LF := Lib.hid lf; have LT := Lib.hid lt; have EF := Lib.hid ef; have ET := Lib.hid et; clear lf lt ef et
  go_enter Tryz.func34, Tryz.ntmps34
  go_wp2_with fail
  refine (subright_any _ _ _).mono ?_
  rintro e w1 ⟨rfl, rfl⟩
  rw [HOK.out]
  go_wp2_with fail
  refine (rises_any _ _ _ _ fr HF.out (by have := LF.out; omega)).mono ?_
  rintro e w1 ⟨rfl, hb1⟩
  rw [H1.out]
  have HB1 := Lib.hid hb1; clear hb1
  go_wp2_with fail
  refine (rises_any _ _ _ _ to (HT.out.below HB1.out) (by have := LT.out; omega)).mono ?_
  rintro e w2 ⟨rfl, hb2⟩
  rw [H2.out]
  have HB2 := Lib.hid (below_two HB1.out hb2); clear hb2 HB1
  go_wp2_with (at_make; refine mk_i64 _ rfl _ _ rfl w2.heap.size _ _ n rfl rfl ?hL ?hC ?hN ?hB ?_)
  case hL => rfl
  case hC => rfl
  case hN => omega
  case hB => exact Nat.le_refl _
  intro w3 hown3 hc3 hsz3
  have hB3 : Below w.heap.size w w3 := HB2.out.trans (hc3.below HB2.out.size (fun _ h => h.elim))
  have HO3 := Lib.hid hown3; have HB3 := Lib.hid hB3; have HS3 := Lib.hid hsz3
  clear hown3 hB3 hc3 hsz3
  go_wp2_with fail
  refine (others_any _ n _ _ to (HT.out.below HB3.out) (by have := LT.out; omega) (by omega)).mono ?_
  rintro e w4 ⟨s4, c4, rfl, hown4, hb4⟩
  have HO4 := Lib.hid hown4; have HB4 := Lib.hid hb4; clear hown4 hb4
  have hball : Below w3.heap.size w3 (w4.alloc (.cells #[.slice st to.length ct, .slice s4 (othL n to).length c4] 36)) := HB4.out.alloc HB4.out.size _
  have HBA := Lib.hid hball; have HL5 := Lib.hid hball.size; clear hball
  go_wp2_with fail
  refine (concat_ends _ w4.heap.size (.slice st to.length ct) (.slice s4 (othL n to).length c4) to.length (othL n to).length to (othL n to) (endsL n to) n rfl ET.out ((HT.out.below HB3.out).below HBA.out) ?r2 (by have := LT.out; omega) (by have := LT.out; omega) (cell_of (heap_alloc_new w4 _) 0 rfl) (cell_of (heap_alloc_new w4 _) 1 rfl) (by simp)).mono ?_
  case r2 => exact (rd_of_row HO4.out).below ((Below.refl _ _).alloc (Nat.le_refl _) _)
  rintro e w5 ⟨s5, c5, rfl, hown5, hb5⟩
  have HO5 := Lib.hid hown5; have HB5 := Lib.hid (below_two HBA.out hb5); clear hown5 hb5 HBA HO4 HB4
  have hw3b : Below w.heap.size w w5 := HB3.out.trans (HB5.out.mono HB3.out.size)
  have HW5 := Lib.hid hw3b; clear hw3b
  go_wp2_with fail
  refine (others_any _ n _ _ fr (HF.out.below HW5.out) (by have := LF.out; omega) (by omega)).mono ?_
  rintro e w6 ⟨s6, c6, rfl, hown6, hb6⟩
  have HO6 := Lib.hid hown6; have HB6 := Lib.hid hb6; clear hown6 hb6
  have hball : Below w5.heap.size w5 (w6.alloc (.cells #[.slice sf fr.length cf, .slice s6 (othL n fr).length c6] 36)) := HB6.out.alloc HB6.out.size _
  have HBA := Lib.hid hball; have HL7 := Lib.hid hball.size; clear hball
  go_wp2_with fail
  refine (concat_ends _ w6.heap.size (.slice sf fr.length cf) (.slice s6 (othL n fr).length c6) fr.length (othL n fr).length fr (othL n fr) (endsL n fr) n rfl EF.out ((HF.out.below HW5.out).below HBA.out) ?r3 (by have := LF.out; omega) (by have := LF.out; omega) (cell_of (heap_alloc_new w6 _) 0 rfl) (cell_of (heap_alloc_new w6 _) 1 rfl) (by simp)).mono ?_
  case r3 => exact (rd_of_row HO6.out).below ((Below.refl _ _).alloc (Nat.le_refl _) _)
  rintro e w7 ⟨s7, c7, rfl, hown7, hb7⟩
  have hb57 : Below w5.heap.size w5 w7 := below_two HBA.out hb7
  have ho3 : w7.ownsRow w2.heap.size 3 1 (.slice (some ⟨w2.heap.size, 0, none⟩) n n) n (i64s (List.replicate n 0)) := row_kept HO3.out fun g hg => by
    cases hg
    show w7.heap[w2.heap.size]? = w3.heap[w2.heap.size]?
    have h3 := HS3.out
    have h5 := HB5.out.size
    rw [hb57.block _ (Nat.lt_of_lt_of_le h3 h5), HB5.out.block _ h3]
  have ho5 : w7.ownsRow w3.heap.size 3 1 (.slice s5 n c5) n (i64s (endsL n to)) := row_kept (row_mono HO5.out HL5.out) fun g hg => by
    rw [hb57.block _ (HO5.out.lt g hg).2]
  have ho7 : w7.ownsRow w5.heap.size 3 1 (.slice s7 n c7) n (i64s (endsL n fr)) := row_mono hown7 HL7.out
  have hbw7 : Below w.heap.size w w7 := HB3.out.trans ((HB5.out.mono HB3.out.size).trans (hb57.mono (HW5.out.size)))
  have HO3' := Lib.hid ho3; have HO5' := Lib.hid ho5; have HO7' := Lib.hid ho7; have HW7 := Lib.hid hbw7
  have hs53 := HB5.out.size
  have HS53 := Lib.hid hs53
  clear ho3 ho5 ho7 hbw7 hown7 hb7 hb57 hs53
  go_wp2
  go_loopw [47] (fun i wr => ∃ k : Nat, k ≤ n ∧ i = .int .i64 (k : Int) ∧ Hid (wr.ownsRow w2.heap.size 3 1 (.slice (some ⟨w2.heap.size, 0, none⟩) n n) n (i64s (moveMid n (endsL n fr) (endsL n to) k))) ∧ Hid (Chg (fun q => q = w2.heap.size) w7 wr)) (fun i _ => n - (intOf i).toNat)
  case atStart => exact ⟨0, Nat.zero_le _, rfl, HO3', Chg.refl _ _⟩
  case round =>
    obtain ⟨k, hk, rfl, HO, HC⟩ := hrel
    by_cases hlt : k < n
    · have hE := endsL_bound ISF.out hlt
      obtain ⟨a, ha⟩ : ∃ a : Nat, (endsL n fr).getD k 0 = (a : Int) := ⟨((endsL n fr).getD k 0).toNat, by omega⟩
      have han : a < n := by omega
      have r7 := row_chg HO7'.out HC.out (fun g hg e => by have := (HO7'.out.lt g hg).1; have := HS3.out; have := HS53.out; omega)
      have r5 := row_chg HO5'.out HC.out (fun g hg e => by have := (HO5'.out.lt g hg).1; have := HS3.out; omega)
      obtain ⟨g7, rfl, -, -, -, hcell7, -⟩ := row_ptr r7 (by omega)
      obtain ⟨g5, rfl, -, -, -, hcell5, -⟩ := row_ptr r5 (by omega)
      obtain ⟨g3, hs3, -, -, -, hcell3, hfz3⟩ := row_ptr HO.out (by omega)
      cases hs3
      have x7 := hcell7 k _ (i64s_at (endsL n fr) k (by rw [EF.out]; exact hlt))
      rw [ha] at x7
      have x5 := hcell5 k _ (i64s_at (endsL n to) k (by rw [ET.out]; exact hlt))
      have x3 := hcell3 a _ (i64s_at (moveMid n (endsL n fr) (endsL n to) k) a (by rw [moveMid_len]; exact han))
      have f3 := hfz3 a
      have hst : moveMid n (endsL n fr) (endsL n to) (k + 1) = (moveMid n (endsL n fr) (endsL n to) k).set a ((endsL n to).getD k 0) := by
        show (moveMid n (endsL n fr) (endsL n to) k).set ((endsL n fr).getD k 0).toNat ((endsL n to).getD k 0) = _
        rw [ha, Int.toNat_natCast]
      generalize hy : (endsL n to).getD k 0 = y at *
      generalize hz : (moveMid n (endsL n fr) (endsL n to) k).getD a 0 = z at *
      have HST := Lib.hid hst
      have ha0 : (0 : Int) ≤ (a : Int) := by omega
      have ha1 : (a : Int) < (n : Int) := by omega
      clear hE ha r7 r5 hcell7 hcell5 hcell3 hfz3 hst hy hz
      go_wp2
      go_roundw
      case rel =>
        refine ⟨k + 1, by omega, by go_num, ?_, HC.out.setCell (p := ⟨w2.heap.size, a, none⟩) (.inl rfl) _⟩
        show World.ownsRow _ _ _ _ _ _ (i64s (moveMid n (endsL n fr) (endsL n to) (k + 1)))
        rw [HST.out, i64s_set]
        exact row_set HO.out han _
      case measure => simp [intOf]; omega
    · obtain rfl : k = n := by omega
      go_wp2
      go_ret2
      exact ⟨_, _, rfl, row_mono HO.out HB2.out.size, HW7.out.trans (HC.out.below HW7.out.size fun q hq => by rw [hq]; exact HB2.out.size)⟩


theorem inL_take {l : List Int} {s : Nat} {x : Int} (hs : s < l.length) (h : l.getD s 0 = x) : inL l x = true := by
  rw [inL_iff, ← h]; exact getD_mem l s hs
theorem inL_none {l : List Int} {x : Int} (h : ∀ t, t < l.length → l.getD t 0 ≠ x) : inL l x = false := by
  cases hq : inL l x with
  | false => rfl
  | true =>
    obtain ⟨t, ht, e⟩ := mem_getD (inL_iff.1 hq)
    exact absurd e (h t ht)

end Go.Proofs.YtcoohepkmhpdkaaGreat
