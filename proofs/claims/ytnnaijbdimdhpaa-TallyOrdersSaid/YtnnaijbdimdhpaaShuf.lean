/-
  The program's and the reference's shuffles: Right, Perm, Choices.
-/
import Derived.Test.YtnnaijbdimdhpaaUndo
import Derived.Test.YtnnaijbdimdhpaaPl
namespace Go.Proofs.Ytnnaijbdimdhpaa
open Go.RowKit
set_option linter.unusedVariables false

theorem row_prefix {w : World} {B : Nat} {e : TypeId} {g n cap : Nat} {xs : List Value} (h : w.ownsRow B e 1 (.slice (some ⟨g, 0, none⟩) n cap) n xs) {k : Nat} (hk : k ≤ n) :
    w.ownsRow B e 1 (.slice (some ⟨g, 0, none⟩) k cap) k (xs.take k) := by
  have hl := h.1
  rcases h.2 with ⟨h0, _⟩ | ⟨g', cap', cur, hv, hb, hg, hc, hm, hs, ht⟩
  · cases h0
  · cases hv
    refine ⟨by rw [List.length_take]; omega, .inr ⟨g, cap, cur, rfl, hb, hg, by omega, hm, hs, ?_⟩⟩
    rw [← ht, List.take_take, Nat.mul_one, Nat.mul_one, Nat.min_eq_left hk]

theorem swp_take' (P : List Int) (m a : Nat) (ha : a < m + 1) (hm : m + 1 ≤ P.length) : (swp P m a).take m = (swp (P.take (m + 1)) m a).take m := by
  have hl : (P.take (m + 1)).length = m + 1 := by rw [List.length_take]; omega
  rw [swp_comm P m a (by omega) (by omega), swp_comm (P.take (m + 1)) m a (by omega) (by omega)]
  exact swp_take P a m ha hm
theorem swp_drop (P : List Int) (m a : Nat) (ha : a < m + 1) (hm : m < P.length) : (swp P m a).drop m = P.getD a 0 :: P.drop (m + 1) := by
  have h1 : (swp P m a).getD m 0 = P.getD a 0 := by
    rw [swp_get _ _ _ _ hm (by omega)]
    by_cases h : m = a
    · rw [if_pos h, h]
    · rw [if_neg h, if_pos rfl]
  have hl : m < (swp P m a).length := by rw [swp_len]; exact hm
  rw [List.drop_eq_getElem_cons hl]
  have h2 : (swp P m a)[m] = P.getD a 0 := by rw [← h1]; simp [List.getD, List.getElem?_eq_getElem hl]
  rw [h2]
  unfold swp
  rw [List.drop_set_of_lt (by omega), List.drop_set_of_lt (by omega)]
theorem permR_step (P c : List Int) (m a : Nat) (ha : a < m + 1) (hm : m + 1 ≤ P.length) (hc : c.getD m 0 = (a : Int)) :
    permR m ((swp P m a).take m) c ++ (swp P m a).drop m = permR (m + 1) (P.take (m + 1)) c ++ P.drop (m + 1) := by
  simp only [permR]
  rw [hc, Int.toNat_natCast, ← swp_take' P m a ha hm, swp_drop P m a ha (by omega), getD_take _ _ _ ha, List.append_assoc]
  rfl
theorem permR_end (P c : List Int) (m : Nat) (hm : m ≤ 1) (hP : m ≤ P.length) (h0 : m = 1 → c.getD 0 0 = 0) : permR m (P.take m) c ++ P.drop m = P := by
  rcases (by omega : m = 0 ∨ m = 1) with rfl | rfl
  · simp [permR]
  · simp only [permR]
    rw [h0 rfl]
    cases P with
    | nil => simp at hP
    | cons x P => simp
theorem cho_step {Now p : List Int} {m : Nat} (hN : m + 1 ≤ Now.length) (hp : m + 1 ≤ p.length) (hnd : (Now.take (m + 1)).Nodup) (hpm : (p.take (m + 1)).Perm (Now.take (m + 1))) :
    ∃ a, a < m + 1 ∧ ixN (Now.take (m + 1)) (p.getD m 0) = a ∧ Lib.idxOf Now (p.getD m 0) = (a : Int) ∧ ((swp Now m a).take m).Nodup ∧ (p.take m).Perm ((swp Now m a).take m) := by
  have hl : (Now.take (m + 1)).length = m + 1 := by rw [List.length_take]; omega
  have hpt : p.take (m + 1) = p.take m ++ [p.getD m 0] := by
    rw [List.take_succ_eq_append_getElem (show m < p.length by omega)]
    simp [List.getD, List.getElem?_eq_getElem (show m < p.length by omega)]
  have hmem : p.getD m 0 ∈ Now.take (m + 1) := hpm.mem_iff.1 (by rw [hpt]; simp)
  obtain ⟨g1, g2, -⟩ := ixN_mem hnd hmem
  rw [hl] at g1
  refine ⟨_, g1, rfl, ?_, ?_⟩
  · have g4 : Now.getD (ixN (Now.take (m + 1)) (p.getD m 0)) 0 = p.getD m 0 := by rw [← getD_take Now (m + 1) _ g1]; exact g2
    have := Lib.idxFrom_hit (p.getD m 0) Now (ixN (Now.take (m + 1)) (p.getD m 0)) 0 (by omega) g4 (fun j hj e => by
      have := nodup_inj hnd (i := j) (j := ixN (Now.take (m + 1)) (p.getD m 0)) (by omega) (by omega) (by rw [getD_take _ _ _ (by omega), g2]; exact e)
      omega)
    simpa [Lib.idxOf] using this
  · rw [swp_take' Now m _ g1 hN]
    obtain ⟨s1, s2, s3⟩ := swp_take_perm (i := m) (a := ixN (Now.take (m + 1)) (p.getD m 0)) hl g1 hnd
    refine ⟨s2, ?_⟩
    rw [g2] at s1
    rw [hpt] at hpm
    exact (List.perm_append_right_iff _).1 (hpm.trans s1.symm)
theorem chR_step (Now p C : List Int) (m a : Nat) (ha : a < m + 1) (hN : m + 1 ≤ Now.length) (hC : m < C.length) (hi : ixN (Now.take (m + 1)) (p.getD m 0) = a) :
    chR m ((swp Now m a).take m) p ++ (C.set m (a : Int)).drop m = chR (m + 1) (Now.take (m + 1)) p ++ C.drop (m + 1) := by
  simp only [chR]
  rw [hi, ← swp_take' Now m a ha hN, set_drop _ _ hC, List.append_assoc]
  rfl
theorem chR_end (Now p C : List Int) (m : Nat) (hm : m ≤ 1) (hN : m ≤ Now.length) (hC : m ≤ C.length) (hp : m ≤ p.length) (h0 : ∀ j, j < m → C.getD j 0 = 0) (hpm : (p.take m).Perm (Now.take m)) : chR m (Now.take m) p ++ C.drop m = C := by
  rcases (by omega : m = 0 ∨ m = 1) with rfl | rfl
  · simp [chR]
  · cases C with
    | nil => simp at hC
    | cons y C =>
      have hy : y = 0 := h0 0 (by omega)
      cases Now with
      | nil => simp at hN
      | cons x Now =>
        cases p with
        | nil => simp at hp
        | cons z p =>
          have hz : z = x := by simpa using hpm
          subst hz; subst hy
          simp only [chR]
          have : ixN [z] z = 0 := ixN_eq (by simp) (i := 0) (by simp) rfl
          simp [this]

set_option maxRecDepth 100000 in
set_option maxHeartbeats 1000000 in
theorem perm_bad (w : World) (v : Value) (n : Nat) (c : List Int) (h : Rd w 1 v n (i64s c)) (hbig : n ≤ 50000) (hb : shRightB c = false) :
    Calls Try.prog 71 #[v] w fun e w' => e = .returned (.tuple #[.slice none 0 0, .int .i64 2]) ∧ w = w' := by
  have hln := h.len_i64
  subst hln
  obtain ⟨sa, cap, rfl⟩ := h.form
  have HR := Lib.hid h; have HBB := Lib.hid hb; clear h hb
  go_enter Try.func71, Try.ntmps71
  go_wp2
  go_loop [10] (fun i => ∃ s : Nat, s ≤ c.length ∧ i = .int .i64 s ∧ Hid (∀ t, t < s → 0 ≤ c.getD t 0 ∧ c.getD t 0 ≤ (t : Int))) (fun i => c.length - (intOf i).toNat)
  case atStart => exact ⟨0, Nat.zero_le _, rfl, fun t ht => by omega⟩
  case round =>
    obtain ⟨s, hs, rfl, HS⟩ := hrel
    by_cases hlt : s < c.length
    · obtain ⟨b, off, rfl, hc⟩ := HR.out.at (by omega)
      have cx := hc s _ (i64s_at c s hlt)
      clear hc
      generalize hx : c.getD s 0 = x at *
      have HX := Lib.hid hx; clear hx
      by_cases h0 : x < 0
      · go_wp2
        go_ret2
        exact ⟨rfl, rfl⟩
      · by_cases h1 : (s : Int) < x
        · go_wp2
          go_ret2
          exact ⟨rfl, rfl⟩
        · go_wp2
          go_round
          case rel =>
            refine ⟨s + 1, by omega, by go_num, fun t ht => ?_⟩
            by_cases hts : t = s
            · subst hts; rw [HX.out]; omega
            · exact HS.out t (by omega)
          case measure => simp [intOf]; omega
    · obtain rfl : s = c.length := by omega
      have h1 := HBB.out
      rw [shRightB_iff.2 HS.out] at h1
      cases h1

set_option maxRecDepth 100000 in
set_option maxHeartbeats 4000000 in
theorem perm_ok (w : World) (v : Value) (n : Nat) (c : List Int) (h : Rd w 1 v n (i64s c)) (hbig : n ≤ 50000) (hc : shRight c) :
    Calls Try.prog 71 #[v] w fun e w' => ∃ sa cap, e = .returned (.tuple #[.slice sa n cap, .int .i64 0]) ∧ w'.ownsRow w.heap.size 3 1 (.slice sa n cap) n (i64s (permL c)) ∧ Below w.heap.size w w' := by
  have hln := h.len_i64
  subst hln
  obtain ⟨sa, cap, rfl⟩ := h.form
  have HR := Lib.hid h; have HC := Lib.hid hc; clear h hc
  go_enter Try.func71, Try.ntmps71
  go_wp2
  go_loop [10] (fun i => ∃ s : Nat, s ≤ c.length ∧ i = .int .i64 s) (fun i => c.length - (intOf i).toNat)
  case atStart => exact ⟨0, Nat.zero_le _, rfl⟩
  case round =>
    obtain ⟨s, hs, rfl⟩ := hrel
    by_cases hlt : s < c.length
    · obtain ⟨b, off, rfl, hc⟩ := HR.out.at (by omega)
      have cx := hc s _ (i64s_at c s hlt)
      have hx2 := HC.out s hlt
      clear hc
      generalize hx : c.getD s 0 = x at *
      clear hx
      have h0 : ¬ x < 0 := by omega
      have h1 : ¬ (s : Int) < x := by omega
      clear hx2
      go_wp2
      go_round
      case rel => exact ⟨s + 1, by omega, by go_num⟩
      case measure => simp [intOf]; omega
    · obtain rfl : s = c.length := by omega
      go_wp2_with (go_at_call 94; go_must (refine (shufrow_any _ c.length (by omega)).mono ?_); rintro e w1 ⟨s1, c1, rfl, hown1, hb1⟩; have HO1 := Lib.hid hown1; have HB1 := Lib.hid hb1; clear hown1 hb1)
      go_loopw [7] (fun i wr => ∃ (m : Nat) (P : List Int), m ≤ c.length ∧ i = .int .i64 ((m : Int) - 1) ∧ P.length = c.length ∧ Hid (permR m (P.take m) c ++ P.drop m = permL c) ∧
        Hid (wr.ownsRow w.heap.size 3 1 (.slice s1 c.length c1) c.length (i64s P)) ∧ Hid (Below w.heap.size w wr)) (fun i _ => (intOf i).toNat)
      case atStart =>
        refine ⟨c.length, rowL c.length, Nat.le_refl _, rfl, rowL_len _, ?_, HO1, HB1⟩
        show permR _ _ _ ++ _ = permL c
        rw [List.take_of_length_le (by rw [rowL_len]; exact Nat.le_refl _), List.drop_of_length_le (by rw [rowL_len]; exact Nat.le_refl _), List.append_nil]
        rfl
      case round =>
        obtain ⟨m, P, hm, rfl, hPl, HP, HO, HB⟩ := hrel
        by_cases hlt2 : 1 < m
        · obtain ⟨m, rfl⟩ : ∃ m', m = m' + 1 := ⟨m - 1, by omega⟩
          have e1 : (((m + 1 : Nat) : Int) - 1) = (m : Int) := by omega
          rw [e1]
          have hx2 := HC.out m (by omega)
          obtain ⟨a, ha⟩ : ∃ a : Nat, c.getD m 0 = (a : Int) := ⟨(c.getD m 0).toNat, by omega⟩
          have ham : a < m + 1 := by omega
          obtain ⟨b, off, hsa, hcc⟩ := (HR.out.below HB.out).at (by omega)
          have cx := hcc m _ (i64s_at c m (by omega))
          rw [ha] at cx
          have hblt : b < w.heap.size := by
            obtain ⟨b', off', hsa', hcc'⟩ := HR.out.at (by omega)
            rw [hsa] at hsa'
            cases hsa'
            exact World.block_lt_of_cell? _ _ (hcc' m _ (i64s_at c m (by omega)))
          obtain ⟨g, hs1, hg1, hg2, hg3, hcell, hfz⟩ := row_ptr HO.out (by omega)
          subst hs1; subst hsa
          have ca := hcell a _ (i64s_at P a (by omega))
          have ci := hcell m _ (i64s_at P m (by omega))
          have fa := hfz a
          have fi := hfz m
          have hai : (a : Int) < (c.length : Int) := by omega
          have hmi : (m : Int) < (c.length : Int) := by omega
          have hm0 : (0 : Int) < (m : Int) := by omega
          have ha0 : (0 : Int) ≤ (a : Int) := by omega
          have hm00 : (0 : Int) ≤ (m : Int) := by omega
          have HX := Lib.hid ha; have HPL := Lib.hid hPl; have HBL := Lib.hid hblt
          clear hx2 ha hcc hcell hfz e1 hPl hblt hlt hlt2 hs
          generalize hy : P.getD m 0 = y at *
          generalize hz : P.getD a 0 = z at *
          have HY := Lib.hid hy; have HZ2 := Lib.hid hz
          clear hy hz
          obtain ⟨v2, hv2⟩ := cell?_setCell_some (w := wr) (p := ⟨g, m, none⟩) (x := .int .i64 z) (q := ⟨g, a, none⟩) (v := .int .i64 z) ca
          have cx2 : (wr.setCell ⟨g, m, none⟩ (.int .i64 z)).cell? ⟨b, off + m, none⟩ = some (.int .i64 (a : Int)) := by
            rw [World.cell?_of_block (w := wr) (Below.heap_setCell _ _ _ _ (by have := HBL.out; show b ≠ g; omega))]
            exact cx
          go_wp2
          go_region
          go_wp2
          go_roundw
          case rel =>
            refine ⟨m, swp P m a, by omega, rfl, by rw [swp_len]; exact HPL.out, ?_, ?_, ?_⟩
            · show permR m ((swp P m a).take m) c ++ _ = _
              rw [permR_step P c m a ham (by have := HPL.out; omega) HX.out]
              exact HP.out
            · have h1 := row_set HO.out (i := m) (by omega) (.int .i64 z)
              have h2 := row_set h1 (i := a) (by omega) (.int .i64 y)
              rw [← i64s_set, ← i64s_set] at h2
              show World.ownsRow _ _ _ _ _ _ (i64s (swp P m a))
              unfold swp
              rw [HY.out, HZ2.out]
              exact h2
            · exact ((HB.out.setCell (p := ⟨g, m, none⟩) hg1 _).setCell (p := ⟨g, a, none⟩) hg1 _).drew
          case measure => simp [intOf]; omega
        · have hle : ¬ (0 : Int) < (m : Int) - 1 := by omega
          go_wp2
          go_ret2
          refine ⟨s1, c1, rfl, ?_, HB.out⟩
          rw [← HP.out, permR_end P c m (by omega) (by omega) (fun h1 => by have := HC.out 0 (by omega); omega)]
          exact HO.out

end Go.Proofs.Ytnnaijbdimdhpaa
