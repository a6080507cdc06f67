/-
  The program's and the reference's shuffles: Right, Perm, Choices.
-/
import Derived.Test.YtkgmobneipdpeaaUndo
import Derived.Test.YtkgmobneipdpeaaShufPlain
namespace Go.Proofs.Ytkgmobneipdpeaa
open Go.RowKit
set_option linter.unusedVariables false

theorem row_prefix {w : World} {B : Nat} {e : TypeId} {g n cap : Nat} {xs : List Value} (h : w.ownsRow B e 1 (.slice (some ⟨g, 0, none⟩) n cap) n xs) {k : Nat} (hk : k ≤ n) :
    w.ownsRow B e 1 (.slice (some ⟨g, 0, none⟩) k cap) k (xs.take k) := by
  have hl := h.1
  rcases h.2 with ⟨h0, _⟩ | ⟨g', cap', cur, hv, hb, hg, hc, hm, hs, ht⟩
  · cases h0
  · cases hv
    refine ⟨by rw [List.length_take]; omega, .inr ⟨g, cap, cur, rfl, hb, hg, by omega, hm, hs, ?_⟩⟩
    rw [← ht, List.take_take, Nat.mul_one, Nat.mul_one, Nat.min_eq_left hk]

theorem swp_take' (P : List Int) (m a : Nat) (ha : a < m + 1) (hm : m + 1 ≤ P.length) : (swp P m a).take m = (swp (P.take (m + 1)) m a).take m := by
  have hl : (P.take (m + 1)).length = m + 1 := by rw [List.length_take]; omega
  rw [swp_comm P m a (by omega) (by omega), swp_comm (P.take (m + 1)) m a (by omega) (by omega)]
  exact swp_take P a m ha hm
theorem swp_drop (P : List Int) (m a : Nat) (ha : a < m + 1) (hm : m < P.length) : (swp P m a).drop m = P.getD a 0 :: P.drop (m + 1) := by
  have h1 : (swp P m a).getD m 0 = P.getD a 0 := by
    rw [swp_get _ _ _ _ hm (by omega)]
    by_cases h : m = a
    · rw [if_pos h, h]
    · rw [if_neg h, if_pos rfl]
  have hl : m < (swp P m a).length := by rw [swp_len]; exact hm
  rw [List.drop_eq_getElem_cons hl]
  have h2 : (swp P m a)[m] = P.getD a 0 := by rw [← h1]; simp [List.getD, List.getElem?_eq_getElem hl]
  rw [h2]
  unfold swp
  rw [List.drop_set_of_lt (by omega), List.drop_set_of_lt (by omega)]
theorem permR_step (P c : List Int) (m a : Nat) (ha : a < m + 1) (hm : m + 1 ≤ P.length) (hc : c.getD m 0 = (a : Int)) :
    permR m ((swp P m a).take m) c ++ (swp P m a).drop m = permR (m + 1) (P.take (m + 1)) c ++ P.drop (m + 1) := by
  simp only [permR]
  rw [hc, Int.toNat_natCast, ← swp_take' P m a ha hm, swp_drop P m a ha (by omega), getD_take _ _ _ ha, List.append_assoc]
  rfl
theorem permR_end (P c : List Int) (m : Nat) (hm : m ≤ 1) (hP : m ≤ P.length) (h0 : m = 1 → c.getD 0 0 = 0) : permR m (P.take m) c ++ P.drop m = P := by
  rcases (by omega : m = 0 ∨ m = 1) with rfl | rfl
  · simp [permR]
  · simp only [permR]
    rw [h0 rfl]
    cases P with
    | nil => simp at hP
    | cons x P => simp
theorem cho_step {Now p : List Int} {m : Nat} (hN : m + 1 ≤ Now.length) (hp : m + 1 ≤ p.length) (hnd : (Now.take (m + 1)).Nodup) (hpm : (p.take (m + 1)).Perm (Now.take (m + 1))) :
    ∃ a, a < m + 1 ∧ ixN (Now.take (m + 1)) (p.getD m 0) = a ∧ Lib.idxOf Now (p.getD m 0) = (a : Int) ∧ ((swp Now m a).take m).Nodup ∧ (p.take m).Perm ((swp Now m a).take m) := by
  have hl : (Now.take (m + 1)).length = m + 1 := by rw [List.length_take]; omega
  have hpt : p.take (m + 1) = p.take m ++ [p.getD m 0] := by
    rw [List.take_succ_eq_append_getElem (show m < p.length by omega)]
    simp [List.getD, List.getElem?_eq_getElem (show m < p.length by omega)]
  have hmem : p.getD m 0 ∈ Now.take (m + 1) := hpm.mem_iff.1 (by rw [hpt]; simp)
  obtain ⟨g1, g2, -⟩ := ixN_mem hnd hmem
  rw [hl] at g1
  refine ⟨_, g1, rfl, ?_, ?_⟩
  · have g4 : Now.getD (ixN (Now.take (m + 1)) (p.getD m 0)) 0 = p.getD m 0 := by rw [← getD_take Now (m + 1) _ g1]; exact g2
    have := Lib.idxFrom_hit (p.getD m 0) Now (ixN (Now.take (m + 1)) (p.getD m 0)) 0 (by omega) g4 (fun j hj e => by
      have := nodup_inj hnd (i := j) (j := ixN (Now.take (m + 1)) (p.getD m 0)) (by omega) (by omega) (by rw [getD_take _ _ _ (by omega), g2]; exact e)
      omega)
    simpa [Lib.idxOf] using this
  · rw [swp_take' Now m _ g1 hN]
    obtain ⟨s1, s2, s3⟩ := swp_take_perm (i := m) (a := ixN (Now.take (m + 1)) (p.getD m 0)) hl g1 hnd
    refine ⟨s2, ?_⟩
    rw [g2] at s1
    rw [hpt] at hpm
    exact (List.perm_append_right_iff _).1 (hpm.trans s1.symm)
theorem chR_step (Now p C : List Int) (m a : Nat) (ha : a < m + 1) (hN : m + 1 ≤ Now.length) (hC : m < C.length) (hi : ixN (Now.take (m + 1)) (p.getD m 0) = a) :
    chR m ((swp Now m a).take m) p ++ (C.set m (a : Int)).drop m = chR (m + 1) (Now.take (m + 1)) p ++ C.drop (m + 1) := by
  simp only [chR]
  rw [hi, ← swp_take' Now m a ha hN, set_drop _ _ hC, List.append_assoc]
  rfl
theorem chR_end (Now p C : List Int) (m : Nat) (hm : m ≤ 1) (hN : m ≤ Now.length) (hC : m ≤ C.length) (hp : m ≤ p.length) (h0 : ∀ j, j < m → C.getD j 0 = 0) (hpm : (p.take m).Perm (Now.take m)) : chR m (Now.take m) p ++ C.drop m = C := by
  rcases (by omega : m = 0 ∨ m = 1) with rfl | rfl
  · simp [chR]
  · cases C with
    | nil => simp at hC
    | cons y C =>
      have hy : y = 0 := h0 0 (by omega)
      cases Now with
      | nil => simp at hN
      | cons x Now =>
        cases p with
        | nil => simp at hp
        | cons z p =>
          have hz : z = x := by simpa using hpm
          subst hz; subst hy
          simp only [chR]
          have : ixN [z] z = 0 := ixN_eq (by simp) (i := 0) (by simp) rfl
          simp [this]

set_option maxRecDepth 100000 in
set_option maxHeartbeats 1000000 in
theorem perm_bad (w : World) (v : Value) (n : Nat) (c : List Int) (h : Rd w 1 v n (i64s c)) (hbig : n ≤ 50000) (hb : shRightB c = false) :
    Calls Try.prog 76 #[v] w fun e w' => e = .returned (.tuple #[.slice none 0 0, .int .i64 2]) ∧ w = w' := by
  have hln := h.len_i64
  subst hln
  obtain ⟨sa, cap, rfl⟩ := h.form
  have HR := Lib.hid h; have HBB := Lib.hid hb; clear h hb
  go_enter Try.func76, Try.ntmps76
  go_wp2
  go_loop [10] (fun i => ∃ s : Nat, s ≤ c.length ∧ i = .int .i64 s ∧ Hid (∀ t, t < s → 0 ≤ c.getD t 0 ∧ c.getD t 0 ≤ (t : Int))) (fun i => c.length - (intOf i).toNat)
  case atStart => exact ⟨0, Nat.zero_le _, rfl, fun t ht => by omega⟩
  case round =>
    obtain ⟨s, hs, rfl, HS⟩ := hrel
    by_cases hlt : s < c.length
    · obtain ⟨b, off, rfl, hc⟩ := HR.out.at (by omega)
      have cx := hc s _ (i64s_at c s hlt)
      clear hc
      generalize hx : c.getD s 0 = x at *
      have HX := Lib.hid hx; clear hx
      by_cases h0 : x < 0
      · go_wp2
        go_ret2
        exact ⟨rfl, rfl⟩
      · by_cases h1 : (s : Int) < x
        · go_wp2
          go_ret2
          exact ⟨rfl, rfl⟩
        · go_wp2
          go_round
          case rel =>
            refine ⟨s + 1, by omega, by go_num, fun t ht => ?_⟩
            by_cases hts : t = s
            · subst hts; rw [HX.out]; omega
            · exact HS.out t (by omega)
          case measure => simp [intOf]; omega
    · obtain rfl : s = c.length := by omega
      have h1 := HBB.out
      rw [shRightB_iff.2 HS.out] at h1
      cases h1

set_option maxRecDepth 100000 in
set_option maxHeartbeats 4000000 in
theorem perm_ok (w : World) (v : Value) (n : Nat) (c : List Int) (h : Rd w 1 v n (i64s c)) (hbig : n ≤ 50000) (hc : shRight c) :
    Calls Try.prog 76 #[v] w fun e w' => ∃ sa cap, e = .returned (.tuple #[.slice sa n cap, .int .i64 0]) ∧ w'.ownsRow w.heap.size 3 1 (.slice sa n cap) n (i64s (permL c)) ∧ Below w.heap.size w w' := by
  have hln := h.len_i64
  subst hln
  obtain ⟨sa, cap, rfl⟩ := h.form
  have HR := Lib.hid h; have HC := Lib.hid hc; clear h hc
  go_enter Try.func76, Try.ntmps76
  go_wp2
  go_loop [10] (fun i => ∃ s : Nat, s ≤ c.length ∧ i = .int .i64 s) (fun i => c.length - (intOf i).toNat)
  case atStart => exact ⟨0, Nat.zero_le _, rfl⟩
  case round =>
    obtain ⟨s, hs, rfl⟩ := hrel
    by_cases hlt : s < c.length
    · obtain ⟨b, off, rfl, hc⟩ := HR.out.at (by omega)
      have cx := hc s _ (i64s_at c s hlt)
      have hx2 := HC.out s hlt
      clear hc
      generalize hx : c.getD s 0 = x at *
      clear hx
      have h0 : ¬ x < 0 := by omega
      have h1 : ¬ (s : Int) < x := by omega
      clear hx2
      go_wp2
      go_round
      case rel => exact ⟨s + 1, by omega, by go_num⟩
      case measure => simp [intOf]; omega
    · obtain rfl : s = c.length := by omega
      go_wp2_with (go_at_call 121; go_must (refine (shufrow_any _ c.length (by omega)).mono ?_); rintro e w1 ⟨s1, c1, rfl, hown1, hb1⟩; have HO1 := Lib.hid hown1; have HB1 := Lib.hid hb1; clear hown1 hb1)
      go_loopw [7] (fun i wr => ∃ (m : Nat) (P : List Int), m ≤ c.length ∧ i = .int .i64 ((m : Int) - 1) ∧ P.length = c.length ∧ Hid (permR m (P.take m) c ++ P.drop m = permL c) ∧
        Hid (wr.ownsRow w.heap.size 3 1 (.slice s1 c.length c1) c.length (i64s P)) ∧ Hid (Below w.heap.size w wr)) (fun i _ => (intOf i).toNat)
      case atStart =>
        refine ⟨c.length, rowL c.length, Nat.le_refl _, rfl, rowL_len _, ?_, HO1, HB1⟩
        show permR _ _ _ ++ _ = permL c
        rw [List.take_of_length_le (by rw [rowL_len]; exact Nat.le_refl _), List.drop_of_length_le (by rw [rowL_len]; exact Nat.le_refl _), List.append_nil]
        rfl
      case round =>
        obtain ⟨m, P, hm, rfl, hPl, HP, HO, HB⟩ := hrel
        by_cases hlt2 : 1 < m
        · obtain ⟨m, rfl⟩ : ∃ m', m = m' + 1 := ⟨m - 1, by omega⟩
          have e1 : (((m + 1 : Nat) : Int) - 1) = (m : Int) := by omega
          rw [e1]
          have hx2 := HC.out m (by omega)
          obtain ⟨a, ha⟩ : ∃ a : Nat, c.getD m 0 = (a : Int) := ⟨(c.getD m 0).toNat, by omega⟩
          have ham : a < m + 1 := by omega
          obtain ⟨b, off, hsa, hcc⟩ := (HR.out.below HB.out).at (by omega)
          have cx := hcc m _ (i64s_at c m (by omega))
          rw [ha] at cx
          have hblt : b < w.heap.size := by
            obtain ⟨b', off', hsa', hcc'⟩ := HR.out.at (by omega)
            rw [hsa] at hsa'
            cases hsa'
            exact World.block_lt_of_cell? _ _ (hcc' m _ (i64s_at c m (by omega)))
          obtain ⟨g, hs1, hg1, hg2, hg3, hcell, hfz⟩ := row_ptr HO.out (by omega)
          subst hs1; subst hsa
          have ca := hcell a _ (i64s_at P a (by omega))
          have ci := hcell m _ (i64s_at P m (by omega))
          have fa := hfz a
          have fi := hfz m
          have hai : (a : Int) < (c.length : Int) := by omega
          have hmi : (m : Int) < (c.length : Int) := by omega
          have hm0 : (0 : Int) < (m : Int) := by omega
          have ha0 : (0 : Int) ≤ (a : Int) := by omega
          have hm00 : (0 : Int) ≤ (m : Int) := by omega
          have HX := Lib.hid ha; have HPL := Lib.hid hPl; have HBL := Lib.hid hblt
          clear hx2 ha hcc hcell hfz e1 hPl hblt hlt hlt2 hs
          generalize hy : P.getD m 0 = y at *
          generalize hz : P.getD a 0 = z at *
          have HY := Lib.hid hy; have HZ2 := Lib.hid hz
          clear hy hz
          obtain ⟨v2, hv2⟩ := cell?_setCell_some (w := wr) (p := ⟨g, m, none⟩) (x := .int .i64 z) (q := ⟨g, a, none⟩) (v := .int .i64 z) ca
          have cx2 : (wr.setCell ⟨g, m, none⟩ (.int .i64 z)).cell? ⟨b, off + m, none⟩ = some (.int .i64 (a : Int)) := by
            rw [World.cell?_of_block (w := wr) (Below.heap_setCell _ _ _ _ (by have := HBL.out; show b ≠ g; omega))]
            exact cx
          go_wp2
          go_region
          go_wp2
          go_roundw
          case rel =>
            refine ⟨m, swp P m a, by omega, rfl, by rw [swp_len]; exact HPL.out, ?_, ?_, ?_⟩
            · show permR m ((swp P m a).take m) c ++ _ = _
              rw [permR_step P c m a ham (by have := HPL.out; omega) HX.out]
              exact HP.out
            · have h1 := row_set HO.out (i := m) (by omega) (.int .i64 z)
              have h2 := row_set h1 (i := a) (by omega) (.int .i64 y)
              rw [← i64s_set, ← i64s_set] at h2
              show World.ownsRow _ _ _ _ _ _ (i64s (swp P m a))
              unfold swp
              rw [HY.out, HZ2.out]
              exact h2
            · exact ((HB.out.setCell (p := ⟨g, m, none⟩) hg1 _).setCell (p := ⟨g, a, none⟩) hg1 _).drew
          case measure => simp [intOf]; omega
        · have hle : ¬ (0 : Int) < (m : Int) - 1 := by omega
          go_wp2
          go_ret2
          refine ⟨s1, c1, rfl, ?_, HB.out⟩
          rw [← HP.out, permR_end P c m (by omega) (by omega) (fun h1 => by have := HC.out 0 (by omega); omega)]
          exact HO.out

set_option maxRecDepth 100000 in
set_option maxHeartbeats 1000000 in
theorem choices_bad (w : World) (v : Value) (n : Nat) (p : List Int) (h : Rd w 1 v n (i64s p)) (hbig : n ≤ 50000) (hb : isPB p = false) :
    Calls Try.prog 81 #[v] w fun e w' => e = .returned (.tuple #[.slice none 0 0, .int .i64 2]) ∧ Below w.heap.size w w' := by
  have hln := h.len_i64
  subst hln
  obtain ⟨sa, cap, rfl⟩ := h.form
  have HR := Lib.hid h; have HBB := Lib.hid hb; clear h hb
  go_enter Try.func81, Try.ntmps81
  go_wp2_with (go_at_call 77; go_must (refine (is_any _ _ _ p HR.out (by omega)).mono ?_); rintro e w1 ⟨rfl, hb1⟩; rw [HBB.out]; have HB1 := Lib.hid hb1; clear hb1)
  go_ret2
  exact ⟨rfl, HB1.out⟩

set_option maxRecDepth 100000 in
set_option maxHeartbeats 4000000 in
theorem choices_ok (w : World) (v : Value) (n : Nat) (p : List Int) (h : Rd w 1 v n (i64s p)) (hbig : n ≤ 50000) (hp : IsP p) :
    Calls Try.prog 81 #[v] w fun e w' => ∃ sa cap, e = .returned (.tuple #[.slice sa n cap, .int .i64 0]) ∧ w'.ownsRow w.heap.size 3 1 (.slice sa n cap) n (i64s (choL p)) ∧ Below w.heap.size w w' := by
  have hln := h.len_i64
  subst hln
  obtain ⟨sa, cap, rfl⟩ := h.form
  have hpb : isPB p = true := isPB_iff.2 hp
  have HR := Lib.hid h; have HPB := Lib.hid hpb; have HIP := Lib.hid hp; clear h hpb hp
  go_enter Try.func81, Try.ntmps81
  go_wp2_with (first
    | (go_at_call 77; go_must (refine (is_any _ _ _ p HR.out (by omega)).mono ?_); rintro e w1 ⟨rfl, hb1⟩; rw [HPB.out]; have HB1 := Lib.hid hb1; clear hb1)
    | (go_at_call 121; go_must (refine (shufrow_any _ p.length (by omega)).mono ?_); rintro e w2 ⟨s2, c2, rfl, hown2, hb2⟩; have HO2 := Lib.hid hown2; have HB2 := Lib.hid hb2; clear hown2 hb2)
    | (at_make; refine mk_i64 _ rfl _ _ rfl w2.heap.size _ _ p.length rfl rfl ?hL ?hC ?hN ?hB ?_))
  case hL => rfl
  case hC => rfl
  case hN => omega
  case hB => exact Nat.le_refl _
  intro w3 hown3 hc3 hsz3
  have hO2 : w3.ownsRow w1.heap.size 3 1 (.slice s2 p.length c2) p.length (i64s (rowL p.length)) := row_chg HO2.out hc3 (fun _ _ h => h)
  have hB3 : Below w.heap.size w w3 := (below_two HB1.out HB2.out).trans (hc3.below (Nat.le_trans HB1.out.size HB2.out.size) (fun _ h => h.elim))
  have hlt2 : ∀ g, (Value.slice s2 p.length c2).ownBlock = some g → g < w2.heap.size := fun g hg => (HO2.out.lt g hg).2
  have HO3 := Lib.hid hO2; have HD3 := Lib.hid hown3; have HB3 := Lib.hid hB3; have HLT := Lib.hid hlt2
  clear hO2 hown3 hB3 hlt2 hsz3 hc3
  go_wp2
  go_loopw [6] (fun i wr => ∃ (m : Nat) (N C : List Int), m ≤ p.length ∧ i = .int .i64 ((m : Int) - 1) ∧ N.length = p.length ∧ C.length = p.length ∧ Hid ((N.take m).Nodup) ∧ Hid ((p.take m).Perm (N.take m)) ∧ Hid (∀ j, j < m → C.getD j 0 = 0) ∧
    Hid (chR m (N.take m) p ++ C.drop m = choL p) ∧
    Hid (wr.ownsRow w1.heap.size 3 1 (.slice s2 p.length c2) p.length (i64s N)) ∧ Hid (wr.ownsRow w2.heap.size 3 1 (.slice (some ⟨w2.heap.size, 0, none⟩) p.length p.length) p.length (i64s C)) ∧ Hid (Below w.heap.size w wr)) (fun i _ => (intOf i).toNat)
  case atStart =>
    have ht : (rowL p.length).take p.length = rowL p.length := List.take_of_length_le (by rw [rowL_len]; exact Nat.le_refl _)
    refine ⟨p.length, rowL p.length, List.replicate p.length 0, Nat.le_refl _, rfl, rowL_len _, by simp, ?_, ?_, ?_, ?_, HO3, HD3, HB3⟩
    · show List.Nodup _; rw [ht]; exact rowL_nodup _
    · show List.Perm _ _; rw [ht, List.take_length]; exact HIP.out
    · intro j hj; simp [List.getD, hj]
    · show chR _ _ _ ++ _ = choL p
      rw [ht, List.drop_of_length_le (by simp), List.append_nil]; rfl
  case round =>
    obtain ⟨m, N, C, hm, rfl, hNl, hCl, HN, HPM, HZ, HCH, HON, HOC, HB⟩ := hrel
    by_cases hlt : 1 < m
    · obtain ⟨m, rfl⟩ : ∃ m', m = m' + 1 := ⟨m - 1, by omega⟩
      have e1 : (((m + 1 : Nat) : Int) - 1) = (m : Int) := by omega
      rw [e1]
      obtain ⟨a, ham, hix, hidx, hnd, hpm⟩ := cho_step (Now := N) (p := p) (m := m) (by omega) (by omega) HN.out HPM.out
      obtain ⟨b, off, hsa, hcc⟩ := (HR.out.below HB.out).at (by omega)
      have cx := hcc m _ (i64s_at p m (by omega))
      obtain ⟨g, hs2, hg1, hg2, hg3, hcell, hfz⟩ := row_ptr HON.out (by omega)
      have ca := hcell a _ (i64s_at N a (by omega))
      have ci := hcell m _ (i64s_at N m (by omega))
      have fa := hfz a
      have fi := hfz m
      obtain ⟨g', hs3, hh1, hh2, hh3, hcell3, hfz3⟩ := row_ptr HOC.out (by omega)
      cases hs3
      have cd := hcell3 m _ (i64s_at C m (by omega))
      have fd := hfz3 m
      have hgg : g < w2.heap.size := HLT.out g (by rw [hs2]; rfl)
      have hai : (a : Int) < (p.length : Int) := by omega
      have hmi : (m : Int) < (p.length : Int) := by omega
      have hm0 : (0 : Int) < (m : Int) := by omega
      have ha0 : (0 : Int) ≤ (a : Int) := by omega
      have hm00 : (0 : Int) ≤ (m : Int) := by omega
      have HIX := Lib.hid hix; have HIDX := Lib.hid hidx; have HND := Lib.hid hnd; have HPM2 := Lib.hid hpm; have HNL := Lib.hid hNl; have HCL := Lib.hid hCl
      clear hix hidx hnd hpm hNl hCl hcc hcell hfz hcell3 hfz3 e1 hlt
      subst hs2; subst hsa
      generalize hy : N.getD m 0 = y at *
      generalize hz : N.getD a 0 = z at *
      generalize hu : C.getD m 0 = u at *
      generalize hq : p.getD m 0 = q at *
      have HY := Lib.hid hy; have HZ2 := Lib.hid hz; have HU2 := Lib.hid hu; have HQ := Lib.hid hq
      clear hy hz hu hq
      go_wp2_with (go_at_call 124; go_must (refine (index_rd _ _ _ N _ (rd_of_row HON.out)).mono ?_); rintro e w' ⟨rfl, rfl⟩; rw [HIDX.out])
      obtain ⟨w4, hw4⟩ : ∃ w4, w4 = wr.setCell ⟨w2.heap.size, m, none⟩ (.int .i64 (a : Int)) := ⟨_, rfl⟩
      have oblk : ∀ o, w4.cell? ⟨g, o, none⟩ = wr.cell? ⟨g, o, none⟩ := fun o => by rw [hw4]; exact World.cell?_of_block (w := wr) (Below.heap_setCell _ _ _ _ (by show g ≠ w2.heap.size; omega))
      have ofz : ∀ o, w4.frozen? ⟨g, o, none⟩ = wr.frozen? ⟨g, o, none⟩ := fun o => by rw [hw4]; exact World.frozen?_of_block (w := wr) (Below.heap_setCell _ _ _ _ (by show g ≠ w2.heap.size; omega))
      have c4a : w4.cell? ⟨g, a, none⟩ = some (.int .i64 z) := (oblk a).trans ca
      have c4i : w4.cell? ⟨g, m, none⟩ = some (.int .i64 y) := (oblk _).trans ci
      have f4a : w4.frozen? ⟨g, a, none⟩ = false := (ofz a).trans fa
      have f4i : w4.frozen? ⟨g, m, none⟩ = false := (ofz _).trans fi
      have hON4 : w4.ownsRow w1.heap.size 3 1 (.slice (some ⟨g, 0, none⟩) p.length c2) p.length (i64s N) := by
        rw [hw4]; exact row_kept HON.out fun x hx => Below.heap_setCell _ _ _ _ (by cases hx; show g ≠ w2.heap.size; omega)
      have hOC4 : w4.ownsRow w2.heap.size 3 1 (.slice (some ⟨w2.heap.size, 0, none⟩) p.length p.length) p.length (i64s (C.set m (a : Int))) := by
        rw [hw4, i64s_set]; exact row_set HOC.out (by omega) _
      have hsz2 : w.heap.size ≤ w2.heap.size := Nat.le_trans HB1.out.size HB2.out.size
      have hB4 : Below w.heap.size w w4 := by rw [hw4]; exact HB.out.setCell (p := ⟨w2.heap.size, m, none⟩) hsz2 _
      have hCm : (C.set m (a : Int)).getD m 0 = (a : Int) := by rw [getD_set _ _ _ _ (by have := HCL.out; omega), if_pos rfl]
      obtain ⟨g5, hs5, -, -, -, hcell5, -⟩ := row_ptr hOC4 (by omega)
      cases hs5
      have c4c := hcell5 m _ (i64s_at (C.set m (a : Int)) m (by rw [List.length_set]; have := HCL.out; omega))
      rw [hCm] at c4c
      obtain ⟨v2, hv2⟩ := cell?_setCell_some (w := w4) (p := ⟨g, m, none⟩) (x := .int .i64 z) (q := ⟨g, a, none⟩) (v := .int .i64 z) c4a
      have c5c : (w4.setCell ⟨g, m, none⟩ (.int .i64 z)).cell? ⟨w2.heap.size, m, none⟩ = some (.int .i64 (a : Int)) := by
        rw [World.cell?_of_block (w := w4) (Below.heap_setCell _ _ _ _ (by show w2.heap.size ≠ g; omega))]
        exact c4c
      rw [← hw4]
      have HON4 := Lib.hid hON4; have HOC4 := Lib.hid hOC4; have HB4 := Lib.hid hB4
      clear hw4 hON4 hOC4 hB4 oblk ofz ca ci fa fi cd fd hCm hcell5 cx
      go_region
      go_wp2
      go_roundw
      case rel =>
        refine ⟨m, swp N m a, C.set m (a : Int), by omega, rfl, by rw [swp_len]; exact HNL.out, by rw [List.length_set]; exact HCL.out, HND, HPM2, ?_, ?_, ?_, ?_, ?_⟩
        · intro j hj
          rw [getD_set _ _ _ _ (by have := HCL.out; omega), if_neg (by omega)]
          exact HZ.out j (by omega)
        · show chR _ _ _ ++ _ = _
          rw [chR_step N p C m a ham (by have := HNL.out; omega) (by have := HCL.out; omega) (by rw [HQ.out]; exact HIX.out)]
          exact HCH.out
        · have h1 := row_set HON4.out (i := m) (by omega) (.int .i64 z)
          have h2 := row_set h1 (i := a) (by omega) (.int .i64 y)
          rw [← i64s_set, ← i64s_set] at h2
          show World.ownsRow _ _ _ _ _ _ (i64s (swp N m a))
          unfold swp
          rw [HY.out, HZ2.out]
          exact h2
        · refine row_kept HOC4.out fun x hx => ?_
          cases hx
          show ((w4.setCell ⟨g, m, none⟩ (.int .i64 z)).setCell ⟨g, a, none⟩ (.int .i64 y)).heap[w2.heap.size]? = _
          rw [Below.heap_setCell _ _ _ _ (by show w2.heap.size ≠ g; omega), Below.heap_setCell _ _ _ _ (by show w2.heap.size ≠ g; omega)]
        · exact ((HB4.out.setCell (p := ⟨g, m, none⟩) (by have := HB1.out.size; show w.heap.size ≤ g; omega) _).setCell (p := ⟨g, a, none⟩) (by have := HB1.out.size; show w.heap.size ≤ g; omega) _).drew
      case measure => simp [intOf]; omega
    · have hle : ¬ (0 : Int) < (m : Int) - 1 := by omega
      go_wp2
      go_ret2
      refine ⟨_, _, rfl, ?_, HB.out⟩
      rw [← HCH.out, chR_end N p C m (by omega) (by omega) (by omega) (by omega) HZ.out HPM.out]
      exact row_mono HOC.out (Nat.le_trans HB1.out.size HB2.out.size)

end Go.Proofs.Ytkgmobneipdpeaa
