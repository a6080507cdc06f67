/-
  The program's Undo; the reference's From.
-/
import Derived.Test.YtcoohepkmhpdkaaGreatSort
import Derived.Test.YtcoohepkmhpdkaaGreatRes3
namespace Go.Proofs.YtcoohepkmhpdkaaGreat
open Go.RowKit
set_option linter.unusedVariables false

theorem swp_take (P : List Int) (a m : Nat) (ha : a < m + 1) (hm : m + 1 ≤ P.length) : (swp P a m).take m = (swp (P.take (m + 1)) a m).take m := by
  have hl : (P.take (m + 1)).length = m + 1 := by rw [List.length_take]; omega
  refine ext_getD (by simp [swp_len]; omega) fun i hi => ?_
  have him : i < m := by simp [swp_len] at hi; omega
  rw [getD_take _ _ _ him, getD_take _ _ _ him, swp_get _ _ _ _ (by omega) (by omega), swp_get _ _ _ _ (by omega) (by omega), getD_take _ _ _ ha, getD_take _ _ _ (by omega), getD_take _ _ _ (by omega)]
theorem idx_take (P : List Int) (m : Nat) (hm : m ≤ P.length) (hp : IsP (P.take m)) (x : Int) (h0 : 0 ≤ x) (h1 : x < (m : Int)) :
    ixN (P.take m) x < m ∧ Lib.idxOf P x = ((ixN (P.take m) x : Nat) : Int) ∧ P.getD (ixN (P.take m) x) 0 = x := by
  have hl : (P.take m).length = m := by rw [List.length_take]; omega
  obtain ⟨g1, g2, g3⟩ := ixN_spec hp h0 (by rw [hl]; exact h1)
  rw [hl] at g1
  have g4 : P.getD (ixN (P.take m) x) 0 = x := by rw [← getD_take P m _ g1]; exact g2
  refine ⟨g1, ?_, g4⟩
  have := Lib.idxFrom_hit x P (ixN (P.take m) x) 0 (by omega) g4 (fun j hj e => by
    have := nodup_inj hp.nodup (i := j) (j := ixN (P.take m) x) (by omega) (by omega) (by rw [getD_take _ _ _ (by omega), g2]; exact e)
    omega)
  simpa [Lib.idxOf] using this
theorem set_drop (D : List Int) (m : Nat) (hm : m < D.length) (x : Int) : (D.set m x).drop m = x :: D.drop (m + 1) := by
  rw [List.drop_eq_getElem_cons (by simpa using hm), List.drop_set_of_lt (by omega)]
  simp
theorem i64s_getD (l : List Int) (k : Nat) (h : k < l.length) : (i64s l)[k]? = some (.int .i64 (l.getD k 0)) := i64s_at l k h

theorem undoAcc_succ (k i : Nat) (p acc : List Int) : undoAcc k (i + 1) p acc = undoAcc k i ((swp p (ixN p ((k + i : Nat) : Int)) (k + i)).take (k + i)) (((ixN p ((k + i : Nat) : Int) : Nat) : Int) :: acc) := rfl

set_option maxRecDepth 100000 in
set_option maxHeartbeats 4000000 in
theorem undo_ok2 (w : World) (n k : Nat) (v : Value) (p : List Int) (hr : Rd w 1 v n (i64s p)) (hk : k ≤ n) (hn : n ≤ 256) (hp : IsP p) :
    Calls Tryz.prog 87 #[.int .i64 (n : Int), .int .i64 (k : Int), v] w fun e w' => ∃ s1 c1 s2 c2 B2, e = .returned (.tuple #[.slice s1 (n - k) c1, .slice s2 k c2, .int .i64 0]) ∧
      w'.ownsRow B2 3 1 (.slice s1 (n - k) c1) (n - k) (i64s (undoAcc k (n - k) p []).1) ∧ Rd w' 1 (.slice s2 k c2) k (i64s (undoAcc k (n - k) p []).2) ∧ Below w.heap.size w w' ∧ w.heap.size ≤ B2 ∧ ∀ b o, s2 = some ⟨b, o, none⟩ → b < B2 := by
  have hln := hr.len_i64
  obtain ⟨sp, cp, rfl⟩ := hr.form
  have hz : resChk (n : Int) (k : Int) = 0 := resChk_zero.2 (by omega)
  have hpb : isPB p = true := isPB_iff.2 hp
  have q1 : ((n : Int) != (n : Int)) = false := by simp
  have HR := Lib.hid hr; have HZ := Lib.hid hz; have HPB := Lib.hid hpb; have HP := Lib.hid hp; have HL := Lib.hid hln
  clear hr hz hpb hp hln
  go_enter Tryz.func87, Tryz.ntmps87
  go_wp2_with (first
    | (go_at_call 33; go_must (refine (reschk_any _ _ _).mono ?_); rintro e w' ⟨rfl, rfl⟩; rw [HZ.out])
    | (go_at_call 86; go_must (refine (is_any _ _ _ p HR.out (by omega)).mono ?_); rintro e w1 ⟨rfl, hb1⟩; rw [HPB.out]; have HB1 := Lib.hid hb1; clear hb1)
    | (go_at_call 82; go_must (refine (clone_i64 _ _ p _ (HR.out.below HB1.out) (by omega)).mono ?_); rintro e w2 ⟨s2, c2, rfl, hown2, hb2⟩; have HO2 := Lib.hid hown2; have HB2 := Lib.hid hb2; clear hown2 hb2)
    | (at_make; refine mk_i64 _ rfl _ _ rfl w2.heap.size _ _ (n - k) rfl rfl ?hL ?hC ?hN ?hB ?_))
  case hL => omega
  case hC => omega
  case hN => omega
  case hB => exact Nat.le_refl _
  intro w3 hown3 hc3 hsz3
  have hO2 : w3.ownsRow w1.heap.size 3 1 (.slice s2 n c2) n (i64s p) := row_chg HO2.out hc3 (fun _ _ h => h)
  have hB3 : Below w.heap.size w w3 := (below_two HB1.out HB2.out).trans (hc3.below (Nat.le_trans HB1.out.size HB2.out.size) (fun _ h => h.elim))
  have hlt2 : ∀ g, (Value.slice s2 n c2).ownBlock = some g → g < w2.heap.size := fun g hg => (HO2.out.lt g hg).2
  have HO3 := Lib.hid hO2; have HD3 := Lib.hid hown3; have HB3 := Lib.hid hB3; have HLT := Lib.hid hlt2; have HSZ := Lib.hid hsz3
  clear hO2 hown3 hB3 hlt2 hsz3 hc3
  go_wp2
  go_loopw [11] (fun i wr => ∃ (m : Nat) (P D : List Int), m ≤ n - k ∧ i = .int .i64 ((k : Int) + (m : Int) - 1) ∧ P.length = n ∧ D.length = n - k ∧ Hid (IsP (P.take (k + m))) ∧ Hid (undoAcc k m (P.take (k + m)) (D.drop m) = undoAcc k (n - k) p []) ∧
    Hid (wr.ownsRow w1.heap.size 3 1 (.slice s2 n c2) n (i64s P)) ∧ Hid (wr.ownsRow w2.heap.size 3 1 (.slice (some ⟨w2.heap.size, 0, none⟩) (n - k) (n - k)) (n - k) (i64s D)) ∧ Hid (Below w.heap.size w wr)) (fun i _ => (intOf i + 1 - (k : Int)).toNat)
  case atStart =>
    refine ⟨n - k, p, List.replicate (n - k) 0, Nat.le_refl _, by congr 1; omega, HL.out.symm, by simp, ?_, ?_, HO3, HD3, HB3⟩
    · have : k + (n - k) = p.length := by have := HL.out; omega
      rw [this, List.take_length]; exact HP
    · have : k + (n - k) = p.length := by have := HL.out; omega
      rw [this, List.take_length, List.drop_of_length_le (by simp)]; exact rfl
  case round =>
    obtain ⟨m, P, D, hm, rfl, hPl, hDl, HIP, HU, HOP, HOD, HB⟩ := hrel
    by_cases hlt : 0 < m
    · obtain ⟨m, rfl⟩ : ∃ m', m = m' + 1 := ⟨m - 1, by omega⟩
      have e1 : ((k : Int) + ((m + 1 : Nat) : Int) - 1) = (k : Int) + (m : Int) := by omega
      rw [e1]
      have hkm : k + m + 1 ≤ n := by omega
      obtain ⟨ga, gi, gp⟩ := idx_take P (k + (m + 1)) (by omega) HIP.out ((k : Int) + (m : Int)) (by omega) (by omega)
      generalize hat : ixN (P.take (k + (m + 1))) ((k : Int) + (m : Int)) = a at *
      obtain ⟨g, hs2, hg1, hg2, hg3, hcell, hfz⟩ := row_ptr HOP.out (by omega)
      have ca := hcell a _ (i64s_at P a (by omega))
      have ci := hcell (k + m) _ (i64s_at P (k + m) (by omega))
      have fa := hfz a
      have fi := hfz (k + m)
      obtain ⟨g', hs3, hh1, hh2, hh3, hcell3, hfz3⟩ := row_ptr HOD.out (by omega)
      cases hs3
      have cd := hcell3 m _ (i64s_at D m (by omega))
      have fd := hfz3 m
      have hgg : g < w2.heap.size := HLT.out g (by rw [hs2]; rfl)
      clear hcell hfz hcell3 hfz3
      have hai : (a : Int) < (n : Int) := by omega
      have hkm0 : (m : Int) < ((n - k : Nat) : Int) := by omega
      have hkm1 : (k : Int) + (m : Int) < (n : Int) := by omega
      have HGI := Lib.hid gi; have HGP := Lib.hid gp; have HAT := Lib.hid hat
      clear gi gp hat e1
      subst hs2
      generalize hy : P.getD (k + m) 0 = y at *
      generalize hz : P.getD a 0 = z at *
      generalize hu : D.getD m 0 = u at *
      have HY := Lib.hid hy; have HZ2 := Lib.hid hz; have HU2 := Lib.hid hu
      clear hy hz hu
      go_wp2_with (go_at_call 127; go_must (refine (index_rd _ _ _ P _ (rd_of_row HOP.out)).mono ?_); rintro e w' ⟨rfl, rfl⟩; rw [HGI.out])
      obtain ⟨w4, hw4⟩ : ∃ w4, w4 = wr.setCell ⟨w2.heap.size, m, none⟩ (.int .i64 (a : Int)) := ⟨_, rfl⟩
      have hk0 : (0 : Int) ≤ (k : Int) + (m : Int) := by omega
      have ha0 : (0 : Int) ≤ (a : Int) := by omega
      have oblk : ∀ o, w4.cell? ⟨g, o, none⟩ = wr.cell? ⟨g, o, none⟩ := fun o => by rw [hw4]; exact World.cell?_of_block (w := wr) (Below.heap_setCell _ _ _ _ (by show g ≠ w2.heap.size; omega))
      have ofz : ∀ o, w4.frozen? ⟨g, o, none⟩ = wr.frozen? ⟨g, o, none⟩ := fun o => by rw [hw4]; exact World.frozen?_of_block (w := wr) (Below.heap_setCell _ _ _ _ (by show g ≠ w2.heap.size; omega))
      have c4a : w4.cell? ⟨g, a, none⟩ = some (.int .i64 z) := (oblk a).trans ca
      have c4i : w4.cell? ⟨g, k + m, none⟩ = some (.int .i64 y) := (oblk _).trans ci
      have f4a : w4.frozen? ⟨g, a, none⟩ = false := (ofz a).trans fa
      have f4i : w4.frozen? ⟨g, k + m, none⟩ = false := (ofz _).trans fi
      obtain ⟨v2, hv2⟩ := cell?_setCell_some (w := w4) (p := ⟨g, a, none⟩) (x := .int .i64 y) (q := ⟨g, k + m, none⟩) (v := .int .i64 y) c4i
      have hOP4 : w4.ownsRow w1.heap.size 3 1 (.slice (some ⟨g, 0, none⟩) n c2) n (i64s P) := by
        rw [hw4]; exact row_kept HOP.out fun x hx => Below.heap_setCell _ _ _ _ (by cases hx; show g ≠ w2.heap.size; omega)
      have hOD4 : w4.ownsRow w2.heap.size 3 1 (.slice (some ⟨w2.heap.size, 0, none⟩) (n - k) (n - k)) (n - k) (i64s (D.set m (a : Int))) := by
        rw [hw4, i64s_set]; exact row_set HOD.out (by omega) _
      have hsz2 : w.heap.size ≤ w2.heap.size := Nat.le_trans HB1.out.size HB2.out.size
      have hB4 : Below w.heap.size w w4 := by rw [hw4]; exact HB.out.setCell (p := ⟨w2.heap.size, m, none⟩) hsz2 _
      rw [← hw4]
      have HOP4 := Lib.hid hOP4; have HOD4 := Lib.hid hOD4; have HB4 := Lib.hid hB4
      clear hw4 hOP4 hOD4 hB4 oblk ofz ca ci fa fi cd fd
      go_region
      go_wp2
      go_roundw
      case rel =>
        have hl1 : (P.take (k + (m + 1))).length = k + m + 1 := by rw [List.length_take]; omega
        refine ⟨m, swp P a (k + m), D.set m (a : Int), by omega, rfl, by rw [swp_len]; exact hPl, by rw [List.length_set]; exact hDl, ?_, ?_, ?_, ?_, ?_⟩
        · show IsP ((swp P a (k + m)).take (k + m))
          rw [swp_take P a (k + m) (by omega) (by omega)]
          have h1 := swp_isP HIP.out (i := a) (j := k + m) (by rw [hl1]; omega) (by rw [hl1]; omega)
          have h2 := take_last (l := swp (P.take (k + (m + 1))) a (k + m)) (m := k + m) (by rw [swp_len, hl1])
          have h3 : (swp (P.take (k + (m + 1))) a (k + m)).getD (k + m) 0 = (k : Int) + (m : Int) := by
            rw [swp_get _ _ _ _ (by rw [hl1]; omega) (by rw [hl1]; omega), if_pos rfl, getD_take _ _ _ (by omega), HZ2.out]; exact HGP.out
          have hnd := h1.nodup
          rw [← h2] at hnd
          have hlen : ((swp (P.take (k + (m + 1))) a (k + m)).take (k + m)).length = k + m := by rw [List.length_take, swp_len, hl1]; omega
          refine isP_of (List.nodup_append.1 hnd).1 fun x hx => ?_
          have hb := h1.bound (List.mem_of_mem_take hx)
          have hx2 : x ≠ (k : Int) + (m : Int) := fun e => (List.nodup_append.1 hnd).2.2 x hx _ (List.mem_singleton.2 rfl) (by rw [h3]; exact e)
          rw [swp_len, hl1] at hb
          have hlen' : ((swp (P.take (k + m + 1)) a (k + m)).take (k + m)).length = k + m := hlen
          rw [hlen']
          omega
        · show undoAcc k m ((swp P a (k + m)).take (k + m)) ((D.set m (a : Int)).drop m) = _
          rw [swp_take P a (k + m) (by omega) (by omega), set_drop _ _ (by omega)]
          have hki : ((k : Int) + (m : Int)) = ((k + m : Nat) : Int) := by omega
          have hat : ixN (P.take (k + m + 1)) ((k + m : Nat) : Int) = a := by rw [← hki]; exact HAT.out
          have h5 : undoAcc k (m + 1) (P.take (k + m + 1)) (D.drop (m + 1)) = undoAcc k m ((swp (P.take (k + m + 1)) a (k + m)).take (k + m)) ((a : Int) :: D.drop (m + 1)) := by rw [undoAcc_succ, hat]
          exact h5.symm.trans HU.out
        · have h1 := row_set HOP4.out (i := a) (by omega) (.int .i64 y)
          have h2 := row_set h1 (i := k + m) (by omega) (.int .i64 z)
          rw [← i64s_set, ← i64s_set] at h2
          show World.ownsRow _ _ _ _ _ _ (i64s (swp P a (k + m)))
          unfold swp
          rw [HY.out, HZ2.out]
          exact h2
        · refine row_kept HOD4.out fun x hx => ?_
          cases hx
          show ((w4.setCell ⟨g, a, none⟩ (.int .i64 y)).setCell ⟨g, k + m, none⟩ (.int .i64 z)).heap[w2.heap.size]? = _
          rw [Below.heap_setCell _ _ _ _ (by show w2.heap.size ≠ g; omega), Below.heap_setCell _ _ _ _ (by show w2.heap.size ≠ g; omega)]
        · exact ((HB4.out.setCell (p := ⟨g, a, none⟩) (by have := HB1.out.size; show w.heap.size ≤ g; omega) _).setCell (p := ⟨g, k + m, none⟩) (by have := HB1.out.size; show w.heap.size ≤ g; omega) _).drew
      case measure => simp [intOf]; omega
    · obtain rfl : m = 0 := by omega
      have hkc := (rd_of_row HOP.out).cap_le
      have hkc2 : (k : Int) ≤ (c2 : Int) := by omega
      have hkn2 : (k : Int) ≤ (n : Int) := by omega
      have hk0 : (0 : Int) ≤ (k : Int) := by omega
      clear hkc
      go_wp2
      go_region
      go_wp2
      go_ret3
      have hu : undoAcc k (n - k) p [] = (D, P.take k) := HU.out.symm
      rw [hu]
      refine ⟨_, _, s2, k, w2.heap.size, rfl, HOD.out, ?_, HB.out.drew, Nat.le_trans HB1.out.size HB2.out.size, fun b o hb => HLT.out b (by rw [hb]; rfl)⟩
      exact (rd_of_row HOP.out).to_i64 hk k (Nat.le_refl _)

theorem undo_ok (w : World) (n k : Nat) (v : Value) (p : List Int) (hr : Rd w 1 v n (i64s p)) (hk : k ≤ n) (hn : n ≤ 256) (hp : IsP p) :
    Calls Tryz.prog 87 #[.int .i64 (n : Int), .int .i64 (k : Int), v] w fun e w' => ∃ s1 c1 s2 c2, e = .returned (.tuple #[.slice s1 (n - k) c1, .slice s2 k c2, .int .i64 0]) ∧
      w'.ownsRow w.heap.size 3 1 (.slice s1 (n - k) c1) (n - k) (i64s (undoAcc k (n - k) p []).1) ∧ Rd w' 1 (.slice s2 k c2) k (i64s (undoAcc k (n - k) p []).2) ∧ Below w.heap.size w w' := by
  refine (undo_ok2 w n k v p hr hk hn hp).mono ?_
  rintro e w' ⟨s1, c1, s2, c2, B2, he, h1, h2, h3, h4, -⟩
  exact ⟨s1, c1, s2, c2, he, row_mono h1 h4, h2, h3⟩

set_option maxRecDepth 100000 in
set_option maxHeartbeats 1000000 in
/-- Undo, where something is wrong -/
theorem undo_bad (w : World) (n k : Int) (v : Value) (np : Nat) (p : List Int) (hr : Rd w 1 v np (i64s p)) (hbad : resChk n k ≠ 0 ∨ ((p.length : Int) ≠ n ∨ isPB p = false)) :
    Calls Tryz.prog 87 #[.int .i64 n, .int .i64 k, v] w fun e w' => e = .returned (.tuple #[.slice none 0 0, .slice none 0 0, .int .i64 (if resChk n k = 0 then 2 else resChk n k)]) ∧ Below w.heap.size w w' := by
  have hln := hr.len_i64
  subst hln
  obtain ⟨sp, cp, rfl⟩ := hr.form
  have HR := Lib.hid hr; clear hr
  by_cases hz : resChk n k = 0
  · have hrange := resChk_zero.1 hz
    have hb : (p.length : Int) ≠ n ∨ isPB p = false := by
      rcases hbad with h | h
      · exact absurd hz h
      · exact h
    have he : (if resChk n k = 0 then 2 else resChk n k) = 2 := by rw [if_pos hz]
    rw [he]
    have HZ := Lib.hid hz
    clear hz he hbad
    by_cases hl : (p.length : Int) = n
    · have hpb : isPB p = false := by
        rcases hb with h | h
        · exact absurd hl h
        · exact h
      have q : ((p.length : Int) != n) = false := by simp [hl]
      have hl256 : p.length ≤ 256 := by omega
      have HPB := Lib.hid hpb; have HL := Lib.hid hl
      clear hpb hl hb hrange
      go_enter Tryz.func87, Tryz.ntmps87
      go_wp2_with (first
        | (go_at_call 33; go_must (refine (reschk_any _ _ _).mono ?_); rintro e w' ⟨rfl, rfl⟩; rw [HZ.out])
        | (go_at_call 86; go_must (refine (is_any _ _ _ p HR.out (by omega)).mono ?_); rintro e w1 ⟨rfl, hb1⟩; rw [HPB.out]; have HB1 := Lib.hid hb1; clear hb1))
      go_ret3
      exact ⟨rfl, HB1.out⟩
    · have q : ((p.length : Int) != n) = true := by simp [hl]
      clear hl hb hrange
      go_enter Tryz.func87, Tryz.ntmps87
      go_wp2_with (go_at_call 33; go_must (refine (reschk_any _ _ _).mono ?_); rintro e w' ⟨rfl, rfl⟩; rw [HZ.out])
      go_ret3
      exact ⟨rfl, Below.refl _ _⟩
  · have he : (if resChk n k = 0 then 2 else resChk n k) = resChk n k := by rw [if_neg hz]
    rw [he]
    have q : (resChk n k != 0) = true := by simp [hz]
    generalize hE : resChk n k = E at *
    have HE := Lib.hid hE
    clear hz he hbad hE
    go_enter Tryz.func87, Tryz.ntmps87
    go_wp2_with (go_at_call 33; go_must (refine (reschk_any _ _ _).mono ?_); rintro e w' ⟨rfl, rfl⟩; rw [HE.out])
    go_ret3
    exact ⟨rfl, Below.refl _ _⟩

end Go.Proofs.YtcoohepkmhpdkaaGreat
