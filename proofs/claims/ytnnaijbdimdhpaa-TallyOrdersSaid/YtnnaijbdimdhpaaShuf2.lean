/-
  The reference's Perm; the program's Then and Back.
-/
import Derived.Test.YtnnaijbdimdhpaaShuf
namespace Go.Proofs.Ytnnaijbdimdhpaa
open Go.RowKit
set_option linter.unusedVariables false

theorem permR_ref (R c Bk : List Int) (m a : Nat) (hR : R.length = m + 1) (ha : a < m + 1) (hc : c.getD m 0 = (a : Int)) :
    permR m ((R.set a (R.getD m 0)).take m) c ++ (Bk ++ [R.getD a 0]).reverse = permR (m + 1) R c ++ Bk.reverse := by
  have e : (R.set a (R.getD m 0)).take m = (swp R m a).take m := by
    refine ext_getD (by simp [swp_len]) fun i hi => ?_
    have him : i < m := by simp at hi; omega
    rw [getD_take _ _ _ him, getD_take _ _ _ him, getD_set _ _ _ _ (by omega), swp_get _ _ _ _ (by omega) (by omega)]
    by_cases h : a = i
    · rw [if_pos h, if_pos h.symm]
    · rw [if_neg h, if_neg (fun h' => h h'.symm), if_neg (by omega)]
  simp only [permR]
  rw [hc, Int.toNat_natCast, e, List.reverse_append, List.append_assoc]
  rfl
theorem drop_rev (l : List Int) (m : Nat) (h : m < l.length) : (l.drop (m + 1)).reverse ++ [l.getD m 0] = (l.drop m).reverse := by
  rw [List.drop_eq_getElem_cons h, List.reverse_cons]
  simp [List.getD, List.getElem?_eq_getElem h]

set_option maxRecDepth 100000 in
set_option maxHeartbeats 4000000 in
theorem refperm_any (w : World) (v : Value) (n : Nat) (c : List Int) (h : Rd w 1 v n (i64s c)) (hbig : n ≤ 50000) (hc : shRight c) :
    Calls Try.prog 99 #[v] w fun e w' => ∃ sa cap, e = .returned (.slice sa n cap) ∧ w'.ownsRow w.heap.size 3 1 (.slice sa n cap) n (i64s (permL c)) ∧ Below w.heap.size w w' := by
  have hln := h.len_i64
  subst hln
  obtain ⟨sa, cap, rfl⟩ := h.form
  have HR := Lib.hid h; have HC := Lib.hid hc; clear h hc
  go_enter Try.func99, Try.ntmps99
  go_wp2_with (go_at_call 88; go_must (refine (refrow_any _ c.length (by omega)).mono ?_); rintro e w1 ⟨s1, c1, rfl, hown1, hb1⟩; have HO1 := Lib.hid hown1; have HB1 := Lib.hid hb1; clear hown1 hb1)
  go_loopw [3, 4, 5] (fun v u i wr => ∃ (m q : Nat) (R Bk : List Int) (sr sb : Option Addr) (cr cb : Nat), q + m = c.length ∧ i = .int .i64 ((m : Int) - 1) ∧ v = .slice sr m cr ∧ u = .slice sb q cb ∧ R.length = m ∧ Bk.length = q ∧ Hid (permR m R c ++ Bk.reverse = permL c) ∧
    Hid (wr.ownsRow w.heap.size 3 1 (.slice sr m cr) m (i64s R)) ∧ Hid (∀ g, (Value.slice sr m cr).ownBlock = some g → g < w1.heap.size) ∧ Hid (wr.ownsRow w1.heap.size 3 1 (.slice sb q cb) q (i64s Bk)) ∧ Hid (Below w.heap.size w wr) ∧ w1.heap.size ≤ wr.heap.size) (fun _ _ i _ => (intOf i + 1).toNat)
  case atStart =>
    refine ⟨c.length, 0, rowL c.length, [], s1, none, c1, 0, by omega, rfl, rfl, rfl, rowL_len _, rfl, ?_, HO1, ?_, World.ownsRow_nil _ _ _ _, HB1, Nat.le_refl _⟩
    · show permR _ _ _ ++ _ = permL c
      simp; rfl
    · exact fun g hg => (HO1.out.lt g hg).2
  case round =>
    obtain ⟨m, q, R, Bk, sr, sb, cr, cb, hqm, rfl, rfl, rfl, hRl, hBl, HP, HO, HLT, HOB, HB, hsz⟩ := hrel
    by_cases hlt : 0 < m
    · obtain ⟨m, rfl⟩ : ∃ m', m = m' + 1 := ⟨m - 1, by omega⟩
      have e1 : (((m + 1 : Nat) : Int) - 1) = (m : Int) := by omega
      rw [e1]
      have hx2 := HC.out m (by omega)
      obtain ⟨a, ha⟩ : ∃ a : Nat, c.getD m 0 = (a : Int) := ⟨(c.getD m 0).toNat, by omega⟩
      have ham : a < m + 1 := by omega
      obtain ⟨b, off, hsa, hcc⟩ := (HR.out.below HB.out).at (by omega)
      have cx := hcc m _ (i64s_at c m (by omega))
      rw [ha] at cx
      obtain ⟨g, hs1, hg1, hg2, hg3, hcell, hfz⟩ := row_ptr HO.out (by omega)
      have hgl := HLT.out g (by rw [hs1]; rfl)
      subst hs1; subst hsa
      have ca := hcell a _ (i64s_at R a (by omega))
      have ci := hcell m _ (i64s_at R m (by omega))
      have hai : (a : Int) < ((m + 1 : Nat) : Int) := by omega
      have hmi : (m : Int) < ((m + 1 : Nat) : Int) := by omega
      have hmc : (m : Int) ≤ (cr : Int) := by omega
      have ha0 : (0 : Int) ≤ (a : Int) := by omega
      have hm00 : (0 : Int) ≤ (m : Int) := by omega
      have hml : (m : Int) < (c.length : Int) := by omega
      have HX := Lib.hid ha; have HRL := Lib.hid hRl; have HBL := Lib.hid hBl; have HGL := Lib.hid hgl
      have hstep : permR m ((R.set a (R.getD m 0)).take m) c ++ (Bk ++ [R.getD a 0]).reverse = permL c := by
        rw [permR_ref R c Bk m a hRl ham ha]; exact HP.out
      have HST := Lib.hid hstep
      clear hx2 ha hcc hcell hfz e1 hRl hBl hgl hlt hstep
      generalize hy : R.getD m 0 = y at *
      generalize hz : R.getD a 0 = z at *
      clear hy hz
      rcases Nat.eq_zero_or_pos m with hm | hm
      · obtain rfl : a = 0 := by omega
        have q0 : ((m : Int) == 0) = true := by simp; omega
        have HM0 := Lib.hid hm
        clear hm
        have ca' : wr.cell? ⟨g, 0, none⟩ = some (.int .i64 z) := ca
        go_wp2_with (at_builtin; refine app_i64 _ rfl _ _ rfl w1.heap.size _ _ _ rfl HOB.out _ _ rfl ?qg ?qn ?qb ?_)
        case qg => rfl
        case qn => omega
        case qb => exact hsz
        intro v' w2 hown hchg hfresh
        obtain ⟨sb', cb', rfl⟩ := (rd_of_row hown).form
        have hO2 : w2.ownsRow w.heap.size 3 1 (.slice (some ⟨g, 0, none⟩) (m + 1) cr) (m + 1) (i64s R) := row_chg HO.out hchg fun g' hg' hg2 => by
          obtain rfl : g = g' := by cases hg'; rfl
          have := (HOB.out.lt _ hg2).1; have := HGL.out; omega
        obtain ⟨g2, hs2, -, -, -, hcell2, hfz2⟩ := row_ptr hO2 (by omega)
        cases hs2
        have c2i : w2.cell? ⟨g, m, none⟩ = some (.int .i64 y) := by
          rw [World.cell?_of_block (w := wr) (hchg.block g hg2 (fun hx => by have := (HOB.out.lt _ hx).1; have := HGL.out; omega))]
          exact ci
        have c20 : w2.cell? ⟨g, 0, none⟩ = some (.int .i64 z) := by
          rw [World.cell?_of_block (w := wr) (hchg.block g hg2 (fun hx => by have := (HOB.out.lt _ hx).1; have := HGL.out; omega))]
          exact ca'
        have f2 := hfz2 0
        have hB2 : Below w.heap.size w w2 := HB.out.trans (hchg.below HB.out.size fun i hi => by have := (HOB.out.lt _ hi).1; have := HB1.out.size; omega)
        have hsz2 := Nat.le_trans hsz hchg.size
        rw [← i64s_snoc] at hown
        have HO2 := Lib.hid hO2; have HOB2 := Lib.hid hown; have HB2 := Lib.hid hB2
        clear hO2 hown hB2 hchg hfresh hcell2 hfz2 ca ci ca' cx
        go_wp2
        go_roundw
        case rel =>
          have h1 := row_set HO2.out (i := 0) (by omega) (.int .i64 y)
          rw [← i64s_set] at h1
          have h2 := row_prefix h1 (k := m) (by omega)
          refine ⟨m, q + 1, (R.set 0 y).take m, Bk ++ [z], some ⟨g, 0, none⟩, sb', cr, cb', by omega, rfl, rfl, rfl, by have := HRL.out; simp; omega, by have := HBL.out; simp; omega, HST, ?_, ?_, ?_, HB2.out.setCell (p := ⟨g, 0, none⟩) hg1 _, ?_⟩
          · show World.ownsRow _ _ _ _ _ _ (i64s ((R.set 0 y).take m))
            have e : i64s ((R.set 0 y).take m) = (i64s (R.set 0 y)).take m := by simp [i64s]
            rw [e]; exact h2
          · exact fun g' hg' => by cases hg'; exact HGL.out
          · exact row_kept HOB2.out fun x hx => Below.heap_setCell _ _ _ _ (by have := (HOB2.out.lt _ hx).1; have := HGL.out; show x ≠ g; omega)
          · simpa [World.setCell] using hsz2
        case measure => simp [intOf]; try omega
      · have q0 : ((m : Int) == 0) = false := by simp; omega
        go_wp2_with (at_builtin; refine app_i64 _ rfl _ _ rfl w1.heap.size _ _ _ rfl HOB.out _ _ rfl ?qg ?qn ?qb ?_)
        case qg => rfl
        case qn => omega
        case qb => exact hsz
        intro v' w2 hown hchg hfresh
        obtain ⟨sb', cb', rfl⟩ := (rd_of_row hown).form
        have hO2 : w2.ownsRow w.heap.size 3 1 (.slice (some ⟨g, 0, none⟩) (m + 1) cr) (m + 1) (i64s R) := row_chg HO.out hchg fun g' hg' hg2 => by
          obtain rfl : g = g' := by cases hg'; rfl
          have := (HOB.out.lt _ hg2).1; have := HGL.out; omega
        obtain ⟨g2, hs2, -, -, -, hcell2, hfz2⟩ := row_ptr hO2 (by omega)
        cases hs2
        have eb : ∀ o, w2.cell? ⟨g, o, none⟩ = wr.cell? ⟨g, o, none⟩ := fun o => World.cell?_of_block (w := wr) (hchg.block g hg2 (fun hx => by have := (HOB.out.lt _ hx).1; have := HGL.out; omega))
        have c2i : w2.cell? ⟨g, m, none⟩ = some (.int .i64 y) := (eb m).trans ci
        have c2a : w2.cell? ⟨g, a, none⟩ = some (.int .i64 z) := (eb a).trans ca
        have f2 := hfz2 a
        have hB2 : Below w.heap.size w w2 := HB.out.trans (hchg.below HB.out.size fun i hi => by have := (HOB.out.lt _ hi).1; have := HB1.out.size; omega)
        have hsz2 := Nat.le_trans hsz hchg.size
        rw [← i64s_snoc] at hown
        have HO2 := Lib.hid hO2; have HOB2 := Lib.hid hown; have HB2 := Lib.hid hB2
        clear hO2 hown hB2 hchg hfresh hcell2 hfz2 ca ci cx eb
        go_wp2
        go_roundw
        case rel =>
          have h1 := row_set HO2.out (i := a) (by omega) (.int .i64 y)
          rw [← i64s_set] at h1
          have h2 := row_prefix h1 (k := m) (by omega)
          refine ⟨m, q + 1, (R.set a y).take m, Bk ++ [z], some ⟨g, 0, none⟩, sb', cr, cb', by omega, rfl, rfl, rfl, by have := HRL.out; simp; omega, by have := HBL.out; simp; omega, HST, ?_, ?_, ?_, HB2.out.setCell (p := ⟨g, a, none⟩) hg1 _, ?_⟩
          · show World.ownsRow _ _ _ _ _ _ (i64s ((R.set a y).take m))
            have e : i64s ((R.set a y).take m) = (i64s (R.set a y)).take m := by simp [i64s]
            rw [e]; exact h2
          · exact fun g' hg' => by cases hg'; exact HGL.out
          · exact row_kept HOB2.out fun x hx => Below.heap_setCell _ _ _ _ (by have := (HOB2.out.lt _ hx).1; have := HGL.out; show x ≠ g; omega)
          · simpa [World.setCell] using hsz2
        case measure => simp [intOf]; try omega
    · obtain rfl : m = 0 := by omega
      obtain rfl : q = c.length := by omega
      have hrev : permL c = Bk.reverse := by rw [← HP.out]; simp [permR]
      have hle : ¬ (0 : Int) ≤ ((0 : Nat) : Int) - 1 := by omega
      have HRV := Lib.hid hrev; have HBL := Lib.hid hBl; clear hrev hRl hlt
      go_wp2
      clear hle
      obtain ⟨wo, hwo⟩ : ∃ wo : World, wo = wr := ⟨_, rfl⟩
      have HWO := Lib.hid hwo
      go_loopw [7, 8] (fun v i wq => ∃ (m q : Nat) (so : Option Addr) (co : Nat), q + m = c.length ∧ i = .int .i64 ((m : Int) - 1) ∧ v = .slice so q co ∧ Hid (wq.ownsRow wo.heap.size 3 1 (.slice so q co) q (i64s (Bk.drop m).reverse)) ∧ Hid (Below wo.heap.size wo wq)) (fun _ i _ => (intOf i + 1).toNat)
      case atStart =>
        refine ⟨c.length, 0, none, 0, by omega, rfl, rfl, ?_, ?_⟩
        · show World.ownsRow _ _ _ _ _ _ (i64s (Bk.drop c.length).reverse)
          rw [List.drop_of_length_le (by omega)]
          exact World.ownsRow_nil _ _ _ _
        · show Below _ _ _
          rw [hwo]; exact Below.refl _ _
      case round =>
        obtain ⟨m, q, so, co, hqm2, rfl, rfl, HQ, HBQ⟩ := hrel
        have HO' := Lib.hid (row_kept (w' := wr) (hwo ▸ HOB.out) (fun g hg => HBQ.out.block g (by rw [hwo]; exact (HOB.out.lt g hg).2)))
        clear hwo
        by_cases hlt : 0 < m
        · obtain ⟨m, rfl⟩ : ∃ m', m = m' + 1 := ⟨m - 1, by omega⟩
          have e1 : (((m + 1 : Nat) : Int) - 1) = (m : Int) := by omega
          rw [e1]
          obtain ⟨g, hs1, hg1, hg2, hg3, hcell, hfz⟩ := row_ptr HO'.out (by omega)
          subst hs1
          have ci := hcell m _ (i64s_at Bk m (by have := HBL.out; omega))
          have hml : (m : Int) < (c.length : Int) := by omega
          have hm00 : (0 : Int) ≤ (m : Int) := by omega
          have hd := drop_rev Bk m (by have := HBL.out; omega)
          have HD := Lib.hid hd
          clear hcell hfz e1 hlt hd
          generalize hy : Bk.getD m 0 = y at *
          clear hy
          go_wp2_with (at_builtin; refine app_i64 _ rfl _ _ rfl wo.heap.size _ _ _ rfl HQ.out _ _ rfl ?qg ?qn ?qb ?_)
          case qg => rfl
          case qn => omega
          case qb => exact HBQ.out.size
          intro v' w2 hown hchg hfresh
          obtain ⟨so', co', rfl⟩ := (rd_of_row hown).form
          rw [← i64s_snoc, HD.out] at hown
          have HQ2 := Lib.hid hown; have HC2 := Lib.hid hchg
          clear hown hchg hfresh
          go_wp2
          go_roundw
          case rel => exact ⟨m, q + 1, so', co', by omega, rfl, rfl, HQ2, HBQ.out.trans (HC2.out.below HBQ.out.size fun i hi => (HQ.out.lt i hi).1)⟩
          case measure => simp [intOf]; try omega
        · obtain rfl : m = 0 := by omega
          obtain rfl : q = c.length := by omega
          have hle : ¬ (0 : Int) ≤ ((0 : Nat) : Int) - 1 := by omega
          go_wp2
          go_ret
          have hw := HWO.out
          subst hw
          refine ⟨so, co, rfl, ?_, HB.out.trans (HBQ.out.mono HB.out.size)⟩
          have := HQ.out
          rw [List.drop_zero, ← HRV.out] at this
          exact row_mono this HB.out.size

end Go.Proofs.Ytnnaijbdimdhpaa
