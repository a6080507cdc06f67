/-
  SamplerChecks: the law's walk.
-/
import Derived.Test.YtcoohepkmhpdkaaAwake46
import Derived.Test.YtcoohepkmhpdkaaWords
import Derived.Laws.EntriesVeiled
namespace Go.Proofs.Ytcoohepkmhpdkaa
open Go.RowKit
set_option linter.unusedVariables false
set_option linter.unusedSimpArgs false

theorem askL_bad {K N k : Int} {ws : List Nat} (h : askE K N k ws ≠ 0) : askL K N k ws = [] := by unfold askL; rw [if_pos h]

theorem askL_len {K N k : Int} {ws : List Nat} (h : askE K N k ws = 0) : (askL K N k ws).length ≤ 256 := by
  by_cases h12 : K = 1 ∨ K = 2
  · have h1 : ws.length = 1 := by
      by_cases hh : ws.length = 1
      · exact hh
      · simp [askE, h12, hh] at h
    simp only [askL, h, h12]
    simp [h1]
  by_cases h3 : K = 3
  · subst h3
    have hE : askE 3 N k ws = resChk N 0 := by simp [askE]
    rw [hE] at h
    obtain ⟨a, b, c, d⟩ := resChk_zero.1 h
    simp only [askL, hE, h]
    simp [dnL_len]
    omega
  by_cases h4 : K = 4
  · subst h4
    have hE : askE 4 N k ws = resChk N k := by simp [askE]
    rw [hE] at h
    obtain ⟨a, b, c, d⟩ := resChk_zero.1 h
    simp only [askL, hE, h]
    simp [dnL_len]
    omega
  by_cases h5 : K = 5
  · subst h5
    have hE : askE 5 N k ws = resChk N k := by simp [askE]
    rw [hE] at h
    obtain ⟨a, b, c, d⟩ := resChk_zero.1 h
    simp only [askL, hE, h]
    simp [upL_len]
    omega
  simp only [askL, h, h12, h3, h4, h5]
  split <;> simp

set_option maxRecDepth 100000 in
set_option maxHeartbeats 8000000 in
theorem law_SamplerChecks (w : World) (K N k : Int) (sa : Option Addr) (n cap : Nat) (ws : List Nat) (h : Rd w 1 (.slice sa n cap) n (u64s (zsN ws))) (hw : W64 ws) (hn : n ≤ 17592186043904) :
    Calls Try.prog 3 #[.agg #[.int .i64 K, .int .i64 N, .int .i64 k, .slice sa n cap]] w fun e w' => e = .returned (.bool true) ∧ Below w.heap.size w w' := by
  obtain ⟨w0, hw0⟩ : ∃ w0, w0 = w.alloc (.cells #[.int .i64 K, .int .i64 N, .int .i64 k, .slice sa n cap] 24) := ⟨_, rfl⟩
  have hbw : Below w.heap.size w w0 := by rw [hw0]; exact (Below.refl _ _).alloc (Nat.le_refl _) _
  have hbox : w0.heap[w.heap.size]? = some (.cells #[.int .i64 K, .int .i64 N, .int .i64 k, .slice sa n cap] 24 (0, 0)) := by rw [hw0]; exact heap_at rfl
  have hbl := block_lt hbox
  have h' := h.below hbw
  have CA := Lib.hid (fun w1 => awake46 w1)
  have CK := Lib.hid (fun w1 (hb : Below w0.heap.size w0 w1) => chk_law w1 K N k sa n cap ws (h'.below hb) hw)
  have CL := Lib.hid (fun w1 (hb : Below w0.heap.size w0 w1) => slimits_any w1 K N k sa n cap ws (h'.below hb) hw hn)
  have CC := Lib.hid (fun w1 (hb : Below w0.heap.size w0 w1) => scheck_any w1 K N k sa n cap ws (h'.below hb) hw hn)
  have CD := Lib.hid (fun w1 (hb : Below w0.heap.size w0 w1) => sdraws_any w1 K N k sa n cap ws (h'.below hb) hw hn)
  have CR := Lib.hid (fun w1 (hb : Below w0.heap.size w0 w1) (h0 : askE K N k ws = 0) => lim46_any w1 K N k sa n cap ws (h'.below hb) h0)
  have HW0 := Lib.hid hw0; have HBW := Lib.hid hbw; have HBX := Lib.hid hbox; have HBL := Lib.hid hbl
  have cells : ∀ w1, Below w0.heap.size w0 w1 → w1.heap[w.heap.size]? = some (.cells #[.int .i64 K, .int .i64 N, .int .i64 k, .slice sa n cap] 24 (0, 0)) := fun w1 hb => (hb.block _ hbl).trans hbox
  have HC := Lib.hid cells
  have hbad := fun h => askL_bad (K := K) (N := N) (k := k) (ws := ws) h
  have HBAD := Lib.hid hbad
  obtain ⟨E, hE⟩ : ∃ E, E = askE K N k ws := ⟨_, rfl⟩
  obtain ⟨L, hL⟩ : ∃ L, L = askL K N k ws := ⟨_, rfl⟩
  have HE := Lib.hid hE; have HL := Lib.hid hL
  clear hw0 hbw hbox hbl h' cells h hw hn hbad hE hL
  go_enter Try.func3, Try.ntmps3
  go_wp2_with fail
  rw [← HW0.out]
  refine (CA.out w0).mono ?_
  rintro e w1 ⟨rfl, hb1⟩
  have c0 := cell_of (HC.out w1 hb1) 0 rfl
  have c1 := cell_of (HC.out w1 hb1) 1 rfl
  have c2 := cell_of (HC.out w1 hb1) 2 rfl
  have c3 := cell_of (HC.out w1 hb1) 3 rfl
  have HB1 := Lib.hid hb1
  clear hb1 CA
  go_wp2_with fail
  refine (CK.out w1 HB1.out).mono ?_
  rintro e w2 ⟨rfl, hb⟩
  have HB2 := Lib.hid (HB1.out.trans (hb.mono HB1.out.size))
  have c0 := cell_of (HC.out w2 HB2.out) 0 rfl
  have c1 := cell_of (HC.out w2 HB2.out) 1 rfl
  have c2 := cell_of (HC.out w2 HB2.out) 2 rfl
  have c3 := cell_of (HC.out w2 HB2.out) 3 rfl
  rw [← HE.out]
  clear hb CK HB1
  go_wp2_with fail
  refine (CL.out w2 HB2.out).mono ?_
  rintro e w3 ⟨sl, rfl, ho, hb⟩
  rw [← HL.out] at ho
  obtain ⟨so, co, rfl⟩ := (rd_of_row ho).form
  have HB3 := Lib.hid (HB2.out.trans (hb.mono HB2.out.size)); have HO := Lib.hid (rd_of_row ho)
  have c0 := cell_of (HC.out w3 HB3.out) 0 rfl
  have c1 := cell_of (HC.out w3 HB3.out) 1 rfl
  have c2 := cell_of (HC.out w3 HB3.out) 2 rfl
  have c3 := cell_of (HC.out w3 HB3.out) 3 rfl
  clear hb CL HB2 ho
  go_wp2_with fail
  refine (CC.out w3 HB3.out).mono ?_
  rintro e w4 ⟨rfl, hb⟩
  have HB4 := Lib.hid (HB3.out.trans (hb.mono HB3.out.size))
  have HO4 := Lib.hid (HO.out.below hb)
  have c0 := cell_of (HC.out w4 HB4.out) 0 rfl
  have c1 := cell_of (HC.out w4 HB4.out) 1 rfl
  have c2 := cell_of (HC.out w4 HB4.out) 2 rfl
  have c3 := cell_of (HC.out w4 HB4.out) 3 rfl
  rw [← HE.out]
  clear hb CC HB3 HO
  go_wp2_with fail
  refine (CD.out w4 HB4.out).mono ?_
  rintro e w5 ⟨rfl, hb⟩
  have HB5 := Lib.hid (HB4.out.trans (hb.mono HB4.out.size))
  have HO5 := Lib.hid (HO4.out.below hb)
  have c0 := cell_of (HC.out w5 HB5.out) 0 rfl
  have c1 := cell_of (HC.out w5 HB5.out) 1 rfl
  have c2 := cell_of (HC.out w5 HB5.out) 2 rfl
  have c3 := cell_of (HC.out w5 HB5.out) 3 rfl
  rw [← HL.out]
  clear hb CD HB4 HO4
  by_cases h0 : E = 0
  · subst h0
    have CR' := Lib.hid (CR.out w5 HB5.out HE.out.symm)
    clear CR
    go_wp2_with fail
    refine CR'.out.mono ?_
    rintro e w6 ⟨sr, m, rfl, hr, hb⟩
    rw [← HL.out] at hr
    have hm := hr.len_u64
    rw [zsN_len] at hm
    subst hm
    have hlen := askL_len HE.out.symm
    rw [← HL.out] at hlen
    have W := words_any w6 _ _ (zsN L) (zsN L) _ _ (HO5.out.below hb) hr (by omega) (by omega)
    rw [eqL_self] at W
    have HWW := Lib.hid W
    have HB6 := Lib.hid (HB5.out.trans (hb.mono HB5.out.size))
    obtain ⟨sx, cx, rfl⟩ := hr.form
    clear W hr hb hlen
    go_wp2_with fail
    refine HWW.out.mono ?_
    rintro e w7 ⟨rfl, q, rfl⟩
    go_wp2_with fail
    go_ret
    exact ⟨rfl, HBW.out.trans (below_drewN' (HB6.out.mono HBW.out.size) q)⟩
  · have q : (E != 0) = true := by simpa using h0
    have hz := HBAD.out (by rw [← HE.out]; exact h0)
    rw [← HL.out] at hz
    subst hz
    clear h0
    go_wp2_with fail
    go_ret
    exact ⟨rfl, HBW.out.trans (HB5.out.mono HBW.out.size)⟩

end Go.Proofs.Ytcoohepkmhpdkaa
