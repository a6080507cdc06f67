/-
  alias.Build for every weights; the reference's total, Check and find.
-/
import Derived.Test.YtcoohepkmhpdkaaGreatAli3
namespace Go.Proofs.YtcoohepkmhpdkaaGreat
open Go.RowKit
set_option linter.unusedVariables false
set_option linter.unusedSimpArgs false

set_option maxRecDepth 100000 in
set_option maxHeartbeats 2000000 in
theorem alibuild_any (w : World) (v : Value) (n : Nat) (ws : List Nat) (h : Rd w 1 v n (u64s (zsN ws))) (hw : W64 ws) (hn : n ≤ 17592186043904) :
    Calls Tryz.prog 99 #[v] w fun e w' => AliQ w.heap.size ws e w' ∧ Below w.heap.size w w' := by
  have hln : ws.length = n := by have := h.len_u64; rw [zsN_len] at this; exact this.symm
  obtain ⟨sa, cap, rfl⟩ := h.form
  by_cases h12 : 1 ≤ n ∧ n ≤ 256
  · exact alibuild_main w sa n cap ws h hw h12.1 h12.2
  · have hE : aliE ws = 1 := by unfold aliE; rw [if_pos (by omega)]
    have HE := Lib.hid hE
    clear h hw hE hln
    have y : ∀ o, (w.alloc o).frozen? ⟨w.heap.size, 0, none⟩ = (w.alloc o).frozen? ⟨w.heap.size, 0, none⟩ := fun _ => rfl
    clear y
    by_cases h0 : n = 0
    · subst h0
      clear h12 hn
      go_enter Tryz.func99, Tryz.ntmps99
      go_wp2
      go_step3
      go_wp2
      try rw [Exit.noGoto_ret]
      refine bodyPost_ret (v := .tuple #[.agg #[.int .u64 0, .slice none 0 0, .slice none 0 0], .int .i64 1]) (by simp [results, Tryz.results99, go_sem, *]) rfl ⟨.inl ⟨by rw [HE.out]; decide, by rw [HE.out]⟩, ?_⟩
      exact (Below.refl _ _).alloc (Nat.le_refl _) _
    · have h1 : 1 ≤ n := by omega
      have h2 : 256 < n := by omega
      have u1 : IntKind.u64.wrap (n : Int) = (n : Int) := by rw [IntKind.wrap_u64]; omega
      clear h12 h0
      go_enter Tryz.func99, Tryz.ntmps99
      go_wp2
      go_step3
      go_wp2
      try rw [Exit.noGoto_ret]
      refine bodyPost_ret (v := .tuple #[.agg #[.int .u64 0, .slice none 0 0, .slice none 0 0], .int .i64 1]) (by simp [results, Tryz.results99, go_sem, *]) rfl ⟨.inl ⟨by rw [HE.out]; decide, by rw [HE.out]⟩, ?_⟩
      exact (Below.refl _ _).alloc (Nat.le_refl _) _

theorem aliE_ok {ws : List Nat} (h : aliE ws = 0) : 1 ≤ ws.length ∧ ws.length ≤ 256 ∧ (∀ x ∈ ws, x ≤ 4294967296) ∧ 0 < ws.sum := by
  unfold aliE at h
  split at h
  · cases h
  · rename_i h1
    split at h
    · cases h
    · rename_i h2
      split at h
      · cases h
      · rename_i h3
        exact ⟨by omega, by omega, aliBad_iff.1 (by simpa using h2), by omega⟩
theorem sum_bound {ws : List Nat} (h1 : ws.length ≤ 256) (h2 : ∀ x ∈ ws, x ≤ 4294967296) (k : Nat) : (ws.take k).sum ≤ 1099511627776 := by
  by_cases hk : k ≤ 256
  · exact Nat.le_trans (sum_take_le ws _ h2 k) (Nat.le_trans (Nat.mul_le_mul_right _ hk) (by decide))
  · have h3 := sum_take_le ws _ h2 256
    rw [List.take_of_length_le h1] at h3
    rw [List.take_of_length_le (by omega)]
    exact Nat.le_trans h3 (by decide)

set_option maxRecDepth 100000 in
set_option maxHeartbeats 2000000 in
theorem total43_any (w : World) (v : Value) (n : Nat) (ws : List Nat) (h : Rd w 1 v n (u64s (zsN ws))) (h1 : ws.length ≤ 256) (h2 : ∀ x ∈ ws, x ≤ 4294967296) :
    Calls Tryz.prog 73 #[v] w fun e w' => e = .returned (.int .u64 (ws.sum : Int)) ∧ w = w' := by
  have hln : ws.length = n := by have := h.len_u64; rw [zsN_len] at this; exact this.symm
  obtain ⟨sa, cap, rfl⟩ := h.form
  have hn : n ≤ 256 := by omega
  have HR := Lib.hid h; have HLN := Lib.hid hln; have H1 := Lib.hid h1; have H2 := Lib.hid h2
  clear h hln h1 h2
  go_enter Tryz.func73, Tryz.ntmps73
  go_wp2
  go_loop [3, 8] (fun s i => ∃ k : Nat, k ≤ n ∧ i = .int .i64 (k : Int) ∧ s = .int .u64 ((ws.take k).sum : Int)) (fun _ i => n - (intOf i).toNat)
  case atStart => exact ⟨0, Nat.zero_le _, rfl, by simp⟩
  case round =>
    obtain ⟨k, hk, rfl, rfl⟩ := hrel
    have hb := sum_bound H1.out H2.out k
    by_cases hlt : k < n
    · obtain ⟨b0, o0, rfl, hc0⟩ := HR.out.at (by omega)
      have hkl : k < ws.length := by rw [HLN.out]; exact hlt
      have x0 := hc0 k _ (u64s_at (zsN ws) k (by rw [zsN_len]; exact hkl))
      rw [zsN_get] at x0
      have hts := sum_take_succ ws k hkl
      have hx : ws.getD k 0 ≤ 4294967296 := by rw [List.getD_eq_getElem?_getD, List.getElem?_eq_getElem hkl]; exact H2.out _ (List.getElem_mem hkl)
      generalize ws.getD k 0 = x at *
      have HTS := Lib.hid hts
      generalize (ws.take k).sum = S at *
      clear hts hc0 hkl
      go_wp2
      go_round
      case rel => exact ⟨k + 1, by omega, by go_num, by rw [HTS.out]; go_num⟩
      case measure => simp [intOf]; omega
    · obtain rfl : k = n := by omega
      have HS := Lib.hid (show (ws.take k).sum = ws.sum by rw [List.take_of_length_le (by have := HLN.out; omega)])
      generalize (ws.take k).sum = S at *
      go_wp2
      go_ret
      exact ⟨ret_int (by rw [HS.out]), rfl⟩

set_option maxRecDepth 100000 in
set_option maxHeartbeats 2000000 in
theorem chk43_any (w : World) (v : Value) (n : Nat) (ws : List Nat) (h : Rd w 1 v n (u64s (zsN ws))) (hw : W64 ws) :
    Calls Tryz.prog 62 #[v] w fun e w' => e = .returned (.int .i64 (aliE ws)) ∧ w = w' := by
  have hln : ws.length = n := by have := h.len_u64; rw [zsN_len] at this; exact this.symm
  obtain ⟨sa, cap, rfl⟩ := h.form
  have hmx := h.2.1
  by_cases h12 : 1 ≤ n ∧ n ≤ 256
  · obtain ⟨h1, h2⟩ := h12
    have HR := Lib.hid h; have HLN := Lib.hid hln; have HW := Lib.hid hw
    clear h hln hw hmx
    go_enter Tryz.func62, Tryz.ntmps62
    go_wp2
    go_loop [3, 16] (fun s i => ∃ (k : Nat) (b : Bool), k ≤ n ∧ i = .int .i64 (k : Int) ∧ s = .bool b ∧ Hid (b = decide (0 < (ws.take k).sum)) ∧ Hid (∀ t, t < k → ws.getD t 0 ≤ 4294967296)) (fun _ i => n - (intOf i).toNat)
    case atStart => exact ⟨0, false, Nat.zero_le _, rfl, rfl, Lib.hid (by simp), Lib.hid fun t ht => by omega⟩
    case round =>
      obtain ⟨k, b, hk, rfl, rfl, HB, HX⟩ := hrel
      by_cases hlt : k < n
      · obtain ⟨b0, o0, rfl, hc0⟩ := HR.out.at (by omega)
        have hkl : k < ws.length := by rw [HLN.out]; exact hlt
        have x0 := hc0 k _ (u64s_at (zsN ws) k (by rw [zsN_len]; exact hkl))
        rw [zsN_get] at x0
        have hts := sum_take_succ ws k hkl
        have hbad := fun h => aliBad_at (ws := ws) hkl h
        have hnext : ∀ t, t < k + 1 → ws.getD k 0 ≤ 4294967296 → ws.getD t 0 ≤ 4294967296 := fun t ht hx => by
          by_cases h : t = k
          · rw [h]; exact hx
          · exact HX.out t (by omega)
        have hx2 : ws.getD k 0 < 2 ^ 64 := HW.out.at hkl
        generalize ws.getD k 0 = x at *
        rw [p64] at hx2
        by_cases hgt : 4294967296 < x
        · have hE : aliE ws = 9 := by unfold aliE; rw [if_neg (by rw [HLN.out]; omega), hbad hgt]; rfl
          have HE := Lib.hid hE
          have hgt' : (4294967296 : Int) < (x : Int) := by omega
          clear hbad hnext hE hts hc0 hkl
          go_wp2
          go_ret
          exact ⟨ret_int (by rw [HE.out]), rfl⟩
        · have HN := Lib.hid (fun t ht => hnext t ht (by omega))
          have hgt' : ¬ (4294967296 : Int) < (x : Int) := by omega
          have HTS := Lib.hid hts
          clear hbad hnext hts hc0 hkl
          cases b with
          | true =>
            have h5 := HB.out
            have HP := Lib.hid (show true = decide (0 < (ws.take (k + 1)).sum) from by rw [HTS.out]; simp at h5 ⊢; omega)
            clear h5
            go_wp2
            go_round
            case rel => exact ⟨k + 1, true, by omega, by go_num, rfl, HP, HN⟩
            case measure => simp [intOf]; omega
          | false =>
            have h5 := HB.out
            have HP := Lib.hid (show decide ((0 : Int) < (x : Int)) = decide (0 < (ws.take (k + 1)).sum) from by
              have h6 : (ws.take k).sum = 0 := by simp at h5; simpa using h5
              rw [HTS.out, h6]; simp)
            clear h5
            by_cases hx0 : (0 : Int) < (x : Int)
            · have HP' := HP.out
              rw [decide_eq_true hx0] at HP'
              have HPP := Lib.hid HP'
              clear HP'
              go_wp2
              go_round
              case rel => exact ⟨k + 1, true, by omega, by go_num, by first | rfl | (congr 1; simp; omega), HPP, HN⟩
              case measure => simp [intOf]; omega
            · have HP' := HP.out
              rw [decide_eq_false hx0] at HP'
              have HPP := Lib.hid HP'
              clear HP'
              go_wp2
              go_round
              case rel => exact ⟨k + 1, false, by omega, by go_num, by first | rfl | (congr 1; simp; omega), HPP, HN⟩
              case measure => simp [intOf]; omega
      · obtain rfl : k = n := by omega
        have hbd : ∀ x ∈ ws, x ≤ 4294967296 := fun x hx => by
          obtain ⟨t, ht, rfl⟩ := List.getElem_of_mem hx
          have := HX.out t (by have := HLN.out; omega)
          rwa [List.getD_eq_getElem?_getD, List.getElem?_eq_getElem ht] at this
        have hnb := aliBad_iff.2 hbd
        have hb := HB.out
        rw [List.take_of_length_le (by have := HLN.out; omega)] at hb
        cases b with
        | true =>
          have hE : aliE ws = 0 := by unfold aliE; rw [if_neg (by rw [HLN.out]; omega), if_neg (by rw [hnb]; decide), if_neg (by simp at hb; omega)]
          have HE := Lib.hid hE
          clear hbd hnb hb hE
          go_wp2
          go_ret
          exact ⟨ret_int (by rw [HE.out]), rfl⟩
        | false =>
          have hE : aliE ws = 8 := by unfold aliE; rw [if_neg (by rw [HLN.out]; omega), if_neg (by rw [hnb]; decide), if_pos (by simpa using hb)]
          have HE := Lib.hid hE
          clear hbd hnb hb hE
          go_wp2
          go_ret
          exact ⟨ret_int (by rw [HE.out]), rfl⟩
  · have hE : aliE ws = 1 := by unfold aliE; rw [if_pos (by omega)]
    have HE := Lib.hid hE
    unfold maxLen at hmx
    clear h hw hE hln
    by_cases h0 : n = 0
    · subst h0
      clear h12 hmx
      go_enter Tryz.func62, Tryz.ntmps62
      go_wp2
      go_ret
      exact ⟨ret_int (by rw [HE.out]), rfl⟩
    · have h1 : 1 ≤ n := by omega
      have h2 : 256 < n := by omega
      clear h12 h0
      go_enter Tryz.func62, Tryz.ntmps62
      go_wp2
      go_ret
      exact ⟨ret_int (by rw [HE.out]), rfl⟩

end Go.Proofs.YtcoohepkmhpdkaaGreat
