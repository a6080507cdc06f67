/-
  The references' arithmetic on rows of bits: Of, Len, Cmp, Mul, Word.
-/
import Derived.Test.YtcoohepkmhpdkaaGreatRef01
namespace Go.Proofs.YtcoohepkmhpdkaaGreat
open Go.RowKit
set_option linter.unusedVariables false

set_option maxRecDepth 100000 in
set_option maxHeartbeats 2000000 in
theorem of_any (w : World) (x n : Nat) (hx : x < 2 ^ 64) (hn : n ≤ 1000) :
    Calls Tryz.prog 109 #[.int .u64 (x : Int), .int .i64 (n : Int)] w fun e w' => ∃ sa cap, e = .returned (.slice sa n cap) ∧ w'.ownsRow w.heap.size 3 1 (.slice sa n cap) n (i64s (bitsL x n)) ∧ Below w.heap.size w w' := by
  have HX := Lib.hid hx; clear hx
  go_enter Tryz.func109, Tryz.ntmps109
  go_wp2
  go_loopw [5, 6] (fun u i wr => ∃ (k : Nat) (sa : Option Addr) (cap : Nat), k ≤ n ∧ i = .int .i64 k ∧ u = .slice sa k cap ∧ Hid (wr.ownsRow w.heap.size 3 1 (.slice sa k cap) k (i64s (bitsL x k))) ∧ Hid (Below w.heap.size w wr)) (fun _ i _ => n - (intOf i).toNat)
  case atStart => exact ⟨0, none, 0, Nat.zero_le _, rfl, rfl, World.ownsRow_nil _ _ _ _, Below.refl _ _⟩
  case round =>
    obtain ⟨k, sa, cap, hk, rfl, rfl, HO, HB⟩ := hrel
    by_cases hlt : k < n
    · by_cases h64 : k < 64
      · have h64' : (k : Int) < 64 := by omega
        have hstep := bitsL_succ x k
        have hbit : bit x k = x / 2 ^ k % 2 := rfl
        generalize hd : bit x k = d at *
        obtain ⟨y, hy⟩ : ∃ y, y = x / 2 ^ k := ⟨_, rfl⟩
        have e1 : (x : Int) / 2 ^ k = (y : Int) := by rw [hy]; simp
        rw [← hy] at hbit
        have e2 : (y : Int) % 2 = (d : Int) := by omega
        have hd2 : d < 2 := by omega
        have HST := Lib.hid hstep
        clear hstep hbit hd hy
        go_wp2_with (at_builtin; refine app_i64 _ rfl _ _ rfl w.heap.size _ _ _ rfl HO.out _ _ rfl ?qg ?qn ?qb ?_)
        case qg => rfl
        case qn => omega
        case qb => exact HB.out.size
        intro v' w1 hown hchg hfresh
        obtain ⟨sa', cap', rfl⟩ := (rd_of_row hown).form
        rw [← i64s_snoc, ← HST.out] at hown
        have HO1 := Lib.hid hown; have HC1 := Lib.hid hchg
        clear hown hchg hfresh
        go_wp2
        go_roundw
        case rel => exact ⟨k + 1, sa', cap', by omega, by go_num, rfl, HO1, HB.out.trans (HC1.out.below HB.out.size fun i hi => (HO.out.lt i hi).1)⟩
        case measure => simp [intOf]; omega
      · have h64' : ¬ (k : Int) < 64 := by omega
        have hstep : bitsL x (k + 1) = bitsL x k ++ [0] := by rw [bitsL_succ, bit_big HX.out (by omega)]; rfl
        have HST := Lib.hid hstep; clear hstep
        go_wp2_with (at_builtin; refine app_i64 _ rfl _ _ rfl w.heap.size _ _ _ rfl HO.out _ _ rfl ?qg2 ?qn2 ?qb2 ?_)
        case qg2 => rfl
        case qn2 => omega
        case qb2 => exact HB.out.size
        intro v' w1 hown hchg hfresh
        obtain ⟨sa', cap', rfl⟩ := (rd_of_row hown).form
        rw [← i64s_snoc, ← HST.out] at hown
        have HO1 := Lib.hid hown; have HC1 := Lib.hid hchg
        clear hown hchg hfresh
        go_wp2
        go_roundw
        case rel => exact ⟨k + 1, sa', cap', by omega, by go_num, rfl, HO1, HB.out.trans (HC1.out.below HB.out.size fun i hi => (HO.out.lt i hi).1)⟩
        case measure => simp [intOf]; omega
    · obtain rfl : k = n := by omega
      go_wp2
      go_ret
      exact ⟨sa, cap, rfl, HO.out, HB.out⟩

set_option maxRecDepth 100000 in
set_option maxHeartbeats 2000000 in
/-- Len: 0 just where the number is 0 -/
theorem len_any (w : World) (v : Value) (x m : Nat) (h : Bt w v x m) :
    Calls Tryz.prog 139 #[v] w fun e w' => ∃ r : Int, e = .returned (.int .i64 r) ∧ 0 ≤ r ∧ (r = 0 ↔ x = 0) ∧ w = w' := by
  obtain ⟨sv, cv, rfl⟩ := h.1.form
  have HV := Lib.hid h
  have hm := h.2.2
  clear h
  go_enter Tryz.func139, Tryz.ntmps139
  go_wp2
  go_loop [3, 4] (fun c i => ∃ (k : Nat) (r : Nat), k ≤ m ∧ i = .int .i64 (k : Int) ∧ c = .int .i64 (r : Int) ∧ r ≤ k ∧ (r = 0 ↔ ∀ j, j < k → bit x j = 0)) (fun _ i => m - (intOf i).toNat)
  case atStart => exact ⟨0, 0, Nat.zero_le _, rfl, rfl, Nat.le_refl _, by simp⟩
  case round =>
    obtain ⟨k, r, hk, rfl, rfl, hrk, hr⟩ := hrel
    have HR := Lib.hid hr; clear hr
    by_cases hlt : k < m
    · obtain ⟨b, off, rfl, hc⟩ := HV.out.1.at (by omega)
      have cx := hc k _ (i64s_at (bitsL x m) k (by rw [bitsL_len]; exact hlt))
      rw [bitsL_get _ _ _ hlt] at cx
      have hb := bit_lt x k
      generalize hu : bit x k = u at *
      have HU := Lib.hid hu; clear hu hc
      by_cases h1 : u = 1
      · subst h1
        have q : (((1 : Nat) : Int) == 1) = true := rfl
        go_wp2
        go_round
        case rel =>
          refine ⟨k + 1, k + 1, by omega, by go_num, by go_num, Nat.le_refl _, ?_⟩
          constructor
          · intro h; omega
          · intro h; have := h k (by omega); rw [HU.out] at this; omega
        case measure => simp [intOf]; omega
      · have hu0 : u = 0 := by omega
        subst hu0
        have q : (((0 : Nat) : Int) == 1) = false := rfl
        go_wp2
        go_round
        case rel =>
          refine ⟨k + 1, r, by omega, by go_num, rfl, by omega, ?_⟩
          rw [HR.out]
          constructor
          · intro h j hj
            by_cases hjk : j = k
            · subst hjk; exact HU.out
            · exact h j (by omega)
          · intro h j hj; exact h j (by omega)
        case measure => simp [intOf]; omega
    · obtain rfl : k = m := by omega
      go_wp2
      go_ret
      refine ⟨_, rfl, by omega, ?_, rfl⟩
      have hz := zero_of_bits HV.out.2.1
      constructor
      · intro h; exact hz.1 (HR.out.1 (by omega))
      · intro h; have := HR.out.2 (hz.2 h); omega

end Go.Proofs.YtcoohepkmhpdkaaGreat
