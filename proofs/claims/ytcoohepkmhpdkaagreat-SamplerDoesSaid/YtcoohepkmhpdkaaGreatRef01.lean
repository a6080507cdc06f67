/-
  The references' arithmetic on rows of bits: at, Of, Shl, Add, Sub.
  The references' arithmetic on rows of bits: Of, Len, Cmp, Mul, Word.
  The references' comparison of rows of bits.
  The references' rows of bits: Word, Mul.
  The references' product of rows of bits.
  The references' division of rows of bits.
-/
import Derived.Test.YtcoohepkmhpdkaaGreatPl
import Derived.Test.YtcoohepkmhpdkaaGreatBs
namespace Go.Proofs.YtcoohepkmhpdkaaGreat
open Go.RowKit
set_option linter.unusedVariables false

/-- a slice that reads as the m bits of x -/
def Bt (w : World) (v : Value) (x m : Nat) : Prop := Rd w 1 v m (i64s (bitsL x m)) ∧ x < 2 ^ m ∧ m ≤ 1000
theorem Bt.below {w w' : World} {v : Value} {x m : Nat} (h : Bt w v x m) (hb : Below w.heap.size w w') : Bt w' v x m := ⟨h.1.below hb, h.2⟩

set_option maxRecDepth 100000 in
set_option maxHeartbeats 1000000 in
theorem at_nat (w : World) (v : Value) (x m i : Nat) (h : Bt w v x m) (hi : i ≤ 5000) :
    Calls Tryz.prog 138 #[v, .int .i64 (i : Int)] w fun e w' => e = .returned (.int .i64 ((bit x i : Nat) : Int)) ∧ w = w' := by
  obtain ⟨hr, hx, hm⟩ := h
  obtain ⟨sa, cap, rfl⟩ := hr.form
  by_cases him : i < m
  · obtain ⟨b, off, rfl, hc⟩ := hr.at (by omega)
    have cx := hc i _ (i64s_at (bitsL x m) i (by rw [bitsL_len]; exact him))
    rw [bitsL_get _ _ _ him] at cx
    generalize bit x i = u at *
    clear hc hr hx
    go_enter Tryz.func138, Tryz.ntmps138
    go_wp2
    go_ret
    exact ⟨rfl, rfl⟩
  · have hb := bit_big hx (i := i) (by omega)
    rw [hb]
    clear hr hx hb
    go_enter Tryz.func138, Tryz.ntmps138
    go_wp2
    go_ret
    exact ⟨rfl, rfl⟩

set_option maxRecDepth 100000 in
set_option maxHeartbeats 1000000 in
theorem at_neg (w : World) (v : Value) (x m : Nat) (i : Int) (h : Bt w v x m) (hi : i < 0) :
    Calls Tryz.prog 138 #[v, .int .i64 i] w fun e w' => e = .returned (.int .i64 0) ∧ w = w' := by
  obtain ⟨hr, hx, hm⟩ := h
  obtain ⟨sa, cap, rfl⟩ := hr.form
  clear hr hx
  go_enter Tryz.func138, Tryz.ntmps138
  go_wp2
  go_ret
  exact ⟨rfl, rfl⟩

set_option maxRecDepth 100000 in
set_option maxHeartbeats 2000000 in
theorem shl_any (w : World) (v : Value) (x m s n : Nat) (h : Bt w v x m) (hs : s ≤ 1000) (hn : n ≤ 1000) :
    Calls Tryz.prog 108 #[v, .int .i64 (s : Int), .int .i64 (n : Int)] w fun e w' => ∃ sa cap, e = .returned (.slice sa n cap) ∧ w'.ownsRow w.heap.size 3 1 (.slice sa n cap) n (i64s (bitsL (x * 2 ^ s) n)) ∧ Below w.heap.size w w' := by
  obtain ⟨sv, cv, rfl⟩ := h.1.form
  have HV := Lib.hid h; clear h
  go_enter Tryz.func108, Tryz.ntmps108
  go_wp2
  go_loopw [7, 8] (fun u i wr => ∃ (k : Nat) (sa : Option Addr) (cap : Nat), k ≤ n ∧ i = .int .i64 k ∧ u = .slice sa k cap ∧ Hid (wr.ownsRow w.heap.size 3 1 (.slice sa k cap) k (i64s (bitsL (x * 2 ^ s) k))) ∧ Hid (Below w.heap.size w wr)) (fun _ i _ => n - (intOf i).toNat)
  case atStart => exact ⟨0, none, 0, Nat.zero_le _, rfl, rfl, World.ownsRow_nil _ _ _ _, Below.refl _ _⟩
  case round =>
    obtain ⟨k, sa, cap, hk, rfl, rfl, HO, HB⟩ := hrel
    by_cases hlt : k < n
    · by_cases hks : k < s
      · have hstep : bitsL (x * 2 ^ s) (k + 1) = bitsL (x * 2 ^ s) k ++ [0] := by rw [bitsL_succ, shl_bit, if_pos hks]; rfl
        have HST := Lib.hid hstep; clear hstep
        go_wp2_with fail
        refine (at_neg _ _ x m _ (HV.out.below HB.out) (by omega)).mono ?_
        rintro e w1 ⟨rfl, rfl⟩
        go_wp2_with (at_builtin; refine app_i64 _ rfl _ _ rfl w.heap.size _ _ _ rfl HO.out _ _ rfl ?qg ?qn ?qb ?_)
        case qg => rfl
        case qn => omega
        case qb => exact HB.out.size
        intro v' w1 hown hchg hfresh
        obtain ⟨sa', cap', rfl⟩ := (rd_of_row hown).form
        rw [← i64s_snoc, ← HST.out] at hown
        have HO1 := Lib.hid hown; have HC1 := Lib.hid hchg
        clear hown hchg hfresh
        go_wp2
        go_roundw
        case rel => exact ⟨k + 1, sa', cap', by omega, by go_num, rfl, HO1, HB.out.trans (HC1.out.below HB.out.size fun i hi => (HO.out.lt i hi).1)⟩
        case measure => simp [intOf]; omega
      · have hstep : bitsL (x * 2 ^ s) (k + 1) = bitsL (x * 2 ^ s) k ++ [((bit x (k - s) : Nat) : Int)] := by rw [bitsL_succ, shl_bit, if_neg hks]
        obtain ⟨d, rfl⟩ : ∃ d, k = s + d := ⟨k - s, by omega⟩
        have e1 : s + d - s = d := by omega
        rw [e1] at hstep
        have e2 : ((s : Int) + (d : Int) - (s : Int)) = (d : Int) := by omega
        have HST := Lib.hid hstep; have HE2 := Lib.hid e2; clear hstep e1 e2
        go_wp2_with fail
        rw [HE2.out]
        refine (at_nat _ _ x m d (HV.out.below HB.out) (by omega)).mono ?_
        rintro e w1 ⟨rfl, rfl⟩
        go_wp2_with (at_builtin; refine app_i64 _ rfl _ _ rfl w.heap.size _ _ _ rfl HO.out _ _ rfl ?qg2 ?qn2 ?qb2 ?_)
        case qg2 => rfl
        case qn2 => omega
        case qb2 => exact HB.out.size
        intro v' w1 hown hchg hfresh
        obtain ⟨sa', cap', rfl⟩ := (rd_of_row hown).form
        rw [← i64s_snoc, ← HST.out] at hown
        have HO1 := Lib.hid hown; have HC1 := Lib.hid hchg
        clear hown hchg hfresh
        go_wp2
        go_roundw
        case rel => exact ⟨s + d + 1, sa', cap', by omega, by go_num, rfl, HO1, HB.out.trans (HC1.out.below HB.out.size fun i hi => (HO.out.lt i hi).1)⟩
        case measure => simp [intOf]; omega
    · obtain rfl : k = n := by omega
      go_wp2
      go_ret
      exact ⟨sa, cap, rfl, HO.out, HB.out⟩

set_option maxRecDepth 100000 in
set_option maxHeartbeats 2000000 in
theorem badd_any (w : World) (va vb : Value) (x y m1 m2 n : Nat) (ha : Bt w va x m1) (hb : Bt w vb y m2) (hn : n ≤ 1000) :
    Calls Tryz.prog 110 #[va, vb, .int .i64 (n : Int)] w fun e w' => ∃ sa cap, e = .returned (.tuple #[.slice sa n cap, .int .i64 ((carry x y n : Nat) : Int)]) ∧ w'.ownsRow w.heap.size 3 1 (.slice sa n cap) n (i64s (bitsL (x + y) n)) ∧ Below w.heap.size w w' := by
  obtain ⟨sa', ca', rfl⟩ := ha.1.form
  obtain ⟨sb', cb', rfl⟩ := hb.1.form
  have HA := Lib.hid ha; have HV := Lib.hid hb; clear ha hb
  go_enter Tryz.func110, Tryz.ntmps110
  go_wp2
  go_loopw [8, 9, 10] (fun u c i wr => ∃ (k : Nat) (sa : Option Addr) (cap : Nat), k ≤ n ∧ i = .int .i64 k ∧ u = .slice sa k cap ∧ c = .int .i64 ((carry x y k : Nat) : Int) ∧ Hid (wr.ownsRow w.heap.size 3 1 (.slice sa k cap) k (i64s (bitsL (x + y) k))) ∧ Hid (Below w.heap.size w wr)) (fun _ _ i _ => n - (intOf i).toNat)
  case atStart => exact ⟨0, none, 0, Nat.zero_le _, rfl, rfl, by rw [carry_zero]; rfl, World.ownsRow_nil _ _ _ _, Below.refl _ _⟩
  case round =>
    obtain ⟨k, sa, cap, hk, rfl, rfl, rfl, HO, HB⟩ := hrel
    by_cases hlt : k < n
    · have hstep : bitsL (x + y) (k + 1) = bitsL (x + y) k ++ [(((bit x k + bit y k + carry x y k) % 2 : Nat) : Int)] := by rw [bitsL_succ, add_bit]
      have hc := carry_succ x y k
      have h1 := at_nat wr _ x m1 k (HA.out.below HB.out) (by omega)
      have h2 := at_nat wr _ y m2 k (HV.out.below HB.out) (by omega)
      have b1 := bit_lt x k
      have b2 := bit_lt y k
      have b3 := carry_lt x y k
      generalize bit x k = p at *
      generalize bit y k = q at *
      generalize carry x y k = c at *
      have e1 : ((p : Int) + (q : Int) + (c : Int)) % 2 = (((p + q + c) % 2 : Nat) : Int) := by omega
      have e2 : ((p : Int) + (q : Int) + (c : Int)) / 2 = (((p + q + c) / 2 : Nat) : Int) := by omega
      generalize hd : (p + q + c) % 2 = dd at *
      generalize hcc : (p + q + c) / 2 = cc at *
      have HDD := Lib.hid hd; have HCC := Lib.hid hcc
      clear hd hcc
      have HST := Lib.hid hstep; have HC := Lib.hid hc; have H1 := Lib.hid h1; have H2 := Lib.hid h2; clear hstep hc h1 h2
      go_wp2_with fail
      refine H1.out.mono ?_
      rintro e w1 ⟨rfl, rfl⟩
      go_wp2_with fail
      refine H2.out.mono ?_
      rintro e w1 ⟨rfl, rfl⟩
      go_wp2_with (at_builtin; go_must (refine app_i64 _ rfl _ _ rfl w.heap.size _ _ _ rfl HO.out _ _ rfl ?qg ?qn ?qb ?_))
      case qg => rfl
      case qn => omega
      case qb => exact HB.out.size
      intro v' w1 hown hchg hfresh
      obtain ⟨sa', cap', rfl⟩ := (rd_of_row hown).form
      rw [← i64s_snoc, ← HST.out] at hown
      have HO1 := Lib.hid hown; have HC1 := Lib.hid hchg
      clear hown hchg hfresh
      go_wp2
      go_roundw
      case rel => exact ⟨k + 1, sa', cap', by omega, by go_num, rfl, by rw [HC.out, e2], HO1, HB.out.trans (HC1.out.below HB.out.size fun i hi => (HO.out.lt i hi).1)⟩
      case measure => simp [intOf]; omega
    · obtain rfl : k = n := by omega
      go_wp2
      go_ret2
      exact ⟨sa, cap, rfl, HO.out, HB.out⟩

set_option maxRecDepth 100000 in
set_option maxHeartbeats 2000000 in
theorem bsub_any (w : World) (va vb : Value) (x y m1 m2 n : Nat) (ha : Bt w va x m1) (hb : Bt w vb y m2) (hn : n ≤ 1000) (hyx : y ≤ x) :
    Calls Tryz.prog 141 #[va, vb, .int .i64 (n : Int)] w fun e w' => ∃ sa cap, e = .returned (.tuple #[.slice sa n cap, .int .i64 ((lack x y n : Nat) : Int)]) ∧ w'.ownsRow w.heap.size 3 1 (.slice sa n cap) n (i64s (bitsL (x - y) n)) ∧ Below w.heap.size w w' := by
  obtain ⟨sa', ca', rfl⟩ := ha.1.form
  obtain ⟨sb', cb', rfl⟩ := hb.1.form
  have HA := Lib.hid ha; have HV := Lib.hid hb; clear ha hb
  go_enter Tryz.func141, Tryz.ntmps141
  go_wp2
  go_loopw [8, 9, 10] (fun u c i wr => ∃ (k : Nat) (sa : Option Addr) (cap : Nat), k ≤ n ∧ i = .int .i64 k ∧ u = .slice sa k cap ∧ c = .int .i64 ((lack x y k : Nat) : Int) ∧ Hid (wr.ownsRow w.heap.size 3 1 (.slice sa k cap) k (i64s (bitsL (x - y) k))) ∧ Hid (Below w.heap.size w wr)) (fun _ _ i _ => n - (intOf i).toNat)
  case atStart => exact ⟨0, none, 0, Nat.zero_le _, rfl, rfl, by rw [lack_zero]; rfl, World.ownsRow_nil _ _ _ _, Below.refl _ _⟩
  case round =>
    obtain ⟨k, sa, cap, hk, rfl, rfl, rfl, HO, HB⟩ := hrel
    by_cases hlt : k < n
    · have hstep := bitsL_succ (x - y) k
      have hc := sub_step x y k hyx
      have h1 := at_nat wr _ x m1 k (HA.out.below HB.out) (by omega)
      have h2 := at_nat wr _ y m2 k (HV.out.below HB.out) (by omega)
      have b1 := bit_lt x k
      have b2 := bit_lt y k
      have b3 : lack x y k < 2 := by unfold lack; split <;> omega
      generalize bit x k = p at *
      generalize bit y k = q at *
      generalize lack x y k = c at *
      generalize hdd : bit (x - y) k = dd at *
      generalize hcc : lack x y (k + 1) = cc at *
      have e1 : ((p : Int) - (q : Int) - (c : Int) + 2) % 2 = (dd : Int) := hc.1.symm
      have e2 : 1 - ((p : Int) - (q : Int) - (c : Int) + 2) / 2 = (cc : Int) := hc.2.symm
      have HCC := Lib.hid hcc
      clear hcc hdd hc
      have HST := Lib.hid hstep; have H1 := Lib.hid h1; have H2 := Lib.hid h2; clear hstep h1 h2
      go_wp2_with fail
      refine H1.out.mono ?_
      rintro e w1 ⟨rfl, rfl⟩
      go_wp2_with fail
      refine H2.out.mono ?_
      rintro e w1 ⟨rfl, rfl⟩
      go_wp2_with (at_builtin; go_must (refine app_i64 _ rfl _ _ rfl w.heap.size _ _ _ rfl HO.out _ _ rfl ?qg ?qn ?qb ?_))
      case qg => rfl
      case qn => omega
      case qb => exact HB.out.size
      intro v' w1 hown hchg hfresh
      obtain ⟨sa', cap', rfl⟩ := (rd_of_row hown).form
      rw [← i64s_snoc, ← HST.out] at hown
      have HO1 := Lib.hid hown; have HC1 := Lib.hid hchg
      clear hown hchg hfresh
      go_wp2
      go_roundw
      case rel => exact ⟨k + 1, sa', cap', by omega, by go_num, rfl, by rw [HCC.out], HO1, HB.out.trans (HC1.out.below HB.out.size fun i hi => (HO.out.lt i hi).1)⟩
      case measure => simp [intOf]; omega
    · obtain rfl : k = n := by omega
      go_wp2
      go_ret2
      exact ⟨sa, cap, rfl, HO.out, HB.out⟩

end Go.Proofs.YtcoohepkmhpdkaaGreat

namespace Go.Proofs.YtcoohepkmhpdkaaGreat
open Go.RowKit
set_option linter.unusedVariables false

set_option maxRecDepth 100000 in
set_option maxHeartbeats 2000000 in
theorem of_any (w : World) (x n : Nat) (hx : x < 2 ^ 64) (hn : n ≤ 1000) :
    Calls Tryz.prog 109 #[.int .u64 (x : Int), .int .i64 (n : Int)] w fun e w' => ∃ sa cap, e = .returned (.slice sa n cap) ∧ w'.ownsRow w.heap.size 3 1 (.slice sa n cap) n (i64s (bitsL x n)) ∧ Below w.heap.size w w' := by
  have HX := Lib.hid hx; clear hx
  go_enter Tryz.func109, Tryz.ntmps109
  go_wp2
  go_loopw [5, 6] (fun u i wr => ∃ (k : Nat) (sa : Option Addr) (cap : Nat), k ≤ n ∧ i = .int .i64 k ∧ u = .slice sa k cap ∧ Hid (wr.ownsRow w.heap.size 3 1 (.slice sa k cap) k (i64s (bitsL x k))) ∧ Hid (Below w.heap.size w wr)) (fun _ i _ => n - (intOf i).toNat)
  case atStart => exact ⟨0, none, 0, Nat.zero_le _, rfl, rfl, World.ownsRow_nil _ _ _ _, Below.refl _ _⟩
  case round =>
    obtain ⟨k, sa, cap, hk, rfl, rfl, HO, HB⟩ := hrel
    by_cases hlt : k < n
    · by_cases h64 : k < 64
      · have h64' : (k : Int) < 64 := by omega
        have hstep := bitsL_succ x k
        have hbit : bit x k = x / 2 ^ k % 2 := rfl
        generalize hd : bit x k = d at *
        obtain ⟨y, hy⟩ : ∃ y, y = x / 2 ^ k := ⟨_, rfl⟩
        have e1 : (x : Int) / 2 ^ k = (y : Int) := by rw [hy]; simp
        rw [← hy] at hbit
        have e2 : (y : Int) % 2 = (d : Int) := by omega
        have hd2 : d < 2 := by omega
        have HST := Lib.hid hstep
        clear hstep hbit hd hy
        go_wp2_with (at_builtin; refine app_i64 _ rfl _ _ rfl w.heap.size _ _ _ rfl HO.out _ _ rfl ?qg ?qn ?qb ?_)
        case qg => rfl
        case qn => omega
        case qb => exact HB.out.size
        intro v' w1 hown hchg hfresh
        obtain ⟨sa', cap', rfl⟩ := (rd_of_row hown).form
        rw [← i64s_snoc, ← HST.out] at hown
        have HO1 := Lib.hid hown; have HC1 := Lib.hid hchg
        clear hown hchg hfresh
        go_wp2
        go_roundw
        case rel => exact ⟨k + 1, sa', cap', by omega, by go_num, rfl, HO1, HB.out.trans (HC1.out.below HB.out.size fun i hi => (HO.out.lt i hi).1)⟩
        case measure => simp [intOf]; omega
      · have h64' : ¬ (k : Int) < 64 := by omega
        have hstep : bitsL x (k + 1) = bitsL x k ++ [0] := by rw [bitsL_succ, bit_big HX.out (by omega)]; rfl
        have HST := Lib.hid hstep; clear hstep
        go_wp2_with (at_builtin; refine app_i64 _ rfl _ _ rfl w.heap.size _ _ _ rfl HO.out _ _ rfl ?qg2 ?qn2 ?qb2 ?_)
        case qg2 => rfl
        case qn2 => omega
        case qb2 => exact HB.out.size
        intro v' w1 hown hchg hfresh
        obtain ⟨sa', cap', rfl⟩ := (rd_of_row hown).form
        rw [← i64s_snoc, ← HST.out] at hown
        have HO1 := Lib.hid hown; have HC1 := Lib.hid hchg
        clear hown hchg hfresh
        go_wp2
        go_roundw
        case rel => exact ⟨k + 1, sa', cap', by omega, by go_num, rfl, HO1, HB.out.trans (HC1.out.below HB.out.size fun i hi => (HO.out.lt i hi).1)⟩
        case measure => simp [intOf]; omega
    · obtain rfl : k = n := by omega
      go_wp2
      go_ret
      exact ⟨sa, cap, rfl, HO.out, HB.out⟩

set_option maxRecDepth 100000 in
set_option maxHeartbeats 2000000 in
/-- Len: 0 just where the number is 0 -/
theorem len_any (w : World) (v : Value) (x m : Nat) (h : Bt w v x m) :
    Calls Tryz.prog 139 #[v] w fun e w' => ∃ r : Int, e = .returned (.int .i64 r) ∧ 0 ≤ r ∧ (r = 0 ↔ x = 0) ∧ w = w' := by
  obtain ⟨sv, cv, rfl⟩ := h.1.form
  have HV := Lib.hid h
  have hm := h.2.2
  clear h
  go_enter Tryz.func139, Tryz.ntmps139
  go_wp2
  go_loop [3, 4] (fun c i => ∃ (k : Nat) (r : Nat), k ≤ m ∧ i = .int .i64 (k : Int) ∧ c = .int .i64 (r : Int) ∧ r ≤ k ∧ (r = 0 ↔ ∀ j, j < k → bit x j = 0)) (fun _ i => m - (intOf i).toNat)
  case atStart => exact ⟨0, 0, Nat.zero_le _, rfl, rfl, Nat.le_refl _, by simp⟩
  case round =>
    obtain ⟨k, r, hk, rfl, rfl, hrk, hr⟩ := hrel
    have HR := Lib.hid hr; clear hr
    by_cases hlt : k < m
    · obtain ⟨b, off, rfl, hc⟩ := HV.out.1.at (by omega)
      have cx := hc k _ (i64s_at (bitsL x m) k (by rw [bitsL_len]; exact hlt))
      rw [bitsL_get _ _ _ hlt] at cx
      have hb := bit_lt x k
      generalize hu : bit x k = u at *
      have HU := Lib.hid hu; clear hu hc
      by_cases h1 : u = 1
      · subst h1
        have q : (((1 : Nat) : Int) == 1) = true := rfl
        go_wp2
        go_round
        case rel =>
          refine ⟨k + 1, k + 1, by omega, by go_num, by go_num, Nat.le_refl _, ?_⟩
          constructor
          · intro h; omega
          · intro h; have := h k (by omega); rw [HU.out] at this; omega
        case measure => simp [intOf]; omega
      · have hu0 : u = 0 := by omega
        subst hu0
        have q : (((0 : Nat) : Int) == 1) = false := rfl
        go_wp2
        go_round
        case rel =>
          refine ⟨k + 1, r, by omega, by go_num, rfl, by omega, ?_⟩
          rw [HR.out]
          constructor
          · intro h j hj
            by_cases hjk : j = k
            · subst hjk; exact HU.out
            · exact h j (by omega)
          · intro h j hj; exact h j (by omega)
        case measure => simp [intOf]; omega
    · obtain rfl : k = m := by omega
      go_wp2
      go_ret
      refine ⟨_, rfl, by omega, ?_, rfl⟩
      have hz := zero_of_bits HV.out.2.1
      constructor
      · intro h; exact hz.1 (HR.out.1 (by omega))
      · intro h; have := HR.out.2 (hz.2 h); omega

end Go.Proofs.YtcoohepkmhpdkaaGreat

namespace Go.Proofs.YtcoohepkmhpdkaaGreat
open Go.RowKit
set_option linter.unusedVariables false

def cmpI (x y : Nat) : Int := if x < y then -1 else if y < x then 1 else 0
theorem cmp_lt (x y k : Nat) (h : x / 2 ^ k < y / 2 ^ k) : x < y := by
  by_cases hlt : x < y
  · exact hlt
  · have := Nat.div_le_div_right (c := 2 ^ k) (show y ≤ x by omega); omega

set_option maxRecDepth 100000 in
set_option maxHeartbeats 4000000 in
theorem cmp_any (w : World) (va vb : Value) (x y m1 m2 : Nat) (ha : Bt w va x m1) (hb : Bt w vb y m2) :
    Calls Tryz.prog 140 #[va, vb] w fun e w' => e = .returned (.int .i64 (cmpI x y)) ∧ w = w' := by
  obtain ⟨sa, ca, rfl⟩ := ha.1.form
  obtain ⟨sb, cb, rfl⟩ := hb.1.form
  have hm1 := ha.2.2
  have hm2 := hb.2.2
  have HA := Lib.hid ha; have HB := Lib.hid hb; clear ha hb
  by_cases hM : m1 < m2
  · have hM' : (m1 : Int) < (m2 : Int) := by omega
    go_enter Tryz.func140, Tryz.ntmps140
    go_wp2
    go_loop [5] (fun i => ∃ k : Nat, k ≤ m2 ∧ i = .int .i64 ((k : Int) - 1) ∧ x / 2 ^ k = y / 2 ^ k) (fun i => (intOf i + 1).toNat)
    case atStart =>
      refine ⟨m2, Nat.le_refl _, rfl, ?_⟩
      rw [Nat.div_eq_of_lt (Nat.lt_of_lt_of_le HA.out.2.1 (Nat.pow_le_pow_right (by decide) (by omega))), Nat.div_eq_of_lt (Nat.lt_of_lt_of_le HB.out.2.1 (Nat.pow_le_pow_right (by decide) (by omega)))]
    case round =>
      obtain ⟨k, hk, rfl, hq⟩ := hrel
      by_cases hlt : 0 < k
      · obtain ⟨k, rfl⟩ : ∃ k', k = k' + 1 := ⟨k - 1, by omega⟩
        have e1 : (((k + 1 : Nat) : Int) - 1) = (k : Int) := by omega
        rw [e1]
        have hk0 : (0 : Int) ≤ (k : Int) := by omega
        have h1 := Lib.hid (at_nat w _ x m1 k HA.out (by omega))
        have h2 := Lib.hid (at_nat w _ y m2 k HB.out (by omega))
        have hx := half x k
        have hy := half y k
        have b1 := bit_lt x k
        have b2 := bit_lt y k
        have hlt1 := cmp_lt x y k
        have hgt1 := cmp_lt y x k
        generalize bit x k = p at *
        generalize bit y k = q at *
        have HX := Lib.hid hx; have HY := Lib.hid hy; have HQ := Lib.hid hq; have HL := Lib.hid hlt1; have HG := Lib.hid hgt1
        clear hx hy hq hlt1 hgt1 e1
        by_cases c1 : p < q
        · have c1' : (p : Int) < (q : Int) := by omega
          have hr : cmpI x y = -1 := by
            unfold cmpI; rw [if_pos (HL.out (by have := HX.out; have := HY.out; have := HQ.out; omega))]
          have HR := Lib.hid hr; clear hr c1
          go_wp2_with fail
          refine h1.out.mono ?_
          rintro e w1 ⟨rfl, rfl⟩
          go_wp2_with fail
          refine h2.out.mono ?_
          rintro e w1 ⟨rfl, rfl⟩
          go_wp2
          go_ret
          exact ⟨ret_int HR.out.symm, rfl⟩
        · have c1' : ¬ (p : Int) < (q : Int) := by omega
          by_cases c2 : q < p
          · have c2' : (q : Int) < (p : Int) := by omega
            have hr : cmpI x y = 1 := by
              have := HG.out (by have := HX.out; have := HY.out; have := HQ.out; omega)
              unfold cmpI; rw [if_neg (by omega), if_pos this]
            have HR := Lib.hid hr; clear hr c1 c2
            go_wp2_with fail
            refine h1.out.mono ?_
            rintro e w1 ⟨rfl, rfl⟩
            go_wp2_with fail
            refine h2.out.mono ?_
            rintro e w1 ⟨rfl, rfl⟩
            go_wp2_with fail
            refine h1.out.mono ?_
            rintro e w1 ⟨rfl, rfl⟩
            go_wp2_with fail
            refine h2.out.mono ?_
            rintro e w1 ⟨rfl, rfl⟩
            go_wp2
            go_ret
            exact ⟨ret_int HR.out.symm, rfl⟩
          · have c2' : ¬ (q : Int) < (p : Int) := by omega
            go_wp2_with fail
            refine h1.out.mono ?_
            rintro e w1 ⟨rfl, rfl⟩
            go_wp2_with fail
            refine h2.out.mono ?_
            rintro e w1 ⟨rfl, rfl⟩
            go_wp2_with fail
            refine h1.out.mono ?_
            rintro e w1 ⟨rfl, rfl⟩
            go_wp2_with fail
            refine h2.out.mono ?_
            rintro e w1 ⟨rfl, rfl⟩
            go_wp2
            go_round
            case rel => exact ⟨k, by omega, rfl, by have := HX.out; have := HY.out; have := HQ.out; omega⟩
            case measure => simp [intOf]; try omega
      · obtain rfl : k = 0 := by omega
        have hxy : x = y := by simpa using hq
        have hr : cmpI x y = 0 := by unfold cmpI; rw [if_neg (by omega), if_neg (by omega)]
        have hle : ¬ (0 : Int) ≤ ((0 : Nat) : Int) - 1 := by omega
        have HR := Lib.hid hr; clear hr hxy hq hlt
        go_wp2
        go_ret
        exact ⟨ret_int HR.out.symm, rfl⟩
  · have hM' : ¬ (m1 : Int) < (m2 : Int) := by omega
    go_enter Tryz.func140, Tryz.ntmps140
    go_wp2
    go_loop [5] (fun i => ∃ k : Nat, k ≤ m1 ∧ i = .int .i64 ((k : Int) - 1) ∧ x / 2 ^ k = y / 2 ^ k) (fun i => (intOf i + 1).toNat)
    case atStart =>
      refine ⟨m1, Nat.le_refl _, rfl, ?_⟩
      rw [Nat.div_eq_of_lt (Nat.lt_of_lt_of_le HA.out.2.1 (Nat.pow_le_pow_right (by decide) (by omega))), Nat.div_eq_of_lt (Nat.lt_of_lt_of_le HB.out.2.1 (Nat.pow_le_pow_right (by decide) (by omega)))]
    case round =>
      obtain ⟨k, hk, rfl, hq⟩ := hrel
      by_cases hlt : 0 < k
      · obtain ⟨k, rfl⟩ : ∃ k', k = k' + 1 := ⟨k - 1, by omega⟩
        have e1 : (((k + 1 : Nat) : Int) - 1) = (k : Int) := by omega
        rw [e1]
        have hk0 : (0 : Int) ≤ (k : Int) := by omega
        have h1 := Lib.hid (at_nat w _ x m1 k HA.out (by omega))
        have h2 := Lib.hid (at_nat w _ y m2 k HB.out (by omega))
        have hx := half x k
        have hy := half y k
        have b1 := bit_lt x k
        have b2 := bit_lt y k
        have hlt1 := cmp_lt x y k
        have hgt1 := cmp_lt y x k
        generalize bit x k = p at *
        generalize bit y k = q at *
        have HX := Lib.hid hx; have HY := Lib.hid hy; have HQ := Lib.hid hq; have HL := Lib.hid hlt1; have HG := Lib.hid hgt1
        clear hx hy hq hlt1 hgt1 e1
        by_cases c1 : p < q
        · have c1' : (p : Int) < (q : Int) := by omega
          have hr : cmpI x y = -1 := by
            unfold cmpI; rw [if_pos (HL.out (by have := HX.out; have := HY.out; have := HQ.out; omega))]
          have HR := Lib.hid hr; clear hr c1
          go_wp2_with fail
          refine h1.out.mono ?_
          rintro e w1 ⟨rfl, rfl⟩
          go_wp2_with fail
          refine h2.out.mono ?_
          rintro e w1 ⟨rfl, rfl⟩
          go_wp2
          go_ret
          exact ⟨ret_int HR.out.symm, rfl⟩
        · have c1' : ¬ (p : Int) < (q : Int) := by omega
          by_cases c2 : q < p
          · have c2' : (q : Int) < (p : Int) := by omega
            have hr : cmpI x y = 1 := by
              have := HG.out (by have := HX.out; have := HY.out; have := HQ.out; omega)
              unfold cmpI; rw [if_neg (by omega), if_pos this]
            have HR := Lib.hid hr; clear hr c1 c2
            go_wp2_with fail
            refine h1.out.mono ?_
            rintro e w1 ⟨rfl, rfl⟩
            go_wp2_with fail
            refine h2.out.mono ?_
            rintro e w1 ⟨rfl, rfl⟩
            go_wp2_with fail
            refine h1.out.mono ?_
            rintro e w1 ⟨rfl, rfl⟩
            go_wp2_with fail
            refine h2.out.mono ?_
            rintro e w1 ⟨rfl, rfl⟩
            go_wp2
            go_ret
            exact ⟨ret_int HR.out.symm, rfl⟩
          · have c2' : ¬ (q : Int) < (p : Int) := by omega
            go_wp2_with fail
            refine h1.out.mono ?_
            rintro e w1 ⟨rfl, rfl⟩
            go_wp2_with fail
            refine h2.out.mono ?_
            rintro e w1 ⟨rfl, rfl⟩
            go_wp2_with fail
            refine h1.out.mono ?_
            rintro e w1 ⟨rfl, rfl⟩
            go_wp2_with fail
            refine h2.out.mono ?_
            rintro e w1 ⟨rfl, rfl⟩
            go_wp2
            go_round
            case rel => exact ⟨k, by omega, rfl, by have := HX.out; have := HY.out; have := HQ.out; omega⟩
            case measure => simp [intOf]; try omega
      · obtain rfl : k = 0 := by omega
        have hxy : x = y := by simpa using hq
        have hr : cmpI x y = 0 := by unfold cmpI; rw [if_neg (by omega), if_neg (by omega)]
        have hle : ¬ (0 : Int) ≤ ((0 : Nat) : Int) - 1 := by omega
        have HR := Lib.hid hr; clear hr hxy hq hlt
        go_wp2
        go_ret
        exact ⟨ret_int HR.out.symm, rfl⟩

end Go.Proofs.YtcoohepkmhpdkaaGreat

namespace Go.Proofs.YtcoohepkmhpdkaaGreat
open Go.RowKit
set_option linter.unusedVariables false

theorem word_step (X j : Nat) : X % 2 ^ (j + 1) = 2 * (X / 2 % 2 ^ j) + X % 2 := by
  rw [Nat.pow_succ, Nat.mul_comm, Nat.mod_mul]; omega

set_option maxRecDepth 100000 in
set_option maxHeartbeats 2000000 in
theorem word_any (w : World) (v : Value) (x m f : Nat) (h : Bt w v x m) (hf : f ≤ 1000) :
    Calls Tryz.prog 113 #[v, .int .i64 (f : Int)] w fun e w' => e = .returned (.int .u64 ((x / 2 ^ f % 2 ^ 64 : Nat) : Int)) ∧ w = w' := by
  obtain ⟨sv, cv, rfl⟩ := h.1.form
  have HV := Lib.hid h
  have hm := h.2.2
  clear h
  go_enter Tryz.func113, Tryz.ntmps113
  go_wp2
  go_loop [5, 6] (fun c i => ∃ (k r : Nat), k ≤ 64 ∧ i = .int .i64 ((k : Int) - 1) ∧ c = .int .u64 (r : Int) ∧ Hid (r = x / 2 ^ (f + k) % 2 ^ (64 - k))) (fun _ i => (intOf i + 1).toNat)
  case atStart => exact ⟨64, 0, Nat.le_refl _, rfl, rfl, by show 0 = _; simp [Nat.mod_one]⟩
  case round =>
    obtain ⟨k, r, hk, rfl, rfl, HR⟩ := hrel
    by_cases hlt : 0 < k
    · obtain ⟨k, rfl⟩ : ∃ k', k = k' + 1 := ⟨k - 1, by omega⟩
      have e1 : (((k + 1 : Nat) : Int) - 1) = (k : Int) := by omega
      rw [e1]
      have hr63 : r ≤ 9223372036854775807 := by
        have h1 : r < 2 ^ (64 - (k + 1)) := by rw [HR.out]; exact Nat.mod_lt _ (pow_pos2 _)
        have h2 : 2 ^ (64 - (k + 1)) ≤ 2 ^ 63 := Nat.pow_le_pow_right (by decide) (by omega)
        have h3 : (2 : Nat) ^ 63 = 9223372036854775808 := by decide
        omega
      have hstep : x / 2 ^ (f + k) % 2 ^ (64 - k) = 2 * r + bit x (f + k) := by
        have h1 : 64 - k = (64 - (k + 1)) + 1 := by omega
        rw [h1, word_step, HR.out]
        have h2 : x / 2 ^ (f + (k + 1)) = x / 2 ^ (f + k) / 2 := by
          rw [show f + (k + 1) = f + k + 1 by omega, Nat.pow_succ, Nat.div_div_eq_div_mul]
        rw [h2]; rfl
      have hk0 : (0 : Int) ≤ (k : Int) := by omega
      have hb := bit_lt x (f + k)
      by_cases hfm : f + k < m
      · obtain ⟨b, off, rfl, hc⟩ := HV.out.1.at (by omega)
        have cx := hc (f + k) _ (i64s_at (bitsL x m) (f + k) (by rw [bitsL_len]; exact hfm))
        rw [bitsL_get _ _ _ hfm] at cx
        have hfm' : (f : Int) + (k : Int) < (m : Int) := by omega
        have hfk0 : (0 : Int) ≤ (f : Int) + (k : Int) := by omega
        generalize hu : bit x (f + k) = u at *
        have HST := Lib.hid hstep
        clear hc hu hstep e1
        go_wp2
        go_round
        case rel => exact ⟨k, 2 * r + u, by omega, rfl, by go_num, HST.out.symm⟩
        case measure => simp [intOf]; try omega
      · have hfm' : ¬ (f : Int) + (k : Int) < (m : Int) := by omega
        have hz := bit_big HV.out.2.1 (i := f + k) (by omega)
        rw [hz] at hstep
        have HST := Lib.hid hstep
        clear hstep e1 hz hb
        go_wp2
        go_round
        case rel => exact ⟨k, 2 * r, by omega, rfl, by go_num, HST.out.symm⟩
        case measure => simp [intOf]; try omega
    · obtain rfl : k = 0 := by omega
      have hle : ¬ (0 : Int) ≤ ((0 : Nat) : Int) - 1 := by omega
      go_wp2
      go_ret
      have := HR.out
      rw [Nat.add_zero, Nat.sub_zero] at this
      exact ⟨ret_int (by rw [this]; simp), rfl⟩

end Go.Proofs.YtcoohepkmhpdkaaGreat

namespace Go.Proofs.YtcoohepkmhpdkaaGreat
open Go.RowKit
set_option linter.unusedVariables false

theorem le_of_bit {y k : Nat} (h : bit y k = 1) : 2 ^ k ≤ y := by
  by_cases hlt : y < 2 ^ k
  · have := bit_big hlt (Nat.le_refl k); omega
  · omega

set_option maxRecDepth 100000 in
set_option maxHeartbeats 2000000 in
theorem mul_any (w : World) (va vb : Value) (x y m1 m2 n : Nat) (ha : Bt w va x m1) (hb : Bt w vb y m2) (hn : n ≤ 1000) (hxy : x * y < 2 ^ n) :
    Calls Tryz.prog 137 #[va, vb, .int .i64 (n : Int)] w fun e w' => ∃ sa cap, e = .returned (.slice sa n cap) ∧ w'.ownsRow w.heap.size 3 1 (.slice sa n cap) n (i64s (bitsL (x * y) n)) ∧ Below w.heap.size w w' := by
  obtain ⟨sa', ca', rfl⟩ := ha.1.form
  obtain ⟨sb', cb', rfl⟩ := hb.1.form
  have hm2 := hb.2.2
  have HA := Lib.hid ha; have HV := Lib.hid hb; have HXY := Lib.hid hxy; clear ha hb hxy
  go_enter Tryz.func137, Tryz.ntmps137
  go_wp2_with fail
  refine (of_any _ 0 n (by decide) hn).mono ?_
  rintro e w1 ⟨s1, c1, rfl, hown1, hb1⟩
  have HO1 := Lib.hid hown1; have HB1 := Lib.hid hb1; clear hown1 hb1
  go_wp2
  go_loopw [7, 8] (fun u i wr => ∃ (k : Nat) (sa : Option Addr) (cap : Nat), k ≤ m2 ∧ i = .int .i64 k ∧ u = .slice sa n cap ∧ Hid (wr.ownsRow w.heap.size 3 1 (.slice sa n cap) n (i64s (bitsL (x * (y % 2 ^ k)) n))) ∧ Hid (Below w.heap.size w wr)) (fun _ i _ => m2 - (intOf i).toNat)
  case atStart =>
    refine ⟨0, s1, c1, Nat.zero_le _, rfl, rfl, ?_, HB1⟩
    show World.ownsRow _ _ _ _ _ _ (i64s (bitsL (x * (y % 2 ^ 0)) n))
    rw [Nat.pow_zero, Nat.mod_one, Nat.mul_zero]
    exact HO1.out
  case round =>
    obtain ⟨k, sa, cap, hk, rfl, rfl, HO, HB⟩ := hrel
    by_cases hlt : k < m2
    · obtain ⟨b, off, hsb, hc⟩ := (HV.out.1.below HB.out).at (by omega)
      subst hsb
      have cx := hc k _ (i64s_at (bitsL y m2) k (by rw [bitsL_len]; exact hlt))
      rw [bitsL_get _ _ _ hlt] at cx
      have hms := mod_succ y k
      have hb := bit_lt y k
      have hle := @le_of_bit y k
      generalize hu : bit y k = u at *
      by_cases h1 : u = 1
      · have hpk := hle h1
        subst h1
        have hz1 : x * 2 ^ k < 2 ^ n := Nat.lt_of_le_of_lt (Nat.mul_le_mul_left x hpk) HXY.out
        have hz2 : x * (y % 2 ^ k) < 2 ^ n := Nat.lt_of_le_of_lt (Nat.mul_le_mul_left x (Nat.mod_le _ _)) HXY.out
        have hstep : x * (y % 2 ^ k) + x * 2 ^ k = x * (y % 2 ^ (k + 1)) := by rw [hms, Nat.mul_one, Nat.mul_add]
        have q : (((1 : Nat) : Int) == 1) = true := rfl
        have HZ1 := Lib.hid hz1; have HZ2 := Lib.hid hz2; have HST := Lib.hid hstep
        clear hms hle hu hpk hz1 hz2 hstep hc
        go_wp2_with fail
        refine (shl_any _ _ x m1 k n (HA.out.below HB.out) (by omega) hn).mono ?_
        rintro e w2 ⟨s2, c2, rfl, hown2, hb2⟩
        have HO2 := Lib.hid hown2; have HB2 := Lib.hid hb2; clear hown2 hb2
        go_wp2_with fail
        refine (badd_any _ _ _ (x * (y % 2 ^ k)) (x * 2 ^ k) n n n ⟨(rd_of_row HO.out).below HB2.out, HZ2.out, hn⟩ ⟨rd_of_row HO2.out, HZ1.out, hn⟩ hn).mono ?_
        rintro e w3 ⟨s3, c3, rfl, hown3, hb3⟩
        rw [HST.out] at hown3
        have HO3 := Lib.hid (row_mono hown3 (Nat.le_trans HB.out.size HB2.out.size)); have HB3 := Lib.hid (below_two (below_two HB.out HB2.out) hb3); clear hown3 hb3
        go_wp2
        go_roundw
        case rel => exact ⟨k + 1, s3, c3, by omega, by go_num, rfl, HO3, HB3⟩
        case measure => simp [intOf]; omega
      · have hu0 : u = 0 := by omega
        subst hu0
        have hstep : x * (y % 2 ^ k) = x * (y % 2 ^ (k + 1)) := by rw [hms, Nat.mul_zero, Nat.add_zero]
        have q : (((0 : Nat) : Int) == 1) = false := rfl
        have HST := Lib.hid hstep
        clear hms hle hu hstep hc
        go_wp2
        go_roundw
        case rel => exact ⟨k + 1, sa, cap, by omega, by go_num, rfl, by rw [← HST.out]; exact HO, HB⟩
        case measure => simp [intOf]; omega
    · obtain rfl : k = m2 := by omega
      go_wp2
      go_ret
      refine ⟨sa, cap, rfl, ?_, HB.out⟩
      have := HO.out
      rw [Nat.mod_eq_of_lt HV.out.2.1] at this
      exact this

end Go.Proofs.YtcoohepkmhpdkaaGreat

namespace Go.Proofs.YtcoohepkmhpdkaaGreat
open Go.RowKit
set_option linter.unusedVariables false

set_option maxRecDepth 100000 in
set_option maxHeartbeats 4000000 in
theorem div_any (w : World) (va vb : Value) (x y m1 m2 n : Nat) (ha : Bt w va x m1) (hb : Bt w vb y m2) (hy : 0 < y) (hn : n = (if m1 < m2 then m2 else m1) + 1) (h900 : n ≤ 900) :
    Calls Tryz.prog 112 #[va, vb] w fun e w' => ∃ s1 c1 s2 c2, e = .returned (.tuple #[.slice s1 m1 c1, .slice s2 n c2]) ∧ w'.ownsRow w.heap.size 3 1 (.slice s1 m1 c1) m1 (i64s (bitsL (x / y) m1)) ∧ w'.ownsRow w.heap.size 3 1 (.slice s2 n c2) n (i64s (bitsL (x % y) n)) ∧ Below w.heap.size w w' := by
  obtain ⟨sa', ca', rfl⟩ := ha.1.form
  obtain ⟨sb', cb', rfl⟩ := hb.1.form
  have HA := Lib.hid ha; have HV := Lib.hid hb; have HY := Lib.hid hy; clear ha hb
  by_cases hc : m1 < m2
  · have hnI : (m2 : Int) + 1 = (n : Int) := by rw [hn, if_pos hc]; omega
    have h1n : m1 < n := by rw [hn, if_pos hc]; omega
    have h2n : m2 < n := by rw [hn, if_pos hc]; omega
    clear hn
    go_enter Tryz.func112, Tryz.ntmps112
    go_wp2_with fail
    refine (of_any _ 0 m1 (by decide) (by omega)).mono ?_
    rintro e w1 ⟨s1, c1, rfl, hown1, hb1⟩
    have HO1 := Lib.hid hown1; have HB1 := Lib.hid hb1; clear hown1 hb1
    go_wp2_with fail
    refine (of_any _ 0 n (by decide) (by omega)).mono ?_
    rintro e w2 ⟨s2, c2, rfl, hown2, hb2⟩
    have hlt1 : ∀ g, (Value.slice s1 m1 c1).ownBlock = some g → g < w1.heap.size := fun g hg => (HO1.out.lt g hg).2
    have hO1 : w2.ownsRow w.heap.size 3 1 (.slice s1 m1 c1) m1 (i64s (bitsL 0 m1)) := row_kept HO1.out fun g hg => hb2.block g (HO1.out.lt g hg).2
    have HO2 := Lib.hid hown2; have HB2 := Lib.hid (below_two HB1.out hb2); have HO12 := Lib.hid hO1; have HLT := Lib.hid hlt1
    have hsz12 := hb2.size
    clear hown2 hb2 hO1 hlt1
    go_wp2_with fail
    refine (len_any _ _ y m2 (HV.out.below HB2.out)).mono ?_
    rintro e w3 ⟨r, rfl, hr0, hr1, rfl⟩
    have hrne : r ≠ 0 := fun h => by have := hr1.1 h; have := HY.out; omega
    have qr : (r == 0) = false := by simp [hrne]
    clear hr1 hrne
    go_wp2
    go_loopw [8, 9] (fun u i wr => ∃ (k : Nat) (sr : Option Addr) (cr : Nat), k ≤ m1 ∧ i = .int .i64 ((k : Int) - 1) ∧ u = .slice sr n cr ∧ Hid (wr.ownsRow w.heap.size 3 1 (.slice s1 m1 c1) m1 (i64s (bitsL (x / 2 ^ k / y * 2 ^ k) m1))) ∧ Hid (wr.ownsRow w1.heap.size 3 1 (.slice sr n cr) n (i64s (bitsL (x / 2 ^ k % y) n))) ∧ Hid (Below w.heap.size w wr) ∧ w1.heap.size ≤ wr.heap.size) (fun _ i _ => (intOf i + 1).toNat)
    case atStart =>
      have hx0 : x / 2 ^ m1 = 0 := Nat.div_eq_of_lt HA.out.2.1
      refine ⟨m1, s2, c2, Nat.le_refl _, rfl, rfl, ?_, ?_, HB2, hsz12⟩
      · show World.ownsRow _ _ _ _ _ _ (i64s (bitsL (x / 2 ^ m1 / y * 2 ^ m1) m1))
        rw [hx0, Nat.zero_div, Nat.zero_mul]; exact HO12.out
      · show World.ownsRow _ _ _ _ _ _ (i64s (bitsL (x / 2 ^ m1 % y) n))
        rw [hx0, Nat.zero_mod]; exact HO2.out
    case round =>
      obtain ⟨k, sr, cr, hk, rfl, rfl, HQ, HR, HB, hsz⟩ := hrel
      by_cases hlt : 0 < k
      · obtain ⟨k, rfl⟩ : ∃ k', k = k' + 1 := ⟨k - 1, by omega⟩
        have e1 : (((k + 1 : Nat) : Int) - 1) = (k : Int) := by omega
        rw [e1]
        have hs := half x k
        obtain ⟨hd1, hd2⟩ := div_step (x / 2 ^ (k + 1)) (bit x k) y (bit_lt x k) HY.out
        have hrl : x / 2 ^ (k + 1) % y < y := Nat.mod_lt _ HY.out
        have hy2 : y < 2 ^ m2 := HV.out.2.1
        have hp2 : 2 ^ m2 * 2 ≤ 2 ^ n := by rw [← Nat.pow_succ]; exact Nat.pow_le_pow_right (by decide) (by omega)
        have hb := bit_lt x k
        rw [← hs] at hd1 hd2
        have hsl := set_low (x / 2 ^ (k + 1) % y) (bit x k) n (bit_lt x k) (by omega)
        have hsq := set_quot (x / 2 ^ (k + 1) / y) k m1 (by omega)
        obtain ⟨b, off, hsa, hcc⟩ := (HA.out.1.below HB.out).at (by omega)
        subst hsa
        have hQ0 : x / 2 ^ (k + 1) / y * 2 ^ (k + 1) = 2 * (x / 2 ^ (k + 1) / y) * 2 ^ k := by rw [Nat.pow_succ, Nat.mul_comm (2 ^ k) 2, ← Nat.mul_assoc, Nat.mul_comm _ 2]
        have hqr := HQ.out
        rw [hQ0] at hqr
        have hBT : Bt wr (.slice sr n cr) (x / 2 ^ (k + 1) % y) n := ⟨rd_of_row HR.out, by omega, by omega⟩
        generalize hrr : x / 2 ^ (k + 1) % y = r1 at *
        generalize hqq : x / 2 ^ (k + 1) / y = q1 at *
        generalize hu : bit x k = u at *
        have HS := Lib.hid hs; have HD1 := Lib.hid hd1; have HD2 := Lib.hid hd2; have HSL := Lib.hid hsl; have HSQ := Lib.hid hsq; have HQR := Lib.hid hqr; have HBT := Lib.hid hBT
        have cx := hcc k _ (i64s_at (bitsL x m1) k (by rw [bitsL_len]; omega))
        rw [bitsL_get _ _ _ (by omega), hu] at cx
        have hcb : b < wr.heap.size := World.block_lt_of_cell? _ _ cx
        have CX := Lib.hid cx
        clear hs hd1 hd2 hsl hsq hqr hBT hQ0 hcc cx e1
        go_wp2_with fail
        refine (shl_any _ _ r1 n 1 n HBT.out (by omega) (by omega)).mono ?_
        rintro e w3 ⟨s3, c3, rfl, hown3, hb3⟩
        obtain ⟨g3, hs3, hg1, hg2, hg3, hcell3, hfz3⟩ := row_ptr hown3 (by omega)
        subst hs3
        have c30 := hcell3 0 _ (i64s_at _ 0 (by rw [bitsL_len]; omega))
        have f30 := hfz3 0
        have cx3 := (hb3.cell hcb).trans CX.out
        generalize hl0 : (bitsL (r1 * 2 ^ 1) n).getD 0 0 = l0 at *
        have HO3 := Lib.hid hown3; have HB3 := Lib.hid hb3
        clear hown3 hb3 hcell3 hfz3 hl0
        go_wp2_with fail
        obtain ⟨w4, hw4⟩ : ∃ w4, w4 = w3.setCell ⟨g3, 0, none⟩ (.int .i64 (u : Int)) := ⟨_, rfl⟩
        have hO4 : w4.ownsRow wr.heap.size 3 1 (.slice (some ⟨g3, 0, none⟩) n c3) n (i64s (bitsL (2 * r1 + u) n)) := by
          rw [hw4, ← HSL.out, i64s_set]; exact row_set HO3.out (by omega) _
        have hB4 : Below wr.heap.size wr w4 := by rw [hw4]; exact HB3.out.setCell (p := ⟨g3, 0, none⟩) hg1 _
        rw [← hw4]
        have HO4 := Lib.hid hO4; have HB4 := Lib.hid hB4
        have hQ4 : w4.ownsRow w.heap.size 3 1 (.slice s1 m1 c1) m1 (i64s (bitsL (2 * q1 * 2 ^ k) m1)) := row_kept HQR.out fun g hg => hB4.block g (HQR.out.lt g hg).2
        have HQ4 := Lib.hid hQ4
        clear hw4 hO4 hB4 hQ4 c30 f30 cx3
        have hcmp := Lib.hid (cmp_any w4 (.slice (some ⟨g3, 0, none⟩) n c3) _ (2 * r1 + u) y n m2 ⟨rd_of_row HO4.out, by omega, by omega⟩ ((HV.out.below HB.out).below HB4.out))
        by_cases hge : y ≤ 2 * r1 + u
        · have hcv : cmpI (2 * r1 + u) y = 0 ∨ cmpI (2 * r1 + u) y = 1 := by
            unfold cmpI; rw [if_neg (by omega)]; split
            · exact .inr rfl
            · exact .inl rfl
          obtain ⟨cv, hcv', hcv0⟩ : ∃ cv : Int, cmpI (2 * r1 + u) y = cv ∧ 0 ≤ cv := ⟨_, rfl, by omega⟩
          rw [hcv'] at hcmp
          obtain ⟨hD1, hD2⟩ := HD2.out hge
          have HE1 := Lib.hid hD1; have HE2 := Lib.hid hD2
          clear hcv hcv' hD1 hD2
          go_wp2_with fail
          refine hcmp.out.mono ?_
          rintro e w5 ⟨rfl, rfl⟩
          go_wp2_with fail
          refine (bsub_any _ _ _ (2 * r1 + u) y n m2 n ⟨rd_of_row HO4.out, by omega, by omega⟩ ((HV.out.below HB.out).below HB4.out) (by omega) hge).mono ?_
          rintro e w5 ⟨s5, c5, rfl, hown5, hb5⟩
          have hQ5 : w5.ownsRow w.heap.size 3 1 (.slice s1 m1 c1) m1 (i64s (bitsL (2 * q1 * 2 ^ k) m1)) := row_kept HQ4.out fun g hg => hb5.block g (HQ4.out.lt g hg).2
          obtain ⟨g1, hs1, hh1, hh2, hh3, hcell5, hfz5⟩ := row_ptr hQ5 (by omega)
          have hg1w := HLT.out g1 (by rw [hs1]; rfl)
          subst hs1
          have c5k := hcell5 k _ (i64s_at _ k (by rw [bitsL_len]; omega))
          have f5k := hfz5 k
          have hkm : (k : Int) < (m1 : Int) := by omega
          have hk0 : (0 : Int) ≤ (k : Int) := by omega
          generalize hl5 : (bitsL (2 * q1 * 2 ^ k) m1).getD k 0 = l5 at *
          have HQ5 := Lib.hid hQ5; have HO5 := Lib.hid hown5; have HB5 := Lib.hid hb5
          clear hQ5 hown5 hb5 hcell5 hfz5 hl5
          go_wp2
          go_roundw
          case rel =>
            refine ⟨k, s5, c5, by omega, rfl, rfl, ?_, ?_, ?_, ?_⟩
            · show World.ownsRow _ _ _ _ _ _ (i64s (bitsL (x / 2 ^ k / y * 2 ^ k) m1))
              rw [HE1.out, ← HSQ.out, i64s_set]
              exact row_set HQ5.out (by omega) _
            · show World.ownsRow _ _ _ _ _ _ (i64s (bitsL (x / 2 ^ k % y) n))
              rw [HE2.out]
              exact row_kept (row_mono HO5.out (Nat.le_trans hsz HB4.out.size)) fun g hg => Below.heap_setCell _ _ _ _ (by have := (HO5.out.lt g hg).1; have := HB4.out.size; show g ≠ g1; omega)
            · exact (below_two (below_two HB.out HB4.out) HB5.out).setCell (p := ⟨g1, k, none⟩) hh1 _
            · have := HB5.out.size; have := HB4.out.size; simp [World.setCell]; omega
          case measure => simp [intOf]; try omega
        · have hcv : cmpI (2 * r1 + u) y = -1 := by unfold cmpI; rw [if_pos (by omega)]
          rw [hcv] at hcmp
          obtain ⟨hD1, hD2⟩ := HD1.out (by omega)
          have HE1 := Lib.hid hD1; have HE2 := Lib.hid hD2
          clear hcv hD1 hD2
          go_wp2_with fail
          refine hcmp.out.mono ?_
          rintro e w5 ⟨rfl, rfl⟩
          go_wp2
          go_roundw
          case rel =>
            refine ⟨k, some ⟨g3, 0, none⟩, c3, by omega, rfl, rfl, ?_, ?_, below_two HB.out HB4.out, Nat.le_trans hsz HB4.out.size⟩
            · show World.ownsRow _ _ _ _ _ _ (i64s (bitsL (x / 2 ^ k / y * 2 ^ k) m1))
              rw [HE1.out]; exact HQ4.out
            · show World.ownsRow _ _ _ _ _ _ (i64s (bitsL (x / 2 ^ k % y) n))
              rw [HE2.out]; exact row_mono HO4.out hsz
          case measure => simp [intOf]; try omega
      · obtain rfl : k = 0 := by omega
        have hle : ¬ (0 : Int) ≤ ((0 : Nat) : Int) - 1 := by omega
        go_wp2
        go_ret2
        have hq := HQ.out
        have hr := HR.out
        rw [Nat.pow_zero, Nat.div_one, Nat.mul_one] at hq
        rw [Nat.pow_zero, Nat.div_one] at hr
        exact ⟨s1, c1, sr, cr, rfl, hq, row_mono hr HB1.out.size, HB.out⟩
  · have hnI : (m1 : Int) + 1 = (n : Int) := by rw [hn, if_neg hc]; omega
    have h1n : m1 < n := by rw [hn, if_neg hc]; omega
    have h2n : m2 < n := by rw [hn, if_neg hc]; omega
    clear hn
    go_enter Tryz.func112, Tryz.ntmps112
    go_wp2_with fail
    refine (of_any _ 0 m1 (by decide) (by omega)).mono ?_
    rintro e w1 ⟨s1, c1, rfl, hown1, hb1⟩
    have HO1 := Lib.hid hown1; have HB1 := Lib.hid hb1; clear hown1 hb1
    go_wp2_with fail
    refine (of_any _ 0 n (by decide) (by omega)).mono ?_
    rintro e w2 ⟨s2, c2, rfl, hown2, hb2⟩
    have hlt1 : ∀ g, (Value.slice s1 m1 c1).ownBlock = some g → g < w1.heap.size := fun g hg => (HO1.out.lt g hg).2
    have hO1 : w2.ownsRow w.heap.size 3 1 (.slice s1 m1 c1) m1 (i64s (bitsL 0 m1)) := row_kept HO1.out fun g hg => hb2.block g (HO1.out.lt g hg).2
    have HO2 := Lib.hid hown2; have HB2 := Lib.hid (below_two HB1.out hb2); have HO12 := Lib.hid hO1; have HLT := Lib.hid hlt1
    have hsz12 := hb2.size
    clear hown2 hb2 hO1 hlt1
    go_wp2_with fail
    refine (len_any _ _ y m2 (HV.out.below HB2.out)).mono ?_
    rintro e w3 ⟨r, rfl, hr0, hr1, rfl⟩
    have hrne : r ≠ 0 := fun h => by have := hr1.1 h; have := HY.out; omega
    have qr : (r == 0) = false := by simp [hrne]
    clear hr1 hrne
    go_wp2
    go_loopw [8, 9] (fun u i wr => ∃ (k : Nat) (sr : Option Addr) (cr : Nat), k ≤ m1 ∧ i = .int .i64 ((k : Int) - 1) ∧ u = .slice sr n cr ∧ Hid (wr.ownsRow w.heap.size 3 1 (.slice s1 m1 c1) m1 (i64s (bitsL (x / 2 ^ k / y * 2 ^ k) m1))) ∧ Hid (wr.ownsRow w1.heap.size 3 1 (.slice sr n cr) n (i64s (bitsL (x / 2 ^ k % y) n))) ∧ Hid (Below w.heap.size w wr) ∧ w1.heap.size ≤ wr.heap.size) (fun _ i _ => (intOf i + 1).toNat)
    case atStart =>
      have hx0 : x / 2 ^ m1 = 0 := Nat.div_eq_of_lt HA.out.2.1
      refine ⟨m1, s2, c2, Nat.le_refl _, rfl, rfl, ?_, ?_, HB2, hsz12⟩
      · show World.ownsRow _ _ _ _ _ _ (i64s (bitsL (x / 2 ^ m1 / y * 2 ^ m1) m1))
        rw [hx0, Nat.zero_div, Nat.zero_mul]; exact HO12.out
      · show World.ownsRow _ _ _ _ _ _ (i64s (bitsL (x / 2 ^ m1 % y) n))
        rw [hx0, Nat.zero_mod]; exact HO2.out
    case round =>
      obtain ⟨k, sr, cr, hk, rfl, rfl, HQ, HR, HB, hsz⟩ := hrel
      by_cases hlt : 0 < k
      · obtain ⟨k, rfl⟩ : ∃ k', k = k' + 1 := ⟨k - 1, by omega⟩
        have e1 : (((k + 1 : Nat) : Int) - 1) = (k : Int) := by omega
        rw [e1]
        have hs := half x k
        obtain ⟨hd1, hd2⟩ := div_step (x / 2 ^ (k + 1)) (bit x k) y (bit_lt x k) HY.out
        have hrl : x / 2 ^ (k + 1) % y < y := Nat.mod_lt _ HY.out
        have hy2 : y < 2 ^ m2 := HV.out.2.1
        have hp2 : 2 ^ m2 * 2 ≤ 2 ^ n := by rw [← Nat.pow_succ]; exact Nat.pow_le_pow_right (by decide) (by omega)
        have hb := bit_lt x k
        rw [← hs] at hd1 hd2
        have hsl := set_low (x / 2 ^ (k + 1) % y) (bit x k) n (bit_lt x k) (by omega)
        have hsq := set_quot (x / 2 ^ (k + 1) / y) k m1 (by omega)
        obtain ⟨b, off, hsa, hcc⟩ := (HA.out.1.below HB.out).at (by omega)
        subst hsa
        have hQ0 : x / 2 ^ (k + 1) / y * 2 ^ (k + 1) = 2 * (x / 2 ^ (k + 1) / y) * 2 ^ k := by rw [Nat.pow_succ, Nat.mul_comm (2 ^ k) 2, ← Nat.mul_assoc, Nat.mul_comm _ 2]
        have hqr := HQ.out
        rw [hQ0] at hqr
        have hBT : Bt wr (.slice sr n cr) (x / 2 ^ (k + 1) % y) n := ⟨rd_of_row HR.out, by omega, by omega⟩
        generalize hrr : x / 2 ^ (k + 1) % y = r1 at *
        generalize hqq : x / 2 ^ (k + 1) / y = q1 at *
        generalize hu : bit x k = u at *
        have HS := Lib.hid hs; have HD1 := Lib.hid hd1; have HD2 := Lib.hid hd2; have HSL := Lib.hid hsl; have HSQ := Lib.hid hsq; have HQR := Lib.hid hqr; have HBT := Lib.hid hBT
        have cx := hcc k _ (i64s_at (bitsL x m1) k (by rw [bitsL_len]; omega))
        rw [bitsL_get _ _ _ (by omega), hu] at cx
        have hcb : b < wr.heap.size := World.block_lt_of_cell? _ _ cx
        have CX := Lib.hid cx
        clear hs hd1 hd2 hsl hsq hqr hBT hQ0 hcc cx e1
        go_wp2_with fail
        refine (shl_any _ _ r1 n 1 n HBT.out (by omega) (by omega)).mono ?_
        rintro e w3 ⟨s3, c3, rfl, hown3, hb3⟩
        obtain ⟨g3, hs3, hg1, hg2, hg3, hcell3, hfz3⟩ := row_ptr hown3 (by omega)
        subst hs3
        have c30 := hcell3 0 _ (i64s_at _ 0 (by rw [bitsL_len]; omega))
        have f30 := hfz3 0
        have cx3 := (hb3.cell hcb).trans CX.out
        generalize hl0 : (bitsL (r1 * 2 ^ 1) n).getD 0 0 = l0 at *
        have HO3 := Lib.hid hown3; have HB3 := Lib.hid hb3
        clear hown3 hb3 hcell3 hfz3 hl0
        go_wp2_with fail
        obtain ⟨w4, hw4⟩ : ∃ w4, w4 = w3.setCell ⟨g3, 0, none⟩ (.int .i64 (u : Int)) := ⟨_, rfl⟩
        have hO4 : w4.ownsRow wr.heap.size 3 1 (.slice (some ⟨g3, 0, none⟩) n c3) n (i64s (bitsL (2 * r1 + u) n)) := by
          rw [hw4, ← HSL.out, i64s_set]; exact row_set HO3.out (by omega) _
        have hB4 : Below wr.heap.size wr w4 := by rw [hw4]; exact HB3.out.setCell (p := ⟨g3, 0, none⟩) hg1 _
        rw [← hw4]
        have HO4 := Lib.hid hO4; have HB4 := Lib.hid hB4
        have hQ4 : w4.ownsRow w.heap.size 3 1 (.slice s1 m1 c1) m1 (i64s (bitsL (2 * q1 * 2 ^ k) m1)) := row_kept HQR.out fun g hg => hB4.block g (HQR.out.lt g hg).2
        have HQ4 := Lib.hid hQ4
        clear hw4 hO4 hB4 hQ4 c30 f30 cx3
        have hcmp := Lib.hid (cmp_any w4 (.slice (some ⟨g3, 0, none⟩) n c3) _ (2 * r1 + u) y n m2 ⟨rd_of_row HO4.out, by omega, by omega⟩ ((HV.out.below HB.out).below HB4.out))
        by_cases hge : y ≤ 2 * r1 + u
        · have hcv : cmpI (2 * r1 + u) y = 0 ∨ cmpI (2 * r1 + u) y = 1 := by
            unfold cmpI; rw [if_neg (by omega)]; split
            · exact .inr rfl
            · exact .inl rfl
          obtain ⟨cv, hcv', hcv0⟩ : ∃ cv : Int, cmpI (2 * r1 + u) y = cv ∧ 0 ≤ cv := ⟨_, rfl, by omega⟩
          rw [hcv'] at hcmp
          obtain ⟨hD1, hD2⟩ := HD2.out hge
          have HE1 := Lib.hid hD1; have HE2 := Lib.hid hD2
          clear hcv hcv' hD1 hD2
          go_wp2_with fail
          refine hcmp.out.mono ?_
          rintro e w5 ⟨rfl, rfl⟩
          go_wp2_with fail
          refine (bsub_any _ _ _ (2 * r1 + u) y n m2 n ⟨rd_of_row HO4.out, by omega, by omega⟩ ((HV.out.below HB.out).below HB4.out) (by omega) hge).mono ?_
          rintro e w5 ⟨s5, c5, rfl, hown5, hb5⟩
          have hQ5 : w5.ownsRow w.heap.size 3 1 (.slice s1 m1 c1) m1 (i64s (bitsL (2 * q1 * 2 ^ k) m1)) := row_kept HQ4.out fun g hg => hb5.block g (HQ4.out.lt g hg).2
          obtain ⟨g1, hs1, hh1, hh2, hh3, hcell5, hfz5⟩ := row_ptr hQ5 (by omega)
          have hg1w := HLT.out g1 (by rw [hs1]; rfl)
          subst hs1
          have c5k := hcell5 k _ (i64s_at _ k (by rw [bitsL_len]; omega))
          have f5k := hfz5 k
          have hkm : (k : Int) < (m1 : Int) := by omega
          have hk0 : (0 : Int) ≤ (k : Int) := by omega
          generalize hl5 : (bitsL (2 * q1 * 2 ^ k) m1).getD k 0 = l5 at *
          have HQ5 := Lib.hid hQ5; have HO5 := Lib.hid hown5; have HB5 := Lib.hid hb5
          clear hQ5 hown5 hb5 hcell5 hfz5 hl5
          go_wp2
          go_roundw
          case rel =>
            refine ⟨k, s5, c5, by omega, rfl, rfl, ?_, ?_, ?_, ?_⟩
            · show World.ownsRow _ _ _ _ _ _ (i64s (bitsL (x / 2 ^ k / y * 2 ^ k) m1))
              rw [HE1.out, ← HSQ.out, i64s_set]
              exact row_set HQ5.out (by omega) _
            · show World.ownsRow _ _ _ _ _ _ (i64s (bitsL (x / 2 ^ k % y) n))
              rw [HE2.out]
              exact row_kept (row_mono HO5.out (Nat.le_trans hsz HB4.out.size)) fun g hg => Below.heap_setCell _ _ _ _ (by have := (HO5.out.lt g hg).1; have := HB4.out.size; show g ≠ g1; omega)
            · exact (below_two (below_two HB.out HB4.out) HB5.out).setCell (p := ⟨g1, k, none⟩) hh1 _
            · have := HB5.out.size; have := HB4.out.size; simp [World.setCell]; omega
          case measure => simp [intOf]; try omega
        · have hcv : cmpI (2 * r1 + u) y = -1 := by unfold cmpI; rw [if_pos (by omega)]
          rw [hcv] at hcmp
          obtain ⟨hD1, hD2⟩ := HD1.out (by omega)
          have HE1 := Lib.hid hD1; have HE2 := Lib.hid hD2
          clear hcv hD1 hD2
          go_wp2_with fail
          refine hcmp.out.mono ?_
          rintro e w5 ⟨rfl, rfl⟩
          go_wp2
          go_roundw
          case rel =>
            refine ⟨k, some ⟨g3, 0, none⟩, c3, by omega, rfl, rfl, ?_, ?_, below_two HB.out HB4.out, Nat.le_trans hsz HB4.out.size⟩
            · show World.ownsRow _ _ _ _ _ _ (i64s (bitsL (x / 2 ^ k / y * 2 ^ k) m1))
              rw [HE1.out]; exact HQ4.out
            · show World.ownsRow _ _ _ _ _ _ (i64s (bitsL (x / 2 ^ k % y) n))
              rw [HE2.out]; exact row_mono HO4.out hsz
          case measure => simp [intOf]; try omega
      · obtain rfl : k = 0 := by omega
        have hle : ¬ (0 : Int) ≤ ((0 : Nat) : Int) - 1 := by omega
        go_wp2
        go_ret2
        have hq := HQ.out
        have hr := HR.out
        rw [Nat.pow_zero, Nat.div_one, Nat.mul_one] at hq
        rw [Nat.pow_zero, Nat.div_one] at hr
        exact ⟨s1, c1, sr, cr, rfl, hq, row_mono hr HB1.out.size, HB.out⟩

end Go.Proofs.YtcoohepkmhpdkaaGreat
