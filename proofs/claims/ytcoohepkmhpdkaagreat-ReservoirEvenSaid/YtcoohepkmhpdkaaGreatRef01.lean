/-
  The references' arithmetic on rows of bits: at, Of, Shl, Add, Sub.
-/
import Derived.Test.YtcoohepkmhpdkaaGreatBits
import Derived.Test.YtcoohepkmhpdkaaGreatRow
namespace Go.Proofs.YtcoohepkmhpdkaaGreat
open Go.RowKit
set_option linter.unusedVariables false

/-- a slice that reads as the m bits of x -/
def Bt (w : World) (v : Value) (x m : Nat) : Prop := Rd w 1 v m (i64s (bitsL x m)) ∧ x < 2 ^ m ∧ m ≤ 1000
theorem Bt.below {w w' : World} {v : Value} {x m : Nat} (h : Bt w v x m) (hb : Below w.heap.size w w') : Bt w' v x m := ⟨h.1.below hb, h.2⟩

set_option maxRecDepth 100000 in
set_option maxHeartbeats 1000000 in
theorem at_nat (w : World) (v : Value) (x m i : Nat) (h : Bt w v x m) (hi : i ≤ 5000) :
    Calls Tryz.prog 138 #[v, .int .i64 (i : Int)] w fun e w' => e = .returned (.int .i64 ((bit x i : Nat) : Int)) ∧ w = w' := by
  obtain ⟨hr, hx, hm⟩ := h
  obtain ⟨sa, cap, rfl⟩ := hr.form
  by_cases him : i < m
  · obtain ⟨b, off, rfl, hc⟩ := hr.at (by omega)
    have cx := hc i _ (i64s_at (bitsL x m) i (by rw [bitsL_len]; exact him))
    rw [bitsL_get _ _ _ him] at cx
    generalize bit x i = u at *
    clear hc hr hx
    go_enter Tryz.func138, Tryz.ntmps138
    go_wp2
    go_ret
    exact ⟨rfl, rfl⟩
  · have hb := bit_big hx (i := i) (by omega)
    rw [hb]
    clear hr hx hb
    go_enter Tryz.func138, Tryz.ntmps138
    go_wp2
    go_ret
    exact ⟨rfl, rfl⟩

set_option maxRecDepth 100000 in
set_option maxHeartbeats 1000000 in
theorem at_neg (w : World) (v : Value) (x m : Nat) (i : Int) (h : Bt w v x m) (hi : i < 0) :
    Calls Tryz.prog 138 #[v, .int .i64 i] w fun e w' => e = .returned (.int .i64 0) ∧ w = w' := by
  obtain ⟨hr, hx, hm⟩ := h
  obtain ⟨sa, cap, rfl⟩ := hr.form
  clear hr hx
  go_enter Tryz.func138, Tryz.ntmps138
  go_wp2
  go_ret
  exact ⟨rfl, rfl⟩

set_option maxRecDepth 100000 in
set_option maxHeartbeats 2000000 in
theorem shl_any (w : World) (v : Value) (x m s n : Nat) (h : Bt w v x m) (hs : s ≤ 1000) (hn : n ≤ 1000) :
    Calls Tryz.prog 108 #[v, .int .i64 (s : Int), .int .i64 (n : Int)] w fun e w' => ∃ sa cap, e = .returned (.slice sa n cap) ∧ w'.ownsRow w.heap.size 3 1 (.slice sa n cap) n (i64s (bitsL (x * 2 ^ s) n)) ∧ Below w.heap.size w w' := by
  obtain ⟨sv, cv, rfl⟩ := h.1.form
  have HV := Lib.hid h; clear h
  go_enter Tryz.func108, Tryz.ntmps108
  go_wp2
  go_loopw [7, 8] (fun u i wr => ∃ (k : Nat) (sa : Option Addr) (cap : Nat), k ≤ n ∧ i = .int .i64 k ∧ u = .slice sa k cap ∧ Hid (wr.ownsRow w.heap.size 3 1 (.slice sa k cap) k (i64s (bitsL (x * 2 ^ s) k))) ∧ Hid (Below w.heap.size w wr)) (fun _ i _ => n - (intOf i).toNat)
  case atStart => exact ⟨0, none, 0, Nat.zero_le _, rfl, rfl, World.ownsRow_nil _ _ _ _, Below.refl _ _⟩
  case round =>
    obtain ⟨k, sa, cap, hk, rfl, rfl, HO, HB⟩ := hrel
    by_cases hlt : k < n
    · by_cases hks : k < s
      · have hstep : bitsL (x * 2 ^ s) (k + 1) = bitsL (x * 2 ^ s) k ++ [0] := by rw [bitsL_succ, shl_bit, if_pos hks]; rfl
        have HST := Lib.hid hstep; clear hstep
        go_wp2_with fail
        refine (at_neg _ _ x m _ (HV.out.below HB.out) (by omega)).mono ?_
        rintro e w1 ⟨rfl, rfl⟩
        go_wp2_with (at_builtin; refine app_i64 _ rfl _ _ rfl w.heap.size _ _ _ rfl HO.out _ _ rfl ?qg ?qn ?qb ?_)
        case qg => rfl
        case qn => omega
        case qb => exact HB.out.size
        intro v' w1 hown hchg hfresh
        obtain ⟨sa', cap', rfl⟩ := (rd_of_row hown).form
        rw [← i64s_snoc, ← HST.out] at hown
        have HO1 := Lib.hid hown; have HC1 := Lib.hid hchg
        clear hown hchg hfresh
        go_wp2
        go_roundw
        case rel => exact ⟨k + 1, sa', cap', by omega, by go_num, rfl, HO1, HB.out.trans (HC1.out.below HB.out.size fun i hi => (HO.out.lt i hi).1)⟩
        case measure => simp [intOf]; omega
      · have hstep : bitsL (x * 2 ^ s) (k + 1) = bitsL (x * 2 ^ s) k ++ [((bit x (k - s) : Nat) : Int)] := by rw [bitsL_succ, shl_bit, if_neg hks]
        obtain ⟨d, rfl⟩ : ∃ d, k = s + d := ⟨k - s, by omega⟩
        have e1 : s + d - s = d := by omega
        rw [e1] at hstep
        have e2 : ((s : Int) + (d : Int) - (s : Int)) = (d : Int) := by omega
        have HST := Lib.hid hstep; have HE2 := Lib.hid e2; clear hstep e1 e2
        go_wp2_with fail
        rw [HE2.out]
        refine (at_nat _ _ x m d (HV.out.below HB.out) (by omega)).mono ?_
        rintro e w1 ⟨rfl, rfl⟩
        go_wp2_with (at_builtin; refine app_i64 _ rfl _ _ rfl w.heap.size _ _ _ rfl HO.out _ _ rfl ?qg2 ?qn2 ?qb2 ?_)
        case qg2 => rfl
        case qn2 => omega
        case qb2 => exact HB.out.size
        intro v' w1 hown hchg hfresh
        obtain ⟨sa', cap', rfl⟩ := (rd_of_row hown).form
        rw [← i64s_snoc, ← HST.out] at hown
        have HO1 := Lib.hid hown; have HC1 := Lib.hid hchg
        clear hown hchg hfresh
        go_wp2
        go_roundw
        case rel => exact ⟨s + d + 1, sa', cap', by omega, by go_num, rfl, HO1, HB.out.trans (HC1.out.below HB.out.size fun i hi => (HO.out.lt i hi).1)⟩
        case measure => simp [intOf]; omega
    · obtain rfl : k = n := by omega
      go_wp2
      go_ret
      exact ⟨sa, cap, rfl, HO.out, HB.out⟩

set_option maxRecDepth 100000 in
set_option maxHeartbeats 2000000 in
theorem badd_any (w : World) (va vb : Value) (x y m1 m2 n : Nat) (ha : Bt w va x m1) (hb : Bt w vb y m2) (hn : n ≤ 1000) :
    Calls Tryz.prog 110 #[va, vb, .int .i64 (n : Int)] w fun e w' => ∃ sa cap, e = .returned (.tuple #[.slice sa n cap, .int .i64 ((carry x y n : Nat) : Int)]) ∧ w'.ownsRow w.heap.size 3 1 (.slice sa n cap) n (i64s (bitsL (x + y) n)) ∧ Below w.heap.size w w' := by
  obtain ⟨sa', ca', rfl⟩ := ha.1.form
  obtain ⟨sb', cb', rfl⟩ := hb.1.form
  have HA := Lib.hid ha; have HV := Lib.hid hb; clear ha hb
  go_enter Tryz.func110, Tryz.ntmps110
  go_wp2
  go_loopw [8, 9, 10] (fun u c i wr => ∃ (k : Nat) (sa : Option Addr) (cap : Nat), k ≤ n ∧ i = .int .i64 k ∧ u = .slice sa k cap ∧ c = .int .i64 ((carry x y k : Nat) : Int) ∧ Hid (wr.ownsRow w.heap.size 3 1 (.slice sa k cap) k (i64s (bitsL (x + y) k))) ∧ Hid (Below w.heap.size w wr)) (fun _ _ i _ => n - (intOf i).toNat)
  case atStart => exact ⟨0, none, 0, Nat.zero_le _, rfl, rfl, by rw [carry_zero]; rfl, World.ownsRow_nil _ _ _ _, Below.refl _ _⟩
  case round =>
    obtain ⟨k, sa, cap, hk, rfl, rfl, rfl, HO, HB⟩ := hrel
    by_cases hlt : k < n
    · have hstep : bitsL (x + y) (k + 1) = bitsL (x + y) k ++ [(((bit x k + bit y k + carry x y k) % 2 : Nat) : Int)] := by rw [bitsL_succ, add_bit]
      have hc := carry_succ x y k
      have h1 := at_nat wr _ x m1 k (HA.out.below HB.out) (by omega)
      have h2 := at_nat wr _ y m2 k (HV.out.below HB.out) (by omega)
      have b1 := bit_lt x k
      have b2 := bit_lt y k
      have b3 := carry_lt x y k
      generalize bit x k = p at *
      generalize bit y k = q at *
      generalize carry x y k = c at *
      have e1 : ((p : Int) + (q : Int) + (c : Int)) % 2 = (((p + q + c) % 2 : Nat) : Int) := by omega
      have e2 : ((p : Int) + (q : Int) + (c : Int)) / 2 = (((p + q + c) / 2 : Nat) : Int) := by omega
      generalize hd : (p + q + c) % 2 = dd at *
      generalize hcc : (p + q + c) / 2 = cc at *
      have HDD := Lib.hid hd; have HCC := Lib.hid hcc
      clear hd hcc
      have HST := Lib.hid hstep; have HC := Lib.hid hc; have H1 := Lib.hid h1; have H2 := Lib.hid h2; clear hstep hc h1 h2
      go_wp2_with fail
      refine H1.out.mono ?_
      rintro e w1 ⟨rfl, rfl⟩
      go_wp2_with fail
      refine H2.out.mono ?_
      rintro e w1 ⟨rfl, rfl⟩
      go_wp2_with (at_builtin; go_must (refine app_i64 _ rfl _ _ rfl w.heap.size _ _ _ rfl HO.out _ _ rfl ?qg ?qn ?qb ?_))
      case qg => rfl
      case qn => omega
      case qb => exact HB.out.size
      intro v' w1 hown hchg hfresh
      obtain ⟨sa', cap', rfl⟩ := (rd_of_row hown).form
      rw [← i64s_snoc, ← HST.out] at hown
      have HO1 := Lib.hid hown; have HC1 := Lib.hid hchg
      clear hown hchg hfresh
      go_wp2
      go_roundw
      case rel => exact ⟨k + 1, sa', cap', by omega, by go_num, rfl, by rw [HC.out, e2], HO1, HB.out.trans (HC1.out.below HB.out.size fun i hi => (HO.out.lt i hi).1)⟩
      case measure => simp [intOf]; omega
    · obtain rfl : k = n := by omega
      go_wp2
      go_ret2
      exact ⟨sa, cap, rfl, HO.out, HB.out⟩

set_option maxRecDepth 100000 in
set_option maxHeartbeats 2000000 in
theorem bsub_any (w : World) (va vb : Value) (x y m1 m2 n : Nat) (ha : Bt w va x m1) (hb : Bt w vb y m2) (hn : n ≤ 1000) (hyx : y ≤ x) :
    Calls Tryz.prog 141 #[va, vb, .int .i64 (n : Int)] w fun e w' => ∃ sa cap, e = .returned (.tuple #[.slice sa n cap, .int .i64 ((lack x y n : Nat) : Int)]) ∧ w'.ownsRow w.heap.size 3 1 (.slice sa n cap) n (i64s (bitsL (x - y) n)) ∧ Below w.heap.size w w' := by
  obtain ⟨sa', ca', rfl⟩ := ha.1.form
  obtain ⟨sb', cb', rfl⟩ := hb.1.form
  have HA := Lib.hid ha; have HV := Lib.hid hb; clear ha hb
  go_enter Tryz.func141, Tryz.ntmps141
  go_wp2
  go_loopw [8, 9, 10] (fun u c i wr => ∃ (k : Nat) (sa : Option Addr) (cap : Nat), k ≤ n ∧ i = .int .i64 k ∧ u = .slice sa k cap ∧ c = .int .i64 ((lack x y k : Nat) : Int) ∧ Hid (wr.ownsRow w.heap.size 3 1 (.slice sa k cap) k (i64s (bitsL (x - y) k))) ∧ Hid (Below w.heap.size w wr)) (fun _ _ i _ => n - (intOf i).toNat)
  case atStart => exact ⟨0, none, 0, Nat.zero_le _, rfl, rfl, by rw [lack_zero]; rfl, World.ownsRow_nil _ _ _ _, Below.refl _ _⟩
  case round =>
    obtain ⟨k, sa, cap, hk, rfl, rfl, rfl, HO, HB⟩ := hrel
    by_cases hlt : k < n
    · have hstep := bitsL_succ (x - y) k
      have hc := sub_step x y k hyx
      have h1 := at_nat wr _ x m1 k (HA.out.below HB.out) (by omega)
      have h2 := at_nat wr _ y m2 k (HV.out.below HB.out) (by omega)
      have b1 := bit_lt x k
      have b2 := bit_lt y k
      have b3 : lack x y k < 2 := by unfold lack; split <;> omega
      generalize bit x k = p at *
      generalize bit y k = q at *
      generalize lack x y k = c at *
      generalize hdd : bit (x - y) k = dd at *
      generalize hcc : lack x y (k + 1) = cc at *
      have e1 : ((p : Int) - (q : Int) - (c : Int) + 2) % 2 = (dd : Int) := hc.1.symm
      have e2 : 1 - ((p : Int) - (q : Int) - (c : Int) + 2) / 2 = (cc : Int) := hc.2.symm
      have HCC := Lib.hid hcc
      clear hcc hdd hc
      have HST := Lib.hid hstep; have H1 := Lib.hid h1; have H2 := Lib.hid h2; clear hstep h1 h2
      go_wp2_with fail
      refine H1.out.mono ?_
      rintro e w1 ⟨rfl, rfl⟩
      go_wp2_with fail
      refine H2.out.mono ?_
      rintro e w1 ⟨rfl, rfl⟩
      go_wp2_with (at_builtin; go_must (refine app_i64 _ rfl _ _ rfl w.heap.size _ _ _ rfl HO.out _ _ rfl ?qg ?qn ?qb ?_))
      case qg => rfl
      case qn => omega
      case qb => exact HB.out.size
      intro v' w1 hown hchg hfresh
      obtain ⟨sa', cap', rfl⟩ := (rd_of_row hown).form
      rw [← i64s_snoc, ← HST.out] at hown
      have HO1 := Lib.hid hown; have HC1 := Lib.hid hchg
      clear hown hchg hfresh
      go_wp2
      go_roundw
      case rel => exact ⟨k + 1, sa', cap', by omega, by go_num, rfl, by rw [HCC.out], HO1, HB.out.trans (HC1.out.below HB.out.size fun i hi => (HO.out.lt i hi).1)⟩
      case measure => simp [intOf]; omega
    · obtain rfl : k = n := by omega
      go_wp2
      go_ret2
      exact ⟨sa, cap, rfl, HO.out, HB.out⟩

end Go.Proofs.YtcoohepkmhpdkaaGreat
