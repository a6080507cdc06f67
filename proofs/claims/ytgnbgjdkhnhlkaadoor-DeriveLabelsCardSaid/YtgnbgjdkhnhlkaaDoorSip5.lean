/-
  Bytes as a number at whatever slice; small functions of package sip.
-/
import Derived.Test.YtgnbgjdkhnhlkaaDoorSip4
import Derived.Test.YtgnbgjdkhnhlkaaDoorSip3
namespace Go.Proofs.YtgnbgjdkhnhlkaaDoor
open Go.RowKit
set_option linter.unusedVariables false
set_option linter.unusedSimpArgs false

theorem rd_u8_at {w : World} {b o n m cap : Nat} {l : List Nat} (hc : ∀ i u, (u8s l)[i]? = some u → w.cell? ⟨b, o + i, none⟩ = some u) (k : Nat) (h : k < l.length) : w.cell? ⟨b, o + k, none⟩ = some (.int .u8 (l.getD k 0 : Nat)) :=
  hc k _ (u8s_at l k h)

theorem tail_any (l : List Nat) (hl : Byt l) (v : Value) (n : Nat) (w : World) (hr : Rd w 1 v n (u8s l)) :
    Calls Tryd.prog 43 #[v] w fun e w' => e = .returned (.int .u64 (leN (l.take 8) : Nat)) ∧ w' = w := by
  obtain rfl := hr.len_u8
  obtain ⟨sa, cap, rfl⟩ := hr.form
  by_cases h0 : l.length = 0
  · obtain rfl : l = [] := List.length_eq_zero_iff.1 h0
    exact tail_0 sa cap w
  obtain ⟨b, o, rfl, hc⟩ := hr.at (by omega)
  match l, hl, h0 with
  | [b0], hl, _ =>
    exact tail_1 b o cap b0 (hl _ (by simp)) w (hc 0 _ rfl)
  | [b0, b1], hl, _ =>
    exact tail_2 b o cap b0 b1 (hl _ (by simp)) (hl _ (by simp)) w (hc 0 _ rfl) (hc 1 _ rfl)
  | [b0, b1, b2], hl, _ =>
    exact tail_3 b o cap b0 b1 b2 (hl _ (by simp)) (hl _ (by simp)) (hl _ (by simp)) w (hc 0 _ rfl) (hc 1 _ rfl) (hc 2 _ rfl)
  | [b0, b1, b2, b3], hl, _ =>
    exact tail_4 b o cap b0 b1 b2 b3 (hl _ (by simp)) (hl _ (by simp)) (hl _ (by simp)) (hl _ (by simp)) w (hc 0 _ rfl) (hc 1 _ rfl) (hc 2 _ rfl) (hc 3 _ rfl)
  | [b0, b1, b2, b3, b4], hl, _ =>
    exact tail_5 b o cap b0 b1 b2 b3 b4 (hl _ (by simp)) (hl _ (by simp)) (hl _ (by simp)) (hl _ (by simp)) (hl _ (by simp)) w (hc 0 _ rfl) (hc 1 _ rfl) (hc 2 _ rfl) (hc 3 _ rfl) (hc 4 _ rfl)
  | [b0, b1, b2, b3, b4, b5], hl, _ =>
    exact tail_6 b o cap b0 b1 b2 b3 b4 b5 (hl _ (by simp)) (hl _ (by simp)) (hl _ (by simp)) (hl _ (by simp)) (hl _ (by simp)) (hl _ (by simp)) w (hc 0 _ rfl) (hc 1 _ rfl) (hc 2 _ rfl) (hc 3 _ rfl) (hc 4 _ rfl) (hc 5 _ rfl)
  | [b0, b1, b2, b3, b4, b5, b6], hl, _ =>
    exact tail_7 b o cap b0 b1 b2 b3 b4 b5 b6 (hl _ (by simp)) (hl _ (by simp)) (hl _ (by simp)) (hl _ (by simp)) (hl _ (by simp)) (hl _ (by simp)) (hl _ (by simp)) w (hc 0 _ rfl) (hc 1 _ rfl) (hc 2 _ rfl) (hc 3 _ rfl) (hc 4 _ rfl) (hc 5 _ rfl) (hc 6 _ rfl)
  | [b0, b1, b2, b3, b4, b5, b6, b7], hl, _ =>
    exact tail_8 b o cap b0 b1 b2 b3 b4 b5 b6 b7 (hl _ (by simp)) (hl _ (by simp)) (hl _ (by simp)) (hl _ (by simp)) (hl _ (by simp)) (hl _ (by simp)) (hl _ (by simp)) (hl _ (by simp)) w (hc 0 _ rfl) (hc 1 _ rfl) (hc 2 _ rfl) (hc 3 _ rfl) (hc 4 _ rfl) (hc 5 _ rfl) (hc 6 _ rfl) (hc 7 _ rfl)
  | b0 :: b1 :: b2 :: b3 :: b4 :: b5 :: b6 :: b7 :: b8 :: r, hl, _ =>
    exact tail_9 b o cap _ (by simp) b0 b1 b2 b3 b4 b5 b6 b7 (hl _ (by simp)) (hl _ (by simp)) (hl _ (by simp)) (hl _ (by simp)) (hl _ (by simp)) (hl _ (by simp)) (hl _ (by simp)) (hl _ (by simp)) w (hc 0 _ rfl) (hc 1 _ rfl) (hc 2 _ rfl) (hc 3 _ rfl) (hc 4 _ rfl) (hc 5 _ rfl) (hc 6 _ rfl) (hc 7 _ rfl)

/-- The document's: from the highest byte down. -/
theorem leN_bd (l : List Nat) (hl : Byt l) (k : Nat) (hk : 1 ≤ k) : leN ((l.take 8).drop k) < 72057594037927936 := by
  have h := leN_lt ((l.take 8).drop k) fun b hb => hl b (List.mem_of_mem_take (List.mem_of_mem_drop hb))
  refine Nat.lt_of_lt_of_le h (Nat.le_trans (Nat.pow_le_pow_right (by decide) (show _ ≤ 7 from ?_)) (by decide))
  rw [List.length_drop, List.length_take]
  omega

set_option maxRecDepth 100000 in
set_option maxHeartbeats 4000000 in
theorem num_any (l : List Nat) (hl : Byt l) (v : Value) (n : Nat) (w : World) (hr : Rd w 1 v n (u8s l)) :
    Calls Tryd.prog 48 #[v, .int .i64 0, .int .i64 8] w fun e w' => e = .returned (.int .u64 (leN (l.take 8) : Nat)) ∧ w' = w := by
  obtain rfl := hr.len_u8
  obtain ⟨sa, cap, rfl⟩ := hr.form
  obtain ⟨R, hR⟩ : ∃ R, R = leN (l.take 8) := ⟨_, rfl⟩
  rw [← hR]
  have HR := Lib.hid hR; have HL := Lib.hid hl; have HRD := Lib.hid hr
  have hmax : l.length ≤ maxLen := hr.2.1
  clear hR hl hr
  go_enter Tryd.func48, Tryd.ntmps48
  go_wp2
  go_loop [7, 8] (fun s i => ∃ k y : Nat, k ≤ 8 ∧ i = .int .i64 ((k : Int) - 1) ∧ s = .int .u64 (y : Int) ∧ Hid (y = leN ((l.take 8).drop k))) (fun _ i => (intOf i + 1).toNat)
  case atStart => exact ⟨8, 0, Nat.le_refl _, rfl, rfl, Lib.hid (by rw [List.drop_eq_nil_of_le (by rw [List.length_take]; omega)]; rfl)⟩
  case round =>
    obtain ⟨k, y, hk, rfl, rfl, HY⟩ := hrel
    by_cases hpos : 0 < k
    · obtain ⟨j, rfl⟩ : ∃ j, k = j + 1 := ⟨k - 1, by omega⟩
      have hbd := leN_bd l HL.out (j + 1) (by omega)
      rw [← HY.out] at hbd
      have e1 : IntKind.u64.wrap ((y : Int) * 256) = ((y * 256 : Nat) : Int) := by
        rw [show (y : Int) * 256 = ((y * 256 : Nat) : Int) by omega, swrapM, Nat.mod_eq_of_lt (by omega)]
      have hi : ((j + 1 : Nat) : Int) - 1 = (j : Int) := by omega
      rw [hi]
      have hd0 : (0 : Int) ≤ (j : Int) := by omega
      by_cases hlt : j < l.length
      · obtain ⟨b, o, rfl, hc⟩ := HRD.out.at (by omega)
        have cx := hc j _ (u8s_at l j hlt)
        have hb : l.getD j 0 < 256 := by
          rw [List.getD_eq_getElem?_getD, List.getElem?_eq_getElem hlt]; exact HL.out _ (List.getElem_mem hlt)
        have hstep : leN ((l.take 8).drop j) = l.getD j 0 + 256 * y := by
          have hlt' : j < (l.take 8).length := by rw [List.length_take]; omega
          rw [List.drop_eq_getElem_cons hlt', HY.out]
          simp only [leN]
          rw [List.getElem_take, List.getD_eq_getElem?_getD, List.getElem?_eq_getElem hlt]
          rfl
        generalize l.getD j 0 = x at *
        have e2 : IntKind.u64.wrap (((y * 256 : Nat) : Int) + (x : Int)) = ((x + 256 * y : Nat) : Int) := by
          rw [show ((y * 256 : Nat) : Int) + (x : Int) = ((x + 256 * y : Nat) : Int) by omega, swrapM, Nat.mod_eq_of_lt (by omega)]
        have e3 := swrapN x (by omega)
        have HS := Lib.hid hstep
        clear hstep hc HRD HL HR HY
        generalize x + 256 * y = z at *
        generalize y * 256 = u at *
        go_wp2_with fail
        go_round
        case rel => exact ⟨j, z, by omega, rfl, rfl, Lib.hid HS.out.symm⟩
        case measure => simp [intOf]
      · have hstep : leN ((l.take 8).drop j) = 0 ∧ y = 0 := by
          have h2 : (l.take 8).drop j = [] := List.drop_eq_nil_of_le (by rw [List.length_take]; omega)
          have h3 : (l.take 8).drop (j + 1) = [] := List.drop_eq_nil_of_le (by rw [List.length_take]; omega)
          rw [HY.out, h2, h3]; exact ⟨rfl, rfl⟩
        obtain ⟨h1, rfl⟩ := hstep
        have HS := Lib.hid h1
        clear h1 e1 hbd
        go_wp2_with fail
        go_round
        case rel => exact ⟨j, 0, by omega, rfl, rfl, Lib.hid HS.out.symm⟩
        case measure => simp [intOf]
    · obtain rfl : k = 0 := by omega
      obtain rfl : y = R := HY.out.trans HR.out.symm
      go_wp2_with fail
      go_ret
      exact ⟨rfl, rfl⟩

theorem xall_lt {v : V4} (h : v.ok) : xall v < 18446744073709551616 := xor_lt (xor_lt (xor_lt h.1 h.2.1) h.2.2.1) h.2.2.2

set_option maxRecDepth 100000 in
set_option maxHeartbeats 2000000 in
theorem all_any (v : V4) (hv : v.ok) (w : World) :
    Calls Tryd.prog 44 #[aggV v] w fun e w' => e = .returned (.int .u64 (xall v : Nat)) ∧ Below w.heap.size w w' := by
  have e1 := sxorN v.a v.b hv.1 hv.2.1
  have l1 := xor_lt hv.1 hv.2.1
  have e2 := sxorN (v.a ^^^ v.b) v.c l1 hv.2.2.1
  have l2 := xor_lt l1 hv.2.2.1
  have e3 := sxorN ((v.a ^^^ v.b) ^^^ v.c) v.d l2 hv.2.2.2
  unfold xall aggV
  generalize ((v.a ^^^ v.b) ^^^ v.c) ^^^ v.d = x3 at *
  generalize (v.a ^^^ v.b) ^^^ v.c = x2 at *
  generalize v.a ^^^ v.b = x1 at *
  clear hv l1 l2
  go_enter Tryd.func44, Tryd.ntmps44
  go_wp2
  go_ret
  exact ⟨rfl, (Below.refl _ _).alloc (Nat.le_refl _) _⟩

set_option maxRecDepth 100000 in
set_option maxHeartbeats 2000000 in
theorem rounds_8 (w : World) :
    Calls Tryd.prog 26 #[.int .i64 8] w fun e w' => e = .returned (.tuple #[.int .i64 2, .int .i64 4]) ∧ w' = w := by
  go_enter Tryd.func26, Tryd.ntmps26
  go_wp2
  go_ret2
  exact ⟨rfl, rfl⟩

end Go.Proofs.YtgnbgjdkhnhlkaaDoor
