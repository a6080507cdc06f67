/-
  Numbers as bytes: load.Put64, the document's Bytes.
-/
import Derived.Test.YtgnbgjdkhnhlkaaDoorDrv2
namespace Go.Proofs.YtgnbgjdkhnhlkaaDoor
open Go.RowKit
set_option linter.unusedVariables false
set_option linter.unusedSimpArgs false

/-- a number's bytes, the lowest first -/
def byN (n : Nat) : Nat → List Nat
  | 0 => []
  | k + 1 => byN n k ++ [n / 256 ^ k % 256]
theorem byN_len (n : Nat) : ∀ k, (byN n k).length = k
  | 0 => rfl
  | k + 1 => by simp [byN, byN_len n k]
theorem byN_byt (n : Nat) : ∀ k, Byt (byN n k)
  | 0 => by intro b hb; simp [byN] at hb
  | k + 1 => by
    intro b hb
    simp only [byN, List.mem_append, List.mem_singleton] at hb
    rcases hb with hb | rfl
    · exact byN_byt n k b hb
    · exact Nat.mod_lt _ (by decide)

theorem app_u8 (W : World) {ops : Array Oper} {rest : List Oper} {o : Oper} {a : Act} {Q : Exit → Act → World → Prop} (hgd : o.guard = none) (s x : Operand)
    (ho : o.op = .call { callee := .builtin .append, args := #[s, x], argTypes := #[49, 49] })
    (base : Nat) (v : Value) (n : Nat) (xs : List Value) (hs : a.eval s = v) (hown : W.ownsRow base 5 1 v n xs)
    (g : Nat) (y : Int) (hx : a.eval x = .slice (some ⟨g, 0, none⟩) 1 1) (hg : g = W.heap.size) (hn : n ≤ 1000000) (hbase : base ≤ W.heap.size)
    (h : ∀ v' w', w'.ownsRow base 5 1 v' (n + 1) (xs ++ [.int .u8 y]) → Chg (fun k => v.ownBlock = some k) W w' → (∀ k, v'.ownBlock = some k → v.ownBlock = some k ∨ W.heap.size ≤ k) → wpList Tryd.prog ops Q rest (a.put o.dst v') w') :
    wpList Tryd.prog ops Q (o :: rest) a (W.alloc (.cells #[.int .u8 y] 5)) := by
  obtain ⟨i0, hi, hz0, hz1, hz2⟩ := info_parts info_u8
  exact app1 W hgd s x _ ho base _ i0 _ 1 Tryd.underlying49 hi hz0 hz1 hz2 rfl v n xs hs hown g _ hx hg rfl (by unfold maxLen; omega) (by omega) hbase h

theorem u8wrap (m : Nat) : IntKind.u8.wrap (m : Int) = ((m % 256 : Nat) : Int) := by rw [IntKind.wrap_u8]; omega

set_option maxRecDepth 100000 in
set_option maxHeartbeats 4000000 in
theorem refbytes_any (n : Nat) (hn : n < 18446744073709551616) (w : World) :
    Calls Tryd.prog 24 #[.int .u64 (n : Int), .int .i64 8] w fun e w' => ∃ sa cap, e = .returned (.slice sa 8 cap) ∧ w'.ownsRow w.heap.size 5 1 (.slice sa 8 cap) 8 (u8s (byN n 8)) ∧ Below w.heap.size w w' := by
  have HN := Lib.hid hn; clear hn
  go_enter Tryd.func24, Tryd.ntmps24
  go_wp2
  go_loopw [0, 5, 6] (fun x v i wr => ∃ (k y : Nat) (sa : Option Addr) (cap : Nat), k ≤ 8 ∧ i = .int .i64 (k : Int) ∧ x = .int .u64 (y : Int) ∧ v = .slice sa k cap ∧ Hid (y = n / 256 ^ k) ∧ Hid (wr.ownsRow w.heap.size 5 1 (.slice sa k cap) k (u8s (byN n k))) ∧ Hid (Below w.heap.size w wr)) (fun _ _ i _ => 8 - (intOf i).toNat)
  case atStart => exact ⟨0, n, none, 0, by omega, rfl, rfl, rfl, Lib.hid (by simp), World.ownsRow_nil _ _ _ _, Below.refl _ w⟩
  case round =>
    obtain ⟨k, y, sa, cap, hk, rfl, rfl, rfl, HY, HO, HB⟩ := hrel
    by_cases hlt : k < 8
    · have hsz := HB.out.size
      have hnx : byN n (k + 1) = byN n k ++ [y % 256] := by rw [HY.out]; rfl
      have hy2 : y / 256 = n / 256 ^ (k + 1) := by rw [HY.out, Nat.div_div_eq_div_mul, Nat.pow_succ]
      have e1 : IntKind.u8.wrap (((y % 256 : Nat) : Int)) = ((y % 256 : Nat) : Int) := by rw [u8wrap, Nat.mod_mod]
      have e2 : (y : Int) % 256 = ((y % 256 : Nat) : Int) := by omega
      have e3 : Int.tmod (y : Int) 256 = ((y % 256 : Nat) : Int) := by rw [Int.tmod_eq_emod_of_nonneg (by omega)]; exact e2
      have e4 : (y : Int) / 256 = ((y / 256 : Nat) : Int) := by omega
      have e5 : Int.tdiv (y : Int) 256 = ((y / 256 : Nat) : Int) := by rw [Int.tdiv_eq_ediv_of_nonneg (by omega)]; exact e4
      have hyn : y ≤ n := by rw [HY.out]; exact Nat.div_le_self _ _
      have e6 : IntKind.u64.wrap (((y / 256 : Nat) : Int)) = ((y / 256 : Nat) : Int) := swrapN _ (by have := HN.out; omega)
      have HNX := Lib.hid hnx; have HY2 := Lib.hid hy2
      clear hnx hy2 hyn
      generalize y % 256 = r at *
      generalize y / 256 = z at *
      go_wp2_with (at_builtin; refine app_u8 _ rfl _ _ rfl w.heap.size _ _ _ rfl HO.out _ _ rfl ?qg ?qn ?qb ?_)
      case qg => rfl
      case qn => omega
      case qb => exact hsz
      intro v' w2 hown hchg hfresh
      obtain ⟨sa', cap', rfl⟩ := (rd_of_row hown).form
      have hb2 := HB.out.trans (hchg.below (B := w.heap.size) hsz fun i hi => (HO.out.lt i hi).1)
      rw [← u8s_snoc, ← HNX.out] at hown
      have HO2 := Lib.hid hown; have HB2 := Lib.hid hb2
      clear hown hchg hfresh hb2
      go_wp2
      go_roundw
      case rel => exact ⟨k + 1, z, sa', cap', by omega, by go_num, rfl, by go_num, HY2, HO2, HB2⟩
      case measure => simp [intOf]; omega
    · obtain rfl : k = 8 := by omega
      go_wp2
      go_ret
      exact ⟨sa, cap, rfl, HO.out, HB.out⟩

set_option maxRecDepth 100000 in
set_option maxHeartbeats 4000000 in
theorem put_nil (n : Nat) (hn : n < 18446744073709551616) (w : World) :
    Calls Tryd.prog 31 #[.slice none 0 0, .int .u64 (n : Int), .int .i64 8] w fun e w' => ∃ sa cap, e = .returned (.slice sa 8 cap) ∧ w'.ownsRow w.heap.size 5 1 (.slice sa 8 cap) 8 (u8s (byN n 8)) ∧ Below w.heap.size w w' := by
  have HN := Lib.hid hn; clear hn
  go_enter Tryd.func31, Tryd.ntmps31
  go_wp2
  go_loopw [0, 1, 14] (fun v x i wr => ∃ (k y : Nat) (sa : Option Addr) (cap : Nat), k ≤ 8 ∧ i = .int .i64 (k : Int) ∧ x = .int .u64 (y : Int) ∧ v = .slice sa k cap ∧ Hid (y = n / 256 ^ k) ∧ Hid (wr.ownsRow w.heap.size 5 1 (.slice sa k cap) k (u8s (byN n k))) ∧ Hid (Below w.heap.size w wr)) (fun _ _ i _ => 8 - (intOf i).toNat)
  case atStart => exact ⟨0, n, none, 0, by omega, rfl, rfl, rfl, Lib.hid (by simp), World.ownsRow_nil _ _ _ _, Below.refl _ w⟩
  case round =>
    obtain ⟨k, y, sa, cap, hk, rfl, rfl, rfl, HY, HO, HB⟩ := hrel
    by_cases hlt : k < 8
    · have hsz := HB.out.size
      have hnx : byN n (k + 1) = byN n k ++ [y % 256] := by rw [HY.out]; rfl
      have hy2 : y / 256 = n / 256 ^ (k + 1) := by rw [HY.out, Nat.div_div_eq_div_mul, Nat.pow_succ]
      have e1 : IntKind.u8.wrap (y : Int) = ((y % 256 : Nat) : Int) := u8wrap y
      have e4 : (y : Int) / 256 = ((y / 256 : Nat) : Int) := by omega
      have hyn : y ≤ n := by rw [HY.out]; exact Nat.div_le_self _ _
      have e6 : IntKind.u64.wrap (((y / 256 : Nat) : Int)) = ((y / 256 : Nat) : Int) := swrapN _ (by have := HN.out; omega)
      have HNX := Lib.hid hnx; have HY2 := Lib.hid hy2
      clear hnx hy2 hyn
      generalize y % 256 = r at *
      generalize y / 256 = z at *
      go_wp2_with (at_builtin; refine app_u8 _ rfl _ _ rfl w.heap.size _ _ _ rfl HO.out _ _ rfl ?qg ?qn ?qb ?_)
      case qg => rfl
      case qn => omega
      case qb => exact hsz
      intro v' w2 hown hchg hfresh
      obtain ⟨sa', cap', rfl⟩ := (rd_of_row hown).form
      have hb2 := HB.out.trans (hchg.below (B := w.heap.size) hsz fun i hi => (HO.out.lt i hi).1)
      rw [← u8s_snoc, ← HNX.out] at hown
      have HO2 := Lib.hid hown; have HB2 := Lib.hid hb2
      clear hown hchg hfresh hb2
      go_wp2
      go_roundw
      case rel => exact ⟨k + 1, z, sa', cap', by omega, by go_num, rfl, by go_num, HY2, HO2, HB2⟩
      case measure => simp [intOf]; omega
    · obtain rfl : k = 8 := by omega
      go_wp2
      go_ret
      exact ⟨sa, cap, rfl, HO.out, HB.out⟩

set_option maxRecDepth 100000 in
set_option maxHeartbeats 2000000 in
theorem put64_nil (n : Nat) (hn : n < 18446744073709551616) (w : World) :
    Calls Tryd.prog 22 #[.slice none 0 0, .int .u64 (n : Int)] w fun e w' => ∃ sa cap, e = .returned (.slice sa 8 cap) ∧ w'.ownsRow w.heap.size 5 1 (.slice sa 8 cap) 8 (u8s (byN n 8)) ∧ Below w.heap.size w w' := by
  have C := put_nil n hn w
  have HC := Lib.hid C; clear C
  go_enter Tryd.func22, Tryd.ntmps22
  go_wp2_with fail
  refine HC.out.mono ?_
  rintro e w' ⟨sa, cap, rfl, ho, hb⟩
  have HO := Lib.hid ho; have HB := Lib.hid hb
  clear ho hb
  go_wp2_with fail
  go_ret
  exact ⟨sa, cap, rfl, HO.out, HB.out⟩

/-- the key of a number -/
def numK (k : Nat × Nat) (n : Nat) : Nat × Nat := sipH k.1 k.2 (byN n 8 ++ [110])

end Go.Proofs.YtgnbgjdkhnhlkaaDoor
