/-
  The reference's find; the sampler's rows of numbers (down, up).
-/
import Derived.Test.YtcoohepkmhpdkaaGreatAli4
namespace Go.Proofs.YtcoohepkmhpdkaaGreat
open Go.RowKit
set_option linter.unusedVariables false
set_option linter.unusedSimpArgs false

theorem hit_less {T : Nat} {s : StA} {i : Nat} : hitA (fun x => decide (x < T)) s i = (!(s.dn.getD i true) && decide (s.has.getD i 0 < T)) := rfl
theorem hit_more {T : Nat} {s : StA} {i : Nat} : hitA (fun x => decide (T < x)) s i = (!(s.dn.getD i true) && decide (T < s.has.getD i 0)) := rfl

set_option maxRecDepth 100000 in
set_option maxHeartbeats 2000000 in
theorem find_less (w : World) (vh vd : Value) (n T : Nat) (s : StA) (hh : Rd w 1 vh n (u64s (zsN s.has))) (hd : Rd w 1 vd n (bools s.dn)) (hn : n ≤ 256) :
    Calls Tryz.prog 74 #[vh, vd, .int .u64 (T : Int), .bool false] w fun e w' => e = .returned (.int .i64 (ixA (lessA T s))) ∧ w = w' := by
  have lh : s.has.length = n := by have := hh.len_u64; rw [zsN_len] at this; exact this.symm
  have ld : s.dn.length = n := by have := hd.1; rw [bools_len] at this; omega
  obtain ⟨sh, ch, rfl⟩ := hh.form
  obtain ⟨sd, cd, rfl⟩ := hd.form
  have HH := Lib.hid hh; have HD := Lib.hid hd; have LH := Lib.hid lh; have LD := Lib.hid ld
  clear hh hd lh ld
  go_enter Tryz.func74, Tryz.ntmps74
  go_wp2
  go_loop [13] (fun i => ∃ k : Nat, k ≤ n ∧ i = .int .i64 (k : Int) ∧ Hid (∀ t, t < k → hitA (fun x => decide (x < T)) s t = false)) (fun i => n - (intOf i).toNat)
  case atStart => exact ⟨0, Nat.zero_le _, rfl, Lib.hid fun t ht => by omega⟩
  case round =>
    obtain ⟨k, hk, rfl, HI⟩ := hrel
    by_cases hlt : k < n
    · obtain ⟨b1, o1, rfl, hc1⟩ := HH.out.at (by omega)
      obtain ⟨b2, o2, rfl, hc2⟩ := HD.out.at (by omega)
      have x1 := hc1 k _ (u64s_at (zsN s.has) k (by rw [zsN_len, LH.out]; exact hlt))
      have x2 := hc2 k _ (bools_at s.dn k (by rw [LD.out]; exact hlt))
      rw [zsN_get] at x1
      have hhit := hit_less (T := T) (s := s) (i := k)
      generalize s.has.getD k 0 = x at *
      have hall : ∀ b : Bool, hitA (fun x => decide (x < T)) s k = b → b = false → Hid (∀ t, t < k + 1 → hitA (fun x => decide (x < T)) s t = false) := fun b hb hf t ht => by
        by_cases h : t = k
        · rw [h, hb, hf]
        · exact HI.out t (by omega)
      cases hdn : s.dn.getD k true with
      | true =>
        rw [hdn] at x2 hhit
        have HN := hall _ hhit rfl
        clear hdn hhit hall hc1 hc2
        go_wp2
        go_round
        case rel => exact ⟨k + 1, by omega, by go_num, HN⟩
        case measure => simp [intOf]; omega
      | false =>
        rw [hdn] at x2 hhit
        by_cases hx : x < T
        · have HX := Lib.hid (hhit.trans (show (!false && decide (x < T)) = true by simp [hx]))
          have hx' : (x : Int) < (T : Int) := by omega
          clear hdn hhit hall hc1 hc2 hx
          go_wp2
          go_ret
          refine ⟨ret_int ?_, rfl⟩
          unfold lessA
          rw [fst_at (by rw [LD.out]; exact hlt) HX.out HI.out]
          rfl
        · have HN := hall _ hhit (by simp [hx])
          have hx' : ¬ (x : Int) < (T : Int) := by omega
          clear hdn hhit hall hc1 hc2 hx
          go_wp2
          go_round
          case rel => exact ⟨k + 1, by omega, by go_num, HN⟩
          case measure => simp [intOf]; omega
    · obtain rfl : k = n := by omega
      go_wp2
      go_ret
      refine ⟨ret_int ?_, rfl⟩
      unfold lessA
      rw [fst_no (by rw [LD.out]; exact HI.out)]
      rfl

set_option maxRecDepth 100000 in
set_option maxHeartbeats 2000000 in
theorem find_more (w : World) (vh vd : Value) (n T : Nat) (s : StA) (hh : Rd w 1 vh n (u64s (zsN s.has))) (hd : Rd w 1 vd n (bools s.dn)) (hn : n ≤ 256) :
    Calls Tryz.prog 74 #[vh, vd, .int .u64 (T : Int), .bool true] w fun e w' => e = .returned (.int .i64 (ixA (moreA T s))) ∧ w = w' := by
  have lh : s.has.length = n := by have := hh.len_u64; rw [zsN_len] at this; exact this.symm
  have ld : s.dn.length = n := by have := hd.1; rw [bools_len] at this; omega
  obtain ⟨sh, ch, rfl⟩ := hh.form
  obtain ⟨sd, cd, rfl⟩ := hd.form
  have HH := Lib.hid hh; have HD := Lib.hid hd; have LH := Lib.hid lh; have LD := Lib.hid ld
  clear hh hd lh ld
  go_enter Tryz.func74, Tryz.ntmps74
  go_wp2
  go_loop [13] (fun i => ∃ k : Nat, k ≤ n ∧ i = .int .i64 (k : Int) ∧ Hid (∀ t, t < k → hitA (fun x => decide (T < x)) s t = false)) (fun i => n - (intOf i).toNat)
  case atStart => exact ⟨0, Nat.zero_le _, rfl, Lib.hid fun t ht => by omega⟩
  case round =>
    obtain ⟨k, hk, rfl, HI⟩ := hrel
    by_cases hlt : k < n
    · obtain ⟨b1, o1, rfl, hc1⟩ := HH.out.at (by omega)
      obtain ⟨b2, o2, rfl, hc2⟩ := HD.out.at (by omega)
      have x1 := hc1 k _ (u64s_at (zsN s.has) k (by rw [zsN_len, LH.out]; exact hlt))
      have x2 := hc2 k _ (bools_at s.dn k (by rw [LD.out]; exact hlt))
      rw [zsN_get] at x1
      have hhit := hit_more (T := T) (s := s) (i := k)
      generalize s.has.getD k 0 = x at *
      have hall : ∀ b : Bool, hitA (fun x => decide (T < x)) s k = b → b = false → Hid (∀ t, t < k + 1 → hitA (fun x => decide (T < x)) s t = false) := fun b hb hf t ht => by
        by_cases h : t = k
        · rw [h, hb, hf]
        · exact HI.out t (by omega)
      cases hdn : s.dn.getD k true with
      | true =>
        rw [hdn] at x2 hhit
        have HN := hall _ hhit rfl
        clear hdn hhit hall hc1 hc2
        go_wp2
        go_round
        case rel => exact ⟨k + 1, by omega, by go_num, HN⟩
        case measure => simp [intOf]; omega
      | false =>
        rw [hdn] at x2 hhit
        by_cases hx : T < x
        · have HX := Lib.hid (hhit.trans (show (!false && decide (T < x)) = true by simp [hx]))
          have hx' : (T : Int) < (x : Int) := by omega
          clear hdn hhit hall hc1 hc2 hx
          go_wp2
          go_ret
          refine ⟨ret_int ?_, rfl⟩
          unfold moreA
          rw [fst_at (by rw [LD.out]; exact hlt) HX.out HI.out]
          rfl
        · have HN := hall _ hhit (by simp [hx])
          have hx' : ¬ (T : Int) < (x : Int) := by omega
          clear hdn hhit hall hc1 hc2 hx
          go_wp2
          go_round
          case rel => exact ⟨k + 1, by omega, by go_num, HN⟩
          case measure => simp [intOf]; omega
    · obtain rfl : k = n := by omega
      go_wp2
      go_ret
      refine ⟨ret_int ?_, rfl⟩
      unfold moreA
      rw [fst_no (by rw [LD.out]; exact HI.out)]
      rfl

/-- numbers from one down -/
def dnL (a m : Nat) : List Nat := (List.range m).map fun i => a - i
theorem dnL_len (a m : Nat) : (dnL a m).length = m := by simp [dnL]
theorem dnL_succ (a m : Nat) : dnL a (m + 1) = dnL a m ++ [a - m] := by simp [dnL, List.range_succ]
/-- numbers from one up -/
def upL (a m : Nat) : List Nat := (List.range m).map fun i => a + i
theorem upL_len (a m : Nat) : (upL a m).length = m := by simp [upL]
theorem upL_succ (a m : Nat) : upL a (m + 1) = upL a m ++ [a + m] := by simp [upL, List.range_succ]

set_option maxRecDepth 100000 in
set_option maxHeartbeats 2000000 in
theorem sdown_any (w : World) (a : Nat) (b : Int) (m : Nat) (ha : a ≤ 256) (hb0 : -1000 ≤ b) (hb1 : b ≤ 1000) (hma : m ≤ a) (hm : ∀ i : Nat, i < m ↔ b ≤ (a : Int) - (i : Int)) :
    Calls Tryz.prog 54 #[.int .i64 (a : Int), .int .i64 b] w fun e w' => ∃ sa cap, e = .returned (.slice sa m cap) ∧ w'.ownsRow w.heap.size 48 1 (.slice sa m cap) m (u64s (zsN (dnL a m))) ∧ Below w.heap.size w w' := by
  have HM := Lib.hid hm
  clear hm
  go_enter Tryz.func54, Tryz.ntmps54
  go_wp2
  go_loopw [5, 6] (fun v s wr => ∃ (c i : Nat) (sa : Option Addr) (cap : Nat), c ≤ 256 ∧ i ≤ m ∧ s = .int .i64 (c : Int) ∧ v = .slice sa i cap ∧ Hid (a = c + i) ∧ Hid (wr.ownsRow w.heap.size 48 1 (.slice sa i cap) i (u64s (zsN (dnL a i)))) ∧ Hid (Below w.heap.size w wr)) (fun _ s _ => (intOf s).toNat)
  case atStart => exact ⟨a, 0, none, 0, ha, Nat.zero_le _, rfl, rfl, Lib.hid rfl, World.ownsRow_nil _ _ _ _, Below.refl _ _⟩
  case round =>
    obtain ⟨c, i, sa, cap, hc, hi, rfl, rfl, HCI, HO, HB⟩ := hrel
    by_cases hlt : i < m
    · have hbc : b ≤ (c : Int) := by have h1 := (HM.out i).1 hlt; have h2 := HCI.out; omega
      have hc1 : 1 ≤ c := by have h2 := HCI.out; omega
      obtain ⟨d, rfl⟩ : ∃ d, c = d + 1 := ⟨c - 1, by omega⟩
      have hs : dnL a (i + 1) = dnL a i ++ [d + 1] := by rw [dnL_succ]; have h2 := HCI.out; rw [show a - i = d + 1 by omega]
      have HS := Lib.hid hs; clear hs hc1
      have e1 : (((d + 1 : Nat) : Int)) = (d : Int) + 1 := by omega
      have u1 : IntKind.u64.wrap ((d : Int) + 1) = (d : Int) + 1 := by rw [IntKind.wrap_u64]; omega
      go_wp2_with (at_builtin; refine app_u64 _ rfl _ _ rfl w.heap.size _ _ _ rfl HO.out _ _ rfl ?qg ?qn ?qb ?_)
      case qg => rfl
      case qn => omega
      case qb => exact HB.out.size
      intro v' w1 hown hchg hfresh
      obtain ⟨sa', cap', rfl⟩ := (rd_of_row hown).form
      rw [← u64s_snoc] at hown
      have hz : zsN (dnL a i) ++ [(d : Int) + 1] = zsN (dnL a (i + 1)) := by rw [HS.out, zsN_snoc]; rfl
      rw [hz] at hown
      have HO1 := Lib.hid hown; have HC1 := Lib.hid hchg
      clear hown hchg hfresh hz
      go_wp2
      go_roundw
      case rel => exact ⟨d, i + 1, sa', cap', by omega, by omega, by go_num, rfl, Lib.hid (by have := HCI.out; omega), HO1, HB.out.trans (HC1.out.below HB.out.size fun i hi => (HO.out.lt i hi).1)⟩
      case measure => simp [intOf]
    · obtain rfl : i = m := by omega
      have hbc : ¬ b ≤ (c : Int) := by
        have h1 := fun h => (HM.out i).2 h
        have h2 := HCI.out
        intro h
        exact absurd (h1 (by omega)) (Nat.lt_irrefl _)
      go_wp2
      go_ret
      exact ⟨sa, cap, rfl, HO.out, HB.out⟩

set_option maxRecDepth 100000 in
set_option maxHeartbeats 2000000 in
theorem sup_any (w : World) (a b m : Nat) (ha : a ≤ 257) (hb : b ≤ 256) (hm : a + m = b + 1) :
    Calls Tryz.prog 59 #[.int .i64 (a : Int), .int .i64 (b : Int)] w fun e w' => ∃ sa cap, e = .returned (.slice sa m cap) ∧ w'.ownsRow w.heap.size 48 1 (.slice sa m cap) m (u64s (zsN (upL a m))) ∧ Below w.heap.size w w' := by
  have HM := Lib.hid hm
  clear hm
  go_enter Tryz.func59, Tryz.ntmps59
  go_wp2
  go_loopw [5, 6] (fun v s wr => ∃ (c i : Nat) (sa : Option Addr) (cap : Nat), c ≤ 257 ∧ i ≤ 257 ∧ s = .int .i64 (c : Int) ∧ v = .slice sa i cap ∧ Hid (c = a + i ∧ i ≤ m) ∧ Hid (wr.ownsRow w.heap.size 48 1 (.slice sa i cap) i (u64s (zsN (upL a i)))) ∧ Hid (Below w.heap.size w wr)) (fun _ s _ => 258 - (intOf s).toNat)
  case atStart => exact ⟨a, 0, none, 0, ha, by omega, rfl, rfl, Lib.hid ⟨rfl, Nat.zero_le _⟩, World.ownsRow_nil _ _ _ _, Below.refl _ _⟩
  case round =>
    obtain ⟨c, i, sa, cap, hc, hi, rfl, rfl, HCI, HO, HB⟩ := hrel
    by_cases hlt : c ≤ b
    · have hs : upL a (i + 1) = upL a i ++ [c] := by rw [upL_succ]; have h2 := HCI.out; rw [h2.1]
      have HS := Lib.hid hs; clear hs
      have u1 : IntKind.u64.wrap (c : Int) = (c : Int) := by rw [IntKind.wrap_u64]; omega
      go_wp2_with (at_builtin; refine app_u64 _ rfl _ _ rfl w.heap.size _ _ _ rfl HO.out _ _ rfl ?qg ?qn ?qb ?_)
      case qg => rfl
      case qn => omega
      case qb => exact HB.out.size
      intro v' w1 hown hchg hfresh
      obtain ⟨sa', cap', rfl⟩ := (rd_of_row hown).form
      rw [← u64s_snoc, ← zsN_snoc, ← HS.out] at hown
      have HO1 := Lib.hid hown; have HC1 := Lib.hid hchg
      clear hown hchg hfresh
      go_wp2
      go_roundw
      case rel => exact ⟨c + 1, i + 1, sa', cap', by omega, by have := HCI.out; have := HM.out; omega, by go_num, rfl, Lib.hid (by have := HCI.out; have := HM.out; omega), HO1, HB.out.trans (HC1.out.below HB.out.size fun i hi => (HO.out.lt i hi).1)⟩
      case measure => simp [intOf]; omega
    · obtain rfl : i = m := by have := HCI.out; have := HM.out; omega
      go_wp2
      go_ret
      exact ⟨sa, cap, rfl, HO.out, HB.out⟩

end Go.Proofs.YtcoohepkmhpdkaaGreat
