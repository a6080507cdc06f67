/-
  pdqsort's pivot at few distinct words.
-/
import Derived.Test.YtamjhblhkabpaaaSo2
namespace Go.Proofs.Ytamjhblhkabpaaa
open Go.RowKit
set_option linter.unusedVariables false
set_option linter.unusedSimpArgs false

set_option maxRecDepth 100000 in
set_option maxHeartbeats 4000000 in
theorem medianU_any (w : World) (g n cap i j k cb c : Nat) (L : List Int) (h : RowU w g n cap L) (hi : i < n) (hj : j < n) (hk : k < n) (h16 : n ≤ 16) (hc : w.heap[cb]? = some (.cells #[.int .i64 (c : Int)] 3 (0, 0))) (hc6 : c ≤ 6) (hne : cb ≠ g) :
    Calls Try.prog 42 #[.slice (some ⟨g, 0, none⟩) n cap, .int .i64 i, .int .i64 j, .int .i64 k, .pointer (some ⟨cb, 0, none⟩)] w fun e w' => ∃ m c' : Nat, e = .returned (.int .i64 m) ∧ (m = i ∨ m = j ∨ m = k) ∧ c' ≤ c + 3 ∧ w'.heap[cb]? = some (.cells #[.int .i64 (c' : Int)] 3 (0, 0)) ∧ Chg (fun k => k = cb) w w' := by
  have C1 := order2U_any w g n cap i j cb c L h hi hj h16 hc (by omega) hne
  have HR := Lib.hid h
  clear hc h
  go_enter Try.func42, Try.ntmps42
  go_wp2_with fail
  refine C1.mono ?_
  rintro e w1 ⟨i1, j1, c1, rfl, hi1, hj1, ho1, ho2, hc1, hb1, hch1⟩
  have HR1 := Lib.hid (HR.out.same (hch1.block g (HR.out.ptr (by omega)).2.1 (by omega)))
  have HC1 := Lib.hid hch1
  have C2 := order2U_any w1 g n cap j1 k cb c1 L HR1.out hj1 hk h16 hb1 (by omega) hne
  clear C1 hb1 hch1
  go_wp2_with fail
  refine C2.mono ?_
  rintro e w2 ⟨j2, k2, c2, rfl, hj2, hk2, ho3, ho4, hc2, hb2, hch2⟩
  have HR2 := Lib.hid (HR1.out.same (hch2.block g (HR1.out.ptr (by omega)).2.1 (by omega)))
  have HC2 := Lib.hid (HC1.out.trans hch2)
  have C3 := order2U_any w2 g n cap i1 j2 cb c2 L HR2.out hi1 hj2 h16 hb2 (by omega) hne
  clear C2 hb2 hch2 HC1 HR1
  go_wp2_with fail
  refine C3.mono ?_
  rintro e w3 ⟨i3, j3, c3, rfl, hi3, hj3, ho5, ho6, hc3, hb3, hch3⟩
  have HC3 := Lib.hid (HC2.out.trans hch3)
  have HB3 := Lib.hid hb3
  clear C3 hb3 hch3 HC2 HR2
  go_wp2
  go_ret
  exact ⟨j3, c3, rfl, by omega, by omega, HB3.out, HC3.out⟩

theorem alloc_new (w : World) (o : Obj) : ∃ W, W = w.alloc o ∧ W.heap.size = w.heap.size + 1 ∧ W.heap[w.heap.size]? = some o ∧ ∀ k, k < w.heap.size → W.heap[k]? = w.heap[k]? :=
  ⟨_, rfl, by simp, heap_alloc_new w o, fun k hk => Below.heap_alloc _ _ _ hk⟩

set_option maxRecDepth 100000 in
set_option maxHeartbeats 4000000 in
theorem pivotU_any (w : World) (g n cap a b : Nat) (L : List Int) (h : RowU w g n cap L) (hab : a + 8 ≤ b) (hb : b ≤ n) (h16 : n ≤ 16) :
    Calls Try.prog 30 #[.slice (some ⟨g, 0, none⟩) n cap, .int .i64 a, .int .i64 b] w fun e w' => ∃ (p : Nat) (hint : Int), e = .returned (.tuple #[.int .i64 p, .int .i64 hint]) ∧ a ≤ p ∧ p < b ∧ (hint = 0 ∨ hint = 1) ∧ Below w.heap.size w w' := by
  obtain ⟨W1, e1, s1, n1, k1⟩ := alloc_new w (.cells #[.int .i64 0] 3)
  have hg := (h.ptr (by omega)).2.1
  have hR1 : RowU W1 g n cap L := h.same (k1 _ hg)
  have hb1 : Below w.heap.size w W1 := by rw [e1]; exact (Below.refl _ w).alloc (Nat.le_refl _) _
  obtain ⟨l, hl⟩ : ∃ l, l = b - a := ⟨_, rfl⟩
  have hsub : (b : Int) - (a : Int) = (l : Int) := by omega
  obtain ⟨q, hq⟩ : ∃ q : Nat, q = l / 4 := ⟨_, rfl⟩
  have hdiv : Int.tdiv (l : Int) 4 = (q : Int) := by
    rw [hq]; simp
  obtain ⟨q2, hq2⟩ : ∃ q2, q2 = q * 2 := ⟨_, rfl⟩
  obtain ⟨q3, hq3⟩ : ∃ q3, q3 = q * 3 := ⟨_, rfl⟩
  have C := medianU_any W1 g n cap (a + q) (a + q2) (a + q3) w.heap.size 0 L hR1 (by omega) (by omega) (by omega) h16 n1 (by omega) (by omega)
  rw [show ((a + q : Nat) : Int) = (a : Int) + (q : Int) by omega, show ((a + q2 : Nat) : Int) = (a : Int) + (q2 : Int) by omega, show ((a + q3 : Nat) : Int) = (a : Int) + (q3 : Int) by omega] at C
  have q4 : q ≤ 4 := by omega
  have v1 : IntKind.i64.wrap ((q : Int) * 2) = (q2 : Int) := by rw [IntKind.wrap_i64]; omega
  have v2 : IntKind.i64.wrap ((q : Int) * 3) = (q3 : Int) := by rw [IntKind.wrap_i64]; omega
  have HE : Hid (W1 = w.alloc (.cells #[.int .i64 0] 3)) := e1
  have HB := Lib.hid hb1
  have l8 : (8 : Int) ≤ (l : Int) := by omega
  have l50 : ¬ (50 : Int) ≤ (l : Int) := by omega
  have HC := Lib.hid C
  have HL : Hid (l = b - a ∧ q = l / 4 ∧ q2 = q * 2 ∧ q3 = q * 3) := ⟨hl, hq, hq2, hq3⟩
  have b2 : q2 ≤ 16 := by omega
  have b3 : q3 ≤ 16 := by omega
  clear e1 n1 k1 h hR1 hb1 hl hq C hq2 hq3
  go_enter Try.func30, Try.ntmps30
  go_wp2_with (go_at_call 42; rw [← HE.out]; refine HC.out.mono ?_; rintro e w5 ⟨m, c5, rfl, hm, hc5, hb5, hch5⟩; have k5 := cell_of hb5 0 rfl; have hlow : Below w.heap.size w w5 := HB.out.trans (hch5.below (by omega) (fun k hk => by omega)); have HLOW := Lib.hid hlow; have hmb : a ≤ m ∧ m < b := (by have := HL.out; omega); have z12 : ((c5 : Int) == 12) = false := (by rw [beq_eq_false_iff_ne]; omega); clear hb5 hch5 hlow)
  · go_ret2
    exact ⟨m, 1, rfl, hmb.1, hmb.2, .inr rfl, HLOW.out⟩
  · go_ret2
    exact ⟨m, 0, rfl, hmb.1, hmb.2, .inl rfl, HLOW.out⟩

end Go.Proofs.Ytamjhblhkabpaaa
