/-
  pdqsort's breaking of patterns at few words: a row is moved within a part.
-/
import Derived.Test.YtamjhblhkabpaaaSo1
import Derived.Test.YtamjhblhkabpaaaSo3
import Derived.Test.YtamjhblhkabpaaaShelf
namespace Go.Proofs.Ytamjhblhkabpaaa
open Go.RowKit
set_option linter.unusedVariables false
set_option linter.unusedSimpArgs false

theorem pow2_few : ∀ l : Nat, 8 ≤ l → l ≤ 16 → 1 ≤ 1 <<< Go.Sort.bitsLen l ∧ 1 <<< Go.Sort.bitsLen l ≤ 2 * l := by
  have h : ∀ l : Nat, l < 17 → 8 ≤ l → 1 ≤ 1 <<< Go.Sort.bitsLen l ∧ 1 <<< Go.Sort.bitsLen l ≤ 2 * l := by decide
  exact fun l h1 h2 => h l (by omega) h1

theorem nextU_any (w : World) (rb X : Nat) (hX : X < 18446744073709551616) (hc : w.heap[rb]? = some (.cells #[.int .u64 (X : Int)] 74 (0, 0))) :
    Calls Try.prog 40 #[.pointer (some ⟨rb, 0, none⟩)] w fun e w' => ∃ Y : Nat, Y < 18446744073709551616 ∧ e = .returned (.int .u64 (Y : Int)) ∧ w'.heap[rb]? = some (.cells #[.int .u64 (Y : Int)] 74 (0, 0)) ∧ Chg (fun k => k = rb) w w' := by
  refine (Try.xorshift_Next rb 0 X hX w (cell_of hc 0 rfl) (frozen_of hc 0)).mono ?_
  rintro e w' ⟨rfl, rfl⟩
  exact ⟨_, Go.Sort.xorNextN_lt X hX, rfl, by rw [drewN_heap, set_of hc 0 _]; rfl, ((Chg.refl (fun k => k = rb) w).setCell (p := ⟨rb, 0, none⟩) (.inl rfl) _).drewN 3⟩

set_option maxRecDepth 100000 in
set_option maxHeartbeats 4000000 in
theorem breakU_any (w : World) (g n cap a b : Nat) (L : List Int) (h : RowU w g n cap L) (hnd : L.Nodup) (hab : a + 8 ≤ b) (hb : b ≤ n) (h16 : n ≤ 16) :
    Calls Try.prog 29 #[.slice (some ⟨g, 0, none⟩) n cap, .int .i64 a, .int .i64 b] w fun e w' => e = .returned (.tuple #[]) ∧ ∃ L', Seg a b L L' ∧ RowU w' g n cap L' ∧ Chg (fun k => k = g) w w' := by
  obtain ⟨l, hl⟩ : ∃ l, l = b - a := ⟨_, rfl⟩
  have hsub : (b : Int) - (a : Int) = (l : Int) := by omega
  obtain ⟨W1, e1, s1, n1, k1⟩ := alloc_new w (.cells #[.int .u64 (l : Int)] 74)
  have hg := (h.ptr (by omega)).2.1
  have hR1 : Hid (RowU W1 g n cap L) := h.same (k1 _ hg)
  have hC1 : Hid (Chg (fun k => k = g) w W1) := by rw [e1]; exact (Chg.refl _ w).alloc _
  obtain ⟨q, hq⟩ : ∃ q : Nat, q = l / 4 := ⟨_, rfl⟩
  have hdiv : Int.tdiv (l : Int) 4 = (q : Int) := by
    rw [hq]; simp
  obtain ⟨q2, hq2⟩ : ∃ q2, q2 = q * 2 := ⟨_, rfl⟩
  have v1 : IntKind.i64.wrap ((q : Int) * 2) = (q2 : Int) := by rw [IntKind.wrap_i64]; omega
  have HE : Hid (W1 = w.alloc (.cells #[.int .u64 (l : Int)] 74)) := e1
  have l8 : (8 : Int) ≤ (l : Int) := by omega
  obtain ⟨M, hM⟩ : ∃ M, M = 1 <<< Go.Sort.bitsLen l := ⟨_, rfl⟩
  have hpw := pow2_few l (by omega) (by omega)
  have HP := fun W => Try.nextPowerOfTwo l (by omega) W
  rw [← hM] at hpw
  rw [← hM] at HP
  obtain ⟨m, hm⟩ : ∃ m, M = m + 1 := ⟨M - 1, by omega⟩
  have hm2 : IntKind.u64.wrap ((M : Int) - 1) = (m : Int) := by simp [IntKind.wrap, IntKind.bits, IntKind.signed]; omega
  have HPP := Lib.hid HP
  have HN1 : Hid (W1.heap[w.heap.size]? = some (.cells #[.int .u64 (l : Int)] 74 (0, 0))) := n1
  have HL : Hid (l = b - a ∧ q = l / 4 ∧ q2 = q * 2 ∧ M ≤ 2 * l ∧ M = m + 1) := ⟨hl, hq, hq2, hpw.2, hm⟩
  have HND := Lib.hid hnd
  have w64 : IntKind.u64.wrap (l : Int) = (l : Int) := by simp [IntKind.wrap, IntKind.bits, IntKind.signed]; omega
  have b1 : q2 ≤ 8 := by omega
  have b2 : 4 ≤ q2 := by omega
  have b3 : a + q2 + 2 ≤ b := by omega
  have b4 : M ≤ 32 := by omega
  have b5 : a ≤ 16 := by omega
  have b6 : b ≤ 16 := by omega
  have b7 : l ≤ 16 := by omega
  have q4 : q ≤ 4 := by omega
  obtain ⟨i0, hi0⟩ : ∃ i0 : Nat, (a : Int) + (q2 : Int) - 1 = (i0 : Int) := ⟨a + q2 - 1, by omega⟩
  clear e1 n1 k1 h hl hq HP hM hq2 hpw hm hnd
  go_enter Try.func29, Try.ntmps29
  go_wp2_with (go_at_call 39; rw [← HE.out]; refine (HPP.out _).mono ?_; rintro e w2 ⟨rfl, rfl⟩)
  go_loopw [9, 10] (fun u v wx => ∃ (i X : Nat) (L2 : List Int), u = .int .i64 i ∧ i0 ≤ i ∧ i ≤ i0 + 3 ∧ X < 18446744073709551616 ∧ Hid (wx.heap[w.heap.size]? = some (.cells #[.int .u64 (X : Int)] 74 (0, 0))) ∧ Hid (Seg a b L L2) ∧ Hid (RowU wx g n cap L2) ∧ Hid (Chg (fun k => k = g) w wx)) (fun u v _ => i0 + 3 - (intOf u).toNat)
  case atStart => exact ⟨i0, l, L, rfl, Nat.le_refl _, by omega, by omega, HN1, Seg.refl _ _ _, hR1, hC1⟩
  case round =>
    clear hR1 hC1 HE HN1
    obtain ⟨i, X, L2, rfl, hi1, hi2, hX, HB, HS, HR, HC⟩ := hrel
    by_cases hlt : i ≤ i0 + 2
    · have zi : (i : Int) ≤ (a : Int) + (q2 : Int) + 1 := by omega
      have HNX := Lib.hid (nextU_any wr w.heap.size X hX HB.out)
      go_wp2_with fail
      refine HNX.out.mono ?_
      rintro e w3 ⟨Y, hY, rfl, hB3, hC3⟩
      have hR3 : RowU w3 g n cap L2 := HR.out.same (hC3.block g (HR.out.ptr (by omega)).2.1 (by omega))
      have hCC : Chg (fun k => k = g) w w3 := HC.out.trans' hC3 (fun k hk hk2 => by omega)
      obtain ⟨hLn, hg', hcap', hcell, hfz⟩ := hR3.ptr (by omega)
      obtain ⟨o, ho⟩ : ∃ o, o = Y &&& m := ⟨_, rfl⟩
      have hand := bits_and_u64_nat Y m hY (by have := HL.out; omega)
      rw [← ho] at hand
      have hom : o ≤ m := by rw [ho]; exact Nat.and_le_right
      have ho2 : o < 2 * l := by have := HL.out; omega
      have hll : l = b - a := HL.out.1
      have o64 : IntKind.i64.wrap (o : Int) = (o : Int) := by rw [IntKind.wrap_i64]; omega
      clear ho hom HL HPP
      by_cases hol : o < l
      · have zo : ¬ (l : Int) ≤ (o : Int) := by omega
        obtain ⟨k, hk⟩ : ∃ k : Nat, (a : Int) + (o : Int) = (k : Int) := ⟨a + o, by omega⟩
        have hka : a ≤ k := by omega
        have hkb : k < b := by omega
        have hia : a ≤ i := by omega
        have hib : i < b := by omega
        have ci := hcell i (by omega)
        have ck := hcell k (by omega)
        have fi := hfz i
        have fk := hfz k
        have zi0 : (0 : Int) ≤ (i : Int) := by omega
        have zin : (i : Int) < (n : Int) := by omega
        have zk0 : (0 : Int) ≤ (k : Int) := by omega
        have zkn : (k : Int) < (n : Int) := by omega
        have hs := hR3.swap (i := i) (j := k) (by omega) (by omega)
        have hsg := HS.out.trans (seg_swp (a := a) (b := b) (i := i) (j := k) (HS.out.nodup HND.out) (by omega) (by omega) (by omega))
        obtain ⟨L9, hL9⟩ : ∃ L9, L9 = swp L2 i k := ⟨_, rfl⟩
        rw [← hL9] at hs hsg
        generalize L2.getD i 0 = y at *
        generalize L2.getD k 0 = x9 at *
        obtain ⟨v2, hv2⟩ := cell?_setCell_some (p := ⟨g, i, none⟩) (x := .int .u64 x9) (q := ⟨g, k, none⟩) (v := .int .u64 x9) ck
        have HSW := Lib.hid hs; have HSG2 := Lib.hid hsg; have HB3 := Lib.hid hB3; have HC3 := Lib.hid hCC
        clear hcell hfz hs hsg hL9 hLn hR3 hB3 hCC hC3 HS HR HC HB HNX hi0 hdiv v1 hsub hll
        go_wp2_with fail
        go_region
        go_wp2_with fail
        go_roundw
        case rel => exact ⟨i + 1, Y, L9, by go_num, by omega, by omega, hY, by show _ = _; rw [show ((((w3.setCell ⟨g, i, none⟩ (.int .u64 x9)).setCell ⟨g, k, none⟩ (.int .u64 y)).drew).heap[w.heap.size]?) = w3.heap[w.heap.size]? from ((Below.heap_setCell _ _ _ _ (show w.heap.size ≠ g by omega)).trans (Below.heap_setCell _ _ _ _ (show w.heap.size ≠ g by omega)))]; exact HB3.out, HSG2, HSW.out.drew, ((HC3.out.setCell (p := ⟨g, i, none⟩) (.inl rfl) _).setCell (p := ⟨g, k, none⟩) (.inl rfl) _).drew⟩
        case measure => simp [intOf]; omega
      · have zo : (l : Int) ≤ (o : Int) := by omega
        obtain ⟨x, hx⟩ : ∃ x : Nat, (o : Int) - (l : Int) = (x : Int) := ⟨o - l, by omega⟩
        obtain ⟨k, hk⟩ : ∃ k : Nat, (a : Int) + (x : Int) = (k : Int) := ⟨a + x, by omega⟩
        have hka : a ≤ k := by omega
        have hkb : k < b := by omega
        have hia : a ≤ i := by omega
        have hib : i < b := by omega
        have ci := hcell i (by omega)
        have ck := hcell k (by omega)
        have fi := hfz i
        have fk := hfz k
        have zi0 : (0 : Int) ≤ (i : Int) := by omega
        have zin : (i : Int) < (n : Int) := by omega
        have zk0 : (0 : Int) ≤ (k : Int) := by omega
        have zkn : (k : Int) < (n : Int) := by omega
        have hs := hR3.swap (i := i) (j := k) (by omega) (by omega)
        have hsg := HS.out.trans (seg_swp (a := a) (b := b) (i := i) (j := k) (HS.out.nodup HND.out) (by omega) (by omega) (by omega))
        obtain ⟨L9, hL9⟩ : ∃ L9, L9 = swp L2 i k := ⟨_, rfl⟩
        rw [← hL9] at hs hsg
        generalize L2.getD i 0 = y at *
        generalize L2.getD k 0 = x9 at *
        obtain ⟨v2, hv2⟩ := cell?_setCell_some (p := ⟨g, i, none⟩) (x := .int .u64 x9) (q := ⟨g, k, none⟩) (v := .int .u64 x9) ck
        have HSW := Lib.hid hs; have HSG2 := Lib.hid hsg; have HB3 := Lib.hid hB3; have HC3 := Lib.hid hCC
        clear hcell hfz hs hsg hL9 hLn hR3 hB3 hCC hC3 HS HR HC HB HNX hi0 hdiv v1 hsub hll
        go_wp2_with fail
        go_region
        go_wp2_with fail
        go_roundw
        case rel => exact ⟨i + 1, Y, L9, by go_num, by omega, by omega, hY, by show _ = _; rw [show ((((w3.setCell ⟨g, i, none⟩ (.int .u64 x9)).setCell ⟨g, k, none⟩ (.int .u64 y)).drew).heap[w.heap.size]?) = w3.heap[w.heap.size]? from ((Below.heap_setCell _ _ _ _ (show w.heap.size ≠ g by omega)).trans (Below.heap_setCell _ _ _ _ (show w.heap.size ≠ g by omega)))]; exact HB3.out, HSG2, HSW.out.drew, ((HC3.out.setCell (p := ⟨g, i, none⟩) (.inl rfl) _).setCell (p := ⟨g, k, none⟩) (.inl rfl) _).drew⟩
        case measure => simp [intOf]; omega
    · have zi : ¬ (i : Int) ≤ (a : Int) + (q2 : Int) + 1 := by omega
      go_wp2_with fail
      go_end0
      exact ⟨rfl, L2, HS.out, HR.out, HC.out⟩

end Go.Proofs.Ytamjhblhkabpaaa
