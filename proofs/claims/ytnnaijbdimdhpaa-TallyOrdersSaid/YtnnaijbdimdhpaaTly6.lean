/-
  tally.Mask.
-/
import Derived.Test.YtnnaijbdimdhpaaTly5
namespace Go.Proofs.Ytnnaijbdimdhpaa
open Go.RowKit Go.Shelf
set_option linter.unusedVariables false

set_option maxRecDepth 100000 in
set_option maxHeartbeats 2000000 in
theorem maskTell_any (b n x nb bb : Nat) (W : World) (hb : b ≤ 12) (hn : n ≤ 4096) (hx : x < 4096) (cn : W.cell? ⟨nb, 0, none⟩ = some (.int .u64 n)) (cb : W.cell? ⟨bb, 0, none⟩ = some (.int .i64 b)) :
    Calls Try.prog 45 #[.int .u64 x, .pointer (some ⟨bb, 0, none⟩), .pointer (some ⟨nb, 0, none⟩)] W fun e W' => e = .returned (.tuple #[.int .u64 (x % 2 ^ b : Nat), .bool (maskT (2 ^ b) n x).isSome]) ∧ Below W.heap.size W W' := by
  obtain ⟨N, hN⟩ : ∃ N, N = 2 ^ b := ⟨_, rfl⟩
  have hN64 : N ≤ 4096 := by rw [hN]; exact Nat.pow_le_pow_right (j := 12) (by omega) hb
  have hpw : IntKind.u64.wrap ((2 : Int) ^ b) = (N : Int) := by
    rw [show ((2 : Int) ^ b) = (N : Int) by rw [hN]; simp, IntKind.wrap_u64]; omega
  have hband : bits .and .u64 (x : Int) ((N : Int) - 1) = ((x % N : Nat) : Int) := by
    have hN1 : 0 < 2 ^ b := Nat.two_pow_pos b
    rw [show ((N : Int) - 1) = (((2 ^ b - 1 : Nat)) : Int) by rw [hN]; omega, bits_and_u64_nat _ _ (by omega) (by rw [← hN]; omega), Nat.and_two_pow_sub_one_eq_mod, hN]
  have hN0 : 0 < N := by rw [hN]; exact Nat.two_pow_pos b
  obtain ⟨r, hr⟩ : ∃ r, r = x % N := ⟨_, rfl⟩
  have ht : (maskT N n x).isSome = decide (r < n) := by
    unfold maskT
    rw [← hr]
    by_cases h : r < n
    · rw [if_pos h]; simp [h]
    · rw [if_neg h]; simp [h]
  rw [← hr] at hband
  rw [← hN, ht, ← hr]
  clear hN hr ht
  go_enter Try.func45, Try.ntmps45
  go_wp2
  go_region
  all_goals go_wp2
  refine bodyPost_ret (results_tmp2 rfl _ _ _) rfl ?_
  exact ⟨rfl, (Below.refl _ W).drew⟩

/-- how many bits hold numbers below n: at most 12 of them -/
def bitT (n : Nat) : Nat → Nat → Nat
  | 0, b => b
  | f + 1, b => if 2 ^ b < n then bitT n f (b + 1) else b

theorem bitT_spec (n : Nat) : ∀ f b, b + f = 12 → n ≤ 4096 → (b = 0 ∨ 2 ^ (b - 1) < n) → n ≤ 2 ^ bitT n f b ∧ (bitT n f b = 0 ∨ 2 ^ (bitT n f b - 1) < n) ∧ bitT n f b ≤ 12 := by
  intro f
  induction f with
  | zero =>
    intro b hb hn h
    obtain rfl : b = 12 := by omega
    exact ⟨hn, h, Nat.le_refl _⟩
  | succ f ih =>
    intro b hb hn h
    simp only [bitT]
    split
    · exact ih (b + 1) (by omega) hn (.inr (by simpa using ‹2 ^ b < n›))
    · exact ⟨by omega, h, by omega⟩

theorem cntL_mask {N s n q : Nat} (hq : N = s * q) (hs : n ≤ s) : cntL (maskT s n) n (List.range N) = List.replicate n (q : Int) := by
  apply List.ext_getElem
  · simp [cntL]
  · intro j h1 h2
    have hj : j < n := by simpa [cntL] using h1
    simp only [cntL, List.getElem_map, List.getElem_range, List.getElem_replicate]
    rw [mask_each hq hs hj]

theorem cntN_mask {N s n q : Nat} (hq : N = s * q) (hs : n ≤ s) : n * q + cntN (maskT s n) (List.range N) = N := mask_lost hq hs

set_option maxRecDepth 100000 in
set_option maxHeartbeats 2000000 in
theorem mask_ok (m n : Nat) (w : World) (hm1 : 1 ≤ m) (hm : m ≤ 12) (hn0 : 0 < n) (hnN : n ≤ 2 ^ m) :
    Calls Try.prog 12 #[.int .i64 m, .int .u64 n] w fun e w' =>
      ∃ b c, b ≤ 12 ∧ n ≤ 2 ^ b ∧ (b = 0 ∨ 2 ^ (b - 1) < n) ∧ e = .returned (.tuple #[.slice (some ⟨c, 0, none⟩) n n, .int .u64 (cntN (maskT (2 ^ b) n) (List.range (2 ^ m))), .int .i64 0]) ∧
        Rd w' 1 (.slice (some ⟨c, 0, none⟩) n n) n (u64s (cntL (maskT (2 ^ b) n) n (List.range (2 ^ m)))) ∧ Below w.heap.size w w' := by
  have hN64 : 2 ^ m ≤ 4096 := Nat.pow_le_pow_right (n := 2) (j := 12) (by omega) hm
  have hn64 : n ≤ 4096 := by omega
  obtain ⟨W1, e1, s1, n1, k1⟩ := alloc_facts w (.cells #[.int .u64 n] 22)
  obtain ⟨W2, e2, s2, n2, k2⟩ := alloc_facts W1 (.cells #[.int .i64 0] 3)
  rw [s1] at n2 s2
  have hb2 : Below w.heap.size w W2 := by rw [e2, e1]; exact ((Below.refl _ w).alloc (Nat.le_refl _) _).alloc (by simp) _
  have g1 : W2.heap[w.heap.size]? = some (.cells #[.int .u64 n] 22 (0, 0)) := (k2 _ (by omega)).trans n1
  have hev : ∀ (b : Nat) (V : World), b ≤ 12 → n ≤ 2 ^ b → V.heap[w.heap.size]? = some (.cells #[.int .u64 n] 22 (0, 0)) → V.heap[w.heap.size + 1]? = some (.cells #[.int .i64 b] 3 (0, 0)) → _ := fun b V hb hnb h1 h2 =>
    even_ok m n 45 #[.pointer (some ⟨w.heap.size + 1, 0, none⟩), .pointer (some ⟨w.heap.size, 0, none⟩)] (maskT (2 ^ b) n) V (enters_of Try.func45 (by kernel_rfl) rfl) hm1 hm hn0 hnN
      (fun x v hx h => by
        unfold maskT at h
        split at h
        · exact (Option.some.inj h) ▸ ‹_›
        · cases h)
      (fun x W hx hbW => (maskTell_any b n x w.heap.size (w.heap.size + 1) W hb hn64 (by omega) ((hbW.cell (p := ⟨w.heap.size, 0, none⟩) (block_lt h1)).trans (cell0_of h1)) ((hbW.cell (p := ⟨w.heap.size + 1, 0, none⟩) (block_lt h2)).trans (cell0_of h2))).mono (by
        rintro e W' ⟨he, hb'⟩
        refine ⟨_, he, fun v hv => ?_, hb'⟩
        unfold maskT at hv
        split at hv
        · exact Option.some.inj hv
        · cases hv))
  go_enter Try.func12, Try.ntmps12
  go_wp2
  rw [← e1, ← e2]
  go_loopw [] (fun wr => ∃ b : Nat, b ≤ 12 ∧ Hid (b = 0 ∨ 2 ^ (b - 1) < n) ∧ wr.heap[w.heap.size]? = some (.cells #[.int .u64 n] 22 (0, 0)) ∧ wr.heap[w.heap.size + 1]? = some (.cells #[.int .i64 b] 3 (0, 0)) ∧ Hid (Below w.heap.size w wr))
    (fun wr => match wr.cell? ⟨w.heap.size + 1, 0, none⟩ with | some (.int _ z) => 12 - z.toNat | _ => 0)
  case atStart => exact ⟨0, by omega, .inl rfl, g1, n2, hb2⟩
  case round =>
    obtain ⟨b, hb, HB1, h1, h2, HW⟩ := hrel
    have c1 := cell0_of h1
    have c2 := cell0_of h2
    have f2 := frozen_of h2 0
    obtain ⟨N, hN⟩ : ∃ N, N = 2 ^ b := ⟨_, rfl⟩
    have hNb : N ≤ 4096 := by rw [hN]; exact Nat.pow_le_pow_right (n := 2) (j := 12) (by omega) hb
    have hpw : IntKind.u64.wrap ((2 : Int) ^ b) = (N : Int) := by
      rw [show ((2 : Int) ^ b) = (N : Int) by rw [hN]; simp, IntKind.wrap_u64]; omega
    by_cases hlt : N < n
    · have hb12 : b < 12 := by
        refine Nat.lt_of_le_of_ne hb fun e => ?_
        rw [e] at hN
        omega
      have HB2 : Hid (b + 1 = 0 ∨ 2 ^ (b + 1 - 1) < n) := .inr (by rw [Nat.add_sub_cancel, ← hN]; exact hlt)
      have hs2 := set_of h2 0 (.int .i64 ((b : Int) + 1))
      have H1 := Lib.hid h1; have H2 := Lib.hid h2; have HS2 := Lib.hid hs2
      clear hN h1 h2 hs2 hev hnN hN64 HB1
      go_wp2
      go_region
      all_goals go_wp2
      refine ⟨⟨b + 1, by omega, HB2, (Below.heap_setCell _ _ _ _ (by show w.heap.size ≠ w.heap.size + 1; omega)).trans H1.out, by have := HS2.out; rw [show (#[Value.int .i64 (b : Int)].setIfInBounds 0 (.int .i64 ((b : Int) + 1))) = #[.int .i64 (((b + 1 : Nat)) : Int)] from rfl] at this; exact this, (HW.out.setCell (by show w.heap.size ≤ w.heap.size + 1; omega) _).drew⟩, ?_⟩
      have e := World.cell?_setCell_same' (w := wr) (a := ⟨w.heap.size + 1, 0, none⟩) (v := .int .i64 ((b : Int) + 1)) (by rw [c2]; rfl)
      rw [show (wr.setCell ⟨w.heap.size + 1, 0, none⟩ (.int .i64 ((b : Int) + 1))).drew.cell? ⟨w.heap.size + 1, 0, none⟩ = some (.int .i64 ((b : Int) + 1)) from e, c2]
      simp only
      omega
    · have hnb : n ≤ 2 ^ b := by omega
      have hcall := hev b wr.drew hb hnb h1 h2
      have HP := HB1
      generalize hR1 : ((cntN (maskT (2 ^ b) n) (List.range (2 ^ m)) : Nat) : Int) = R1 at hcall ⊢
      have HN := Lib.hid hN
      have HNB := Lib.hid hnb
      have HR := Lib.hid hR1
      clear hN hnb hR1 hev hN64 hnN h1 h2
      go_wp2
      go_region
      all_goals go_wp2_with (go_at_call 43; refine hcall.mono ?_; rintro e w' ⟨q, rfl, hr, hbq⟩)
      refine bodyPost_ret (results_tmp3 rfl _ _ _) rfl ?_
      exact ⟨b, q, hb, HNB.out, HP.out, by rw [HR.out]; rfl, hr, HW.out.drew.trans (hbq.mono HW.out.size)⟩

end Go.Proofs.Ytnnaijbdimdhpaa
