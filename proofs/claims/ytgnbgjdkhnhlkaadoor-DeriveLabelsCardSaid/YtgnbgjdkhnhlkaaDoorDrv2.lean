/-
  Keys of labels: derive.Child, the document's Child.
-/
import Derived.Test.YtgnbgjdkhnhlkaaDoorDrv1
import Derived.Laws.AppendOwn
namespace Go.Proofs.YtgnbgjdkhnhlkaaDoor
open Go.RowKit
set_option linter.unusedVariables false
set_option linter.unusedSimpArgs false

theorem bsN_append (a b : ByteArray) : bsN (a ++ b) = bsN a ++ bsN b := by
  simp [bsN, ByteArray.data_append]
theorem size_append' (a b : ByteArray) : (a ++ b).size = a.size + b.size := by
  rw [← bsN_len, ← bsN_len, ← bsN_len, bsN_append, List.length_append]
theorem bytesWorld_below (w : World) (e : TypeId) (s : ByteArray) : Below w.heap.size w (Lib.bytesWorld w e s) :=
  ⟨rfl, rfl, rfl, by rw [Lib.bytesWorld_size]; omega, fun k hk => Lib.bytesWorld_at_old w e s k hk⟩
theorem conv_any : ∀ (w : World) (s : ByteArray), (convert 9 49 (.string s)).run Tryd.prog w = .ok (.slice (some ⟨w.heap.size, 0, none⟩) s.size (grownCap w s.size 0 5)) (Lib.bytesWorld w 5 s) :=
  fun w s => Lib.run_convert_string_bytes w _ _ _ s Tryd.underlying9 Tryd.underlying49 Tryd.underlying5
theorem conv_rd (w : World) (s : ByteArray) (hs : s.size ≤ 100000) : Rd (Lib.bytesWorld w 5 s) 1 (.slice (some ⟨w.heap.size, 0, none⟩) s.size (grownCap w s.size 0 5)) s.size (u8s (bsN s)) := by
  refine ⟨by rw [u8s_len, bsN_len, Nat.mul_one], by unfold maxLen; omega, _, _, rfl, grownCap_ge w _ _ _, .inr ⟨_, 0, rfl, fun i u hu => ?_⟩⟩
  by_cases hi : i < s.size
  · rw [Nat.zero_add, Lib.bytesWorld_cell w _ s i hi, ← hu]
    simp [u8s, bsN, List.getD, Lib.data_getElem? s i hi]
  · rw [List.getElem?_eq_none (by rw [u8s_len, bsN_len]; omega)] at hu; cases hu

theorem lab108 (s : ByteArray) : bsN (s ++ ⟨#[108]⟩) = bsN s ++ [108] := by rw [bsN_append]; rfl
theorem sz108 (s : ByteArray) : (s ++ (⟨#[108]⟩ : ByteArray)).size = s.size + 1 := by rw [size_append']; rfl

/-- the boxes of a function that takes a key and answers one -/
structure KBox (w w1 : World) (hi lo : Nat) : Prop where
  key : w1.heap[w.heap.size]? = some (.cells #[.int .u64 (hi : Int), .int .u64 (lo : Int)] 24 (0, 0))
  res : w1.heap[w.heap.size + 1]? = some (.cells #[.int .u64 0, .int .u64 0] 24 (0, 0))
  bel : Below w.heap.size w w1
theorem KBox.start (w : World) (hi lo : Nat) : KBox w ((w.alloc (.cells #[.int .u64 (hi : Int), .int .u64 (lo : Int)] 24)).alloc (.cells #[.int .u64 0, .int .u64 0] 24)) hi lo := by
  refine ⟨?_, ?_, ((Below.refl _ _).alloc (Nat.le_refl _) _).alloc (by simp) _⟩
  · rw [Below.heap_alloc _ _ _ (by simp)]; exact heap_alloc_new _ _
  · have := heap_alloc_new (w.alloc (.cells #[.int .u64 (hi : Int), .int .u64 (lo : Int)] 24)) (.cells #[.int .u64 0, .int .u64 0] 24)
    simpa using this
theorem KBox.below {w w1 w2 : World} {hi lo : Nat} (h : KBox w w1 hi lo) (hb : Below w1.heap.size w1 w2) : KBox w w2 hi lo :=
  ⟨(hb.block _ (block_lt h.key)).trans h.key, (hb.block _ (block_lt h.res)).trans h.res, h.bel.trans (hb.mono h.bel.size)⟩
theorem KBox.cells {w w1 : World} {hi lo : Nat} (h : KBox w w1 hi lo) : w1.cell? ⟨w.heap.size, 0, none⟩ = some (.int .u64 (hi : Int)) ∧ w1.cell? ⟨w.heap.size, 1, none⟩ = some (.int .u64 (lo : Int)) :=
  ⟨cell_of h.key 0 rfl, cell_of h.key 1 rfl⟩
theorem KBox.rcells {w w1 : World} {hi lo : Nat} (h : KBox w w1 hi lo) : w1.cell? ⟨w.heap.size + 1, 0, none⟩ = some (.int .u64 0) ∧ w1.cell? ⟨w.heap.size + 1, 1, none⟩ = some (.int .u64 0) ∧ w1.frozen? ⟨w.heap.size + 1, 0, none⟩ = false ∧ w1.frozen? ⟨w.heap.size + 1, 1, none⟩ = false :=
  ⟨cell_of h.res 0 rfl, cell_of h.res 1 rfl, frozen_of h.res 0, frozen_of h.res 1⟩
theorem KBox.ends {w w1 : World} {hi lo : Nat} (h : KBox w w1 hi lo) (v0 v1 : Value) : Below w.heap.size w ((w1.setCell ⟨w.heap.size + 1, 0, none⟩ v0).setCell ⟨w.heap.size + 1, 1, none⟩ v1) :=
  (h.bel.setCell (by simp) _).setCell (by simp) _

set_option maxRecDepth 100000 in
set_option maxHeartbeats 2000000 in
theorem refchild_any (hi lo : Nat) (h1 : hi < 18446744073709551616) (h2 : lo < 18446744073709551616) (s : ByteArray) (hs : s.size ≤ 1000) (w : World) :
    Calls Tryd.prog 18 #[u128 (hi, lo), .string s] w fun e w' => e = .returned (u128 (childK (hi, lo) (bsN s))) ∧ Below w.heap.size w w' := by
  have hcv := conv_any
  obtain ⟨W0, hW0⟩ : ∃ W0, W0 = (w.alloc (.cells #[.int .u64 (hi : Int), .int .u64 (lo : Int)] 24)).alloc (.cells #[.int .u64 0, .int .u64 0] 24) := ⟨_, rfl⟩
  have hst := KBox.start w hi lo
  have hsz : W0.heap.size = w.heap.size + 1 + 1 := by rw [hW0]; simp
  rw [← hW0] at hst
  have hrd := conv_rd W0 (s ++ ⟨#[108]⟩) (by rw [sz108]; omega)
  rw [sz108, hsz, lab108] at hrd
  have C := refone_any hi lo h1 h2 (bsN s ++ [108]) (by rw [← lab108]; exact byt_bsN _) _ _ _ hrd (by omega)
  have hb2 := hst.below (bytesWorld_below W0 5 (s ++ ⟨#[108]⟩))
  rw [show sipH hi lo (bsN s ++ [108]) = childK (hi, lo) (bsN s) from rfl] at C
  generalize childK (hi, lo) (bsN s) = R at *
  obtain ⟨r1, r2⟩ := R
  simp only [u128] at *
  rw [hW0] at hrd C hb2
  have HC := Lib.hid C; have HB2 := Lib.hid hb2
  clear hrd C hb2 hst hsz hW0
  go_enter Tryd.func18, Tryd.ntmps18
  go_wp2_with fail
  refine HC.out.mono ?_
  rintro e w3 ⟨rfl, hb3⟩
  have HB3 := Lib.hid (HB2.out.below hb3)
  clear hb3 HB2 HC
  obtain ⟨d0, d1, q0, q1⟩ := HB3.out.rcells
  go_wp2_with fail
  refine bodyPost_ret (v := u128 (r1, r2)) (by simp [u128, results, Tryd.results18, go_sem, d0, d1]) rfl ⟨?_, HB3.out.ends _ _⟩
  exact (rfl : _ = _)

/-- what Child answers -/
def childA (k : Nat × Nat) (l : List Nat) : Nat × Nat := if labE l = 0 then childK k l else (0, 0)

set_option maxRecDepth 100000 in
set_option maxHeartbeats 2000000 in
theorem child_any (hi lo : Nat) (h1 : hi < 18446744073709551616) (h2 : lo < 18446744073709551616) (s : ByteArray) (w : World) :
    Calls Tryd.prog 13 #[u128 (hi, lo), .string s] w fun e w' => e = .returned (.tuple #[u128 (childA (hi, lo) (bsN s)), .int .i64 (labE (bsN s) : Nat)]) ∧ Below w.heap.size w w' := by
  have hcv := conv_any
  have CL := fun W => label_any s W
  have hst := KBox.start w hi lo
  by_cases hE : labE (bsN s) = 0
  · have hs : s.size ≤ 64 := by
      unfold labE at hE
      rw [bsN_len] at hE
      split at hE
      · cases hE
      · split at hE
        · cases hE
        · omega
    obtain ⟨W0, hW0⟩ : ∃ W0, W0 = (w.alloc (.cells #[.int .u64 (hi : Int), .int .u64 (lo : Int)] 24)).alloc (.cells #[.int .u64 0, .int .u64 0] 24) := ⟨_, rfl⟩
    have hsz : W0.heap.size = w.heap.size + 1 + 1 := by rw [hW0]; simp
    rw [← hW0] at hst
    have hrd := conv_rd W0 (s ++ ⟨#[108]⟩) (by rw [sz108]; omega)
    rw [sz108, hsz, lab108] at hrd
    have C := one_any hi lo h1 h2 (bsN s ++ [108]) (by rw [← lab108]; exact byt_bsN _) _ _ _ hrd (by omega)
    have hb2 := hst.below (bytesWorld_below W0 5 (s ++ ⟨#[108]⟩))
    have hA : childA (hi, lo) (bsN s) = sipH hi lo (bsN s ++ [108]) := by unfold childA; rw [if_pos hE]; rfl
    rw [← hA] at C
    rw [hE] at CL ⊢
    generalize childA (hi, lo) (bsN s) = R at *
    obtain ⟨r1, r2⟩ := R
    simp only [u128] at *
    have k := hst.cells
    rw [hW0] at hrd C hb2 hst
    have HC := Lib.hid C; have HB2 := Lib.hid hb2; have HCL := Lib.hid CL
    clear hrd C hb2 hst hsz hW0 hE hA CL k
    go_enter Tryd.func13, Tryd.ntmps13
    go_wp2_with fail
    refine (HCL.out _).mono ?_
    rintro e w' ⟨rfl, rfl⟩
    go_wp2_with fail
    refine HC.out.mono ?_
    rintro e w3 ⟨rfl, hb3⟩
    have HB3 := Lib.hid (HB2.out.below hb3)
    clear hb3 HB2 HC
    obtain ⟨d0, d1, q0, q1⟩ := HB3.out.rcells
    go_wp2_with fail
    refine bodyPost_ret (v := .tuple #[u128 (r1, r2), .int .i64 0]) (by simp [u128, results, Tryd.results13, go_sem, d0, d1]) rfl ⟨?_, HB3.out.ends _ _⟩
    exact (rfl : _ = _)
  · have hA : childA (hi, lo) (bsN s) = (0, 0) := by unfold childA; rw [if_neg hE]
    rw [hA]
    have hne : (((labE (bsN s) : Nat) : Int) != 0) = true := by rw [bne_iff_ne]; omega
    generalize labE (bsN s) = E at *
    have HCL := Lib.hid CL; have HB := Lib.hid hst
    clear CL hst hA hE
    simp only [u128]
    go_enter Tryd.func13, Tryd.ntmps13
    go_wp2_with fail
    refine (HCL.out _).mono ?_
    rintro e w' ⟨rfl, rfl⟩
    go_wp2_with fail
    refine bodyPost_ret (v := .tuple #[u128 (0, 0), .int .i64 (E : Int)]) (by simp [u128, results, Tryd.results13, go_sem]) rfl ⟨?_, HB.out.bel⟩
    exact (rfl : _ = _)

end Go.Proofs.YtgnbgjdkhnhlkaaDoor
