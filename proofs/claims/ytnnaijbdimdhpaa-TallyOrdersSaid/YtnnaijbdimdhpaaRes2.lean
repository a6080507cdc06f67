/-
  The program's reservoirs: each, Slots, Order; the references' Slots and Order.
-/
import Derived.Test.YtnnaijbdimdhpaaRes
namespace Go.Proofs.Ytnnaijbdimdhpaa
open Go.RowKit
set_option linter.unusedVariables false

theorem ent_slots1 (args : Array Value) (w : World) : (callFunc 87 args).run Try.prog w = .ok (.enter 87 args) w :=
  enters Try.func87 (by kernel_rfl) (by kernel_rfl) args w
set_option maxRecDepth 100000 in
set_option maxHeartbeats 1000000 in
/-- each: what it hands over to a function that keeps an invariant -/
theorem each_any (w0 w : World) (k : Nat) (vd : Value) (nd : Nat) (d : List Int) (F : Nat) (caps : Array Value) (inv : Nat → World → Prop) (hr : Rd w0 1 vd nd (i64s d)) (hk : k ≤ 1000) (hd : d.length ≤ 1000)
    (hF : ∀ args w, (callFunc F args).run Try.prog w = .ok (.enter F args) w)
    (hb : ∀ i w, inv i w → Below w0.heap.size w0 w) (h0 : inv 0 w)
    (hstep : ∀ i w, i < d.length → inv i w → Calls Try.prog F (#[.int .i64 ((k : Int) + (i : Int)), .int .i64 (d.getD i 0)] ++ caps) w fun e w' => e = .returned (.tuple #[]) ∧ inv (i + 1) w') :
    Calls Try.prog 86 #[.int .i64 (k : Int), vd, .func (.func F) #[] caps] w fun e w' => e = .returned (.tuple #[]) ∧ inv d.length w' := by
  obtain rfl := hr.len_i64
  obtain ⟨sa, ca, rfl⟩ := hr.form
  have HR := Lib.hid hr; have HB := Lib.hid hb; have H0 := Lib.hid h0; have HS := Lib.hid hstep
  clear hr hb h0 hstep
  go_enter Try.func86, Try.ntmps86
  go_wp2
  go_loopw [10] (fun i wr => ∃ j : Nat, j ≤ d.length ∧ i = .int .i64 j ∧ Hid (inv j wr)) (fun i _ => d.length - (intOf i).toNat)
  case atStart => exact ⟨0, Nat.zero_le _, rfl, H0⟩
  case round =>
    obtain ⟨j, hj, rfl, HJ⟩ := hrel
    by_cases hlt : j < d.length
    · obtain ⟨b, off, rfl, hc⟩ := ((HR.out).below (HB.out j wr HJ.out)).at (by omega)
      have cx := hc j _ (i64s_at d j hlt)
      clear hc
      generalize hx : d.getD j 0 = x at *
      have HX := Lib.hid hx; clear hx
      go_wp2_with fail
      have hc := HS.out j wr hlt HJ.out
      rw [HX.out] at hc
      refine hc.mono ?_
      rintro e w' ⟨rfl, hinv⟩
      have HI := Lib.hid hinv
      clear hc hinv
      go_wp2
      go_roundw
      case rel => exact ⟨j + 1, by omega, by go_num, HI⟩
      case measure => simp [intOf]; omega
    · obtain rfl : j = d.length := by omega
      go_wp2
      go_end0
      exact ⟨rfl, HJ.out⟩

set_option maxRecDepth 100000 in
set_option maxHeartbeats 1000000 in
theorem slots1_lt (w : World) (bk bo g cap n : Nat) (k item x y : Int) (hk : w.cell? ⟨bk, 0, none⟩ = some (.int .i64 k)) (ho : w.cell? ⟨bo, 0, none⟩ = some (.slice (some ⟨g, 0, none⟩) n cap))
    (h0 : 0 ≤ x) (h1 : x < k) (h2 : x < (n : Int)) (hc : w.cell? ⟨g, x.toNat, none⟩ = some (.int .i64 y)) (hf : w.frozen? ⟨g, x.toNat, none⟩ = false) :
    Calls Try.prog 87 #[.int .i64 item, .int .i64 x, .pointer (some ⟨bk, 0, none⟩), .pointer (some ⟨bo, 0, none⟩)] w fun e w' => e = .returned (.tuple #[]) ∧ w' = w.setCell ⟨g, x.toNat, none⟩ (.int .i64 item) := by
  go_enter Try.func87, Try.ntmps87
  go_wp2
  go_end0
  exact ⟨rfl, rfl⟩

set_option maxRecDepth 100000 in
set_option maxHeartbeats 1000000 in
theorem slots1_ge (w : World) (bk : Nat) (v : Value) (k item x : Int) (hk : w.cell? ⟨bk, 0, none⟩ = some (.int .i64 k)) (h1 : ¬ x < k) :
    Calls Try.prog 87 #[.int .i64 item, .int .i64 x, .pointer (some ⟨bk, 0, none⟩), v] w fun e w' => e = .returned (.tuple #[]) ∧ w' = w := by
  go_enter Try.func87, Try.ntmps87
  go_wp2
  go_end0
  exact ⟨rfl, rfl⟩

set_option maxRecDepth 100000 in
set_option maxHeartbeats 2000000 in
theorem slots_ok (w : World) (n k : Nat) (vd : Value) (nd : Nat) (d : List Int) (hr : Rd w 1 vd nd (i64s d)) (hk : k ≤ n) (hn : n ≤ 256) (hd : resRightB n k d = true) :
    Calls Try.prog 58 #[.int .i64 (n : Int), .int .i64 (k : Int), vd] w fun e w' => ∃ sa cap, e = .returned (.tuple #[.slice sa k cap, .int .i64 0]) ∧ w'.ownsRow w.heap.size 3 1 (.slice sa k cap) k (i64s (slotsL k d)) ∧ Below w.heap.size w w' := by
  obtain rfl := hr.len_i64
  obtain ⟨sd, cd, rfl⟩ := hr.form
  have hrd := resRightB_iff.1 hd
  have hlen : d.length = n - k := hrd.1
  have hz : rightE n k d = 0 := by unfold rightE; rw [hd]; rfl
  have HR := Lib.hid hr; have HZ := Lib.hid hz; have HRD := Lib.hid hrd; have HL := Lib.hid hlen
  clear hr hz hrd hlen hd
  go_enter Try.func58, Try.ntmps58
  go_wp2_with (first
    | (go_at_call 84; go_must (refine (right_any _ n k _ _ d (HR.out.below ((Below.refl _ _).alloc (Nat.le_refl _) _)) hk hn).mono ?_); rintro e w' ⟨rfl, rfl⟩; rw [HZ.out])
    | (go_at_call 85; go_must (refine (resrow_any _ k (by omega)).mono ?_); rintro e w1 ⟨sa, ca, rfl, hown, hbel⟩; have hk1 : w1.heap[w.heap.size]? = some (.cells #[.int .i64 (k : Int)] 3 (0, 0)) := (hbel.block _ (by simp)).trans (heap_alloc_new _ _); have ck1 : w1.cell? ⟨w.heap.size, 0, none⟩ = some (.int .i64 (k : Int)) := cell_of hk1 0 rfl; have ck2 : ∀ o, (w1.alloc o).cell? ⟨w.heap.size, 0, none⟩ = some (.int .i64 (k : Int)) := fun o => Lib.cell?_alloc_some _ ck1; have HO := Lib.hid hown; have HB := Lib.hid hbel; have HK := Lib.hid hk1; clear hown hbel hk1)
    | (go_at_call 86; fail))
  have hsz : w.heap.size + 1 ≤ w1.heap.size := by have := HB.out.size; simpa using this
  have hb1 : Below w.heap.size w w1 := ((Below.refl _ w).alloc (Nat.le_refl _) _).trans (HB.out.mono (by simp))
  refine (each_any w _ k _ _ d _ _ (fun i wr => wr.heap[w.heap.size]? = some (.cells #[.int .i64 (k : Int)] 3 (0, 0)) ∧ wr.heap[w1.heap.size]? = some (.cells #[.slice sa k ca] 66 (0, 0)) ∧ wr.ownsRow (w.heap.size + 1) 3 1 (.slice sa k ca) k (i64s (slotsL k (d.take i))) ∧
    Below w.heap.size w wr) HR.out (by omega) (by have := HL.out; omega) ent_slots1 (fun i wr h => h.2.2.2) ⟨?_, ?_, ?_, ?_⟩ ?_).mono ?_
  · exact (heap_alloc_old _ _ (by omega)).trans HK.out
  · exact heap_alloc_new _ _
  · exact (row_mono HO.out (by simp)).alloc _
  · exact hb1.alloc (by omega) _
  · rintro i wr hi ⟨h1, h2, h3, h4⟩
    have hx := HRD.out.2 i hi
    have hstep : slotsL k (d.take (i + 1)) = slotsStep k (slotsL k (d.take i)) i (d.getD i 0) := foldI_take _ _ _ _ hi
    have ck : wr.cell? ⟨w.heap.size, 0, none⟩ = some (.int .i64 (k : Int)) := cell_of h1 0 rfl
    have co : wr.cell? ⟨w1.heap.size, 0, none⟩ = some (.slice sa k ca) := cell_of h2 0 rfl
    have hsl : (slotsL k (d.take i)).length = k := slotsL_len _ _
    by_cases hxk : d.getD i 0 < (k : Int)
    · obtain ⟨g, rfl, hg1, hg2, hg3, hcell, hfz⟩ := row_ptr h3 (by omega)
      have cx := hcell (d.getD i 0).toNat _ (i64s_at _ _ (by rw [hsl]; omega))
      have hg0 : g ≠ w1.heap.size := fun h => by have := (HO.out.lt g rfl).2; omega
      refine (slots1_lt wr _ _ g ca k _ _ _ _ ck co hx.1 hxk hxk cx (hfz _)).mono ?_
      rintro e w' ⟨rfl, rfl⟩
      refine ⟨rfl, ?_, ?_, ?_, h4.setCell (p := ⟨g, _, none⟩) (by show w.heap.size ≤ g; omega) _⟩
      · rw [Below.heap_setCell _ _ _ _ (by show w.heap.size ≠ g; omega)]; exact h1
      · rw [Below.heap_setCell _ _ _ _ (fun h => hg0 h.symm)]; exact h2
      · rw [hstep]
        unfold slotsStep
        rw [if_pos hxk, i64s_set]
        exact row_set h3 (by omega) _
    · refine (slots1_ge wr _ _ _ _ _ ck hxk).mono ?_
      rintro e w' ⟨rfl, rfl⟩
      refine ⟨rfl, h1, h2, ?_, h4⟩
      rw [hstep]
      unfold slotsStep
      rw [if_neg hxk]
      exact h3
  · rintro e w2 ⟨rfl, h1, h2, h3, h4⟩
    rw [List.take_length] at h3
    have c0 : w2.cell? ⟨w1.heap.size, 0, none⟩ = some (.slice sa k ca) := cell_of h2 0 rfl
    have H3 := Lib.hid h3; have H4 := Lib.hid h4
    clear h1 h2 h3 h4
    go_wp2
    go_ret2
    exact ⟨sa, ca, rfl, row_mono H3.out (by omega), H4.out⟩

set_option maxRecDepth 100000 in
set_option maxHeartbeats 2000000 in
theorem slots_bad (w : World) (n k E : Int) (sa : Option Addr) (nd ca : Nat) (hE : E ≠ 0) (hr : ∀ w1, Below w.heap.size w w1 → Calls Try.prog 84 #[.int .i64 n, .int .i64 k, .slice sa nd ca] w1 fun e w' => e = .returned (.int .i64 E) ∧ w1 = w') :
    Calls Try.prog 58 #[.int .i64 n, .int .i64 k, .slice sa nd ca] w fun e w' => e = .returned (.tuple #[.slice none 0 0, .int .i64 E]) ∧ Below w.heap.size w w' := by
  have q : (E != 0) = true := by simp [hE]
  have HR := Lib.hid hr; clear hr hE
  go_enter Try.func58, Try.ntmps58
  go_wp2_with (go_at_call 84; go_must (refine (HR.out _ ((Below.refl _ _).alloc (Nat.le_refl _) _)).mono ?_); rintro e w' ⟨rfl, rfl⟩)
  go_ret2
  exact ⟨rfl, (Below.refl _ w).alloc (Nat.le_refl _) _⟩

end Go.Proofs.Ytnnaijbdimdhpaa
