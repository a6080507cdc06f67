/-
  tally.Slots and the reference's Sets: what the law calls.
-/
import Derived.Test.YtnnaijbdimdhpaaTly26
namespace Go.Proofs.Ytnnaijbdimdhpaa
open Go.RowKit Go.Shelf
set_option linter.unusedVariables false
set_option linter.unusedSimpArgs false

set_option maxRecDepth 100000 in
set_option maxHeartbeats 1000000 in
theorem slots_bad51 (n k : Int) (w : World) (h : n < 0 ∨ 6 < n ∨ k < 0 ∨ n < k) :
    Calls Try.prog 27 #[.int .i64 n, .int .i64 k] w fun e w' => e = .returned (.tuple #[.slice none 0 0, .slice none 0 0, .int .i64 1]) ∧ Below w.heap.size w w' := by
  have hb : Below w.heap.size w ((w.alloc (.cells #[.int .i64 n] 3)).alloc (.cells #[.int .i64 k] 3)) := ((Below.refl _ w).alloc (Nat.le_refl _) _).alloc (by simp) _
  refine (callsIn_wide (n := 0)).1 ?_
  refine callsIn_of_wp_marks Try.func27 rfl trivial ?_ rfl
  simp only [Try.ntmps27, List.size_toArray, List.length_cons, List.length_nil, Nat.reduceAdd, Nat.reduceSub, Array.replicate_succ, Array.replicate_zero, List.push_toArray, List.append_toArray, List.nil_append, List.cons_append]
  by_cases h1 : n < 0
  · clear h
    gi_wp2
    exact ⟨_, results_tmp3 rfl _ _ _, rfl, hb⟩
  by_cases h2 : 6 < n
  · clear h
    gi_wp2
    exact ⟨_, results_tmp3 rfl _ _ _, rfl, hb⟩
  by_cases h3 : k < 0
  · clear h
    gi_wp2
    exact ⟨_, results_tmp3 rfl _ _ _, rfl, hb⟩
  have h4 : n < k := by omega
  clear h
  gi_wp2
  exact ⟨_, results_tmp3 rfl _ _ _, rfl, hb⟩

set_option maxRecDepth 100000 in
theorem refSets_any (n k : Nat) (w : World) (hn : n ≤ 6) (hk : k ≤ n) :
    Calls Try.prog 28 #[.int .i64 n, .int .i64 k] w fun e w' => ∃ sa cap, e = .returned (.slice sa (setsR k 0 n).length cap) ∧ Rd w' 1 (.slice sa (setsR k 0 n).length cap) (setsR k 0 n).length (u64s (castL (setsR k 0 n))) ∧ Below w.heap.size w w' := by
  have C := sets_any n hn k 0 w (by omega) (by omega)
  go_enter Try.func28, Try.ntmps28
  go_wp2_with (refine C.mono ?_; rintro e w' ⟨sa, m, cap, rfl, hr, hf, hb⟩)
  have hm := hr.len_u64
  rw [castL_len] at hm
  subst hm
  go_ret
  exact ⟨sa, cap, rfl, hr, hb⟩

theorem cntS_sets {n k : Nat} (hn : n ≤ 6) (hk : k ≤ n) {s : Nat} (hs : s ∈ setsR k 0 n) : cntS n k s [] = timesN (n - k) (n - k) := by
  obtain ⟨_, h2, h3⟩ := slot_facts hn hk
  rw [← h3 s hs]
  show ((decs n k).map fun e => sumP (slotsR k ([] ++ e))).count s = _
  congr 1
  exact List.map_congr_left fun d hd => (h2 d hd).1.symm

theorem counts_rep {n k : Nat} (hn : n ≤ 6) (hk : k ≤ n) : setsC n k = setsR k 0 n ∧ castL ((setsC n k).map fun s => ((decs n k).map fun d => orB (slotsL k d)).count s) = List.replicate (setsR k 0 n).length ((timesN (n - k) (n - k) : Nat) : Int) := by
  obtain ⟨h1, _, h3⟩ := slot_facts hn hk
  refine ⟨h1, ?_⟩
  rw [h1, List.eq_replicate_iff]
  refine ⟨by simp [castL], fun x hx => ?_⟩
  obtain ⟨c, hc, rfl⟩ := List.mem_map.1 hx
  obtain ⟨s, hs, rfl⟩ := List.mem_map.1 hc
  rw [h3 s hs]

end Go.Proofs.Ytnnaijbdimdhpaa
