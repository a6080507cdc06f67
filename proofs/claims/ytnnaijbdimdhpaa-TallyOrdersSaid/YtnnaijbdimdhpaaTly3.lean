/-
  tally.even: what is counted of all words.
-/
import Derived.Test.YtnnaijbdimdhpaaTly2
import Derived.Test.YtnnaijbdimdhpaaTlyNum
namespace Go.Proofs.Ytnnaijbdimdhpaa
open Go.RowKit Go.Shelf
set_option linter.unusedVariables false
attribute [local go_sem] Oper.semAt_some

/-- how many of the words tell each number below n -/
def cntL (t : Nat → Option Nat) (n : Nat) (pre : List Nat) : List Int := (List.range n).map fun v => ((pre.countP fun x => t x == some v : Nat) : Int)
def cntN (t : Nat → Option Nat) (pre : List Nat) : Nat := pre.countP fun x => t x == none
theorem cntL_len (t : Nat → Option Nat) (n : Nat) (pre : List Nat) : (cntL t n pre).length = n := by simp [cntL]
theorem cntL_at (t : Nat → Option Nat) (n : Nat) (pre : List Nat) {v : Nat} (hv : v < n) : (cntL t n pre).getD v 0 = ((pre.countP fun x => t x == some v : Nat) : Int) := by
  simp [cntL, List.getD, hv]
theorem cntL_nil (t : Nat → Option Nat) (n : Nat) : cntL t n [] = List.replicate n 0 := by simp [cntL, List.map_const']
theorem cntL_none {t : Nat → Option Nat} (n : Nat) (pre : List Nat) {x : Nat} (h : t x = none) : cntL t n (pre ++ [x]) = cntL t n pre := by
  simp [cntL, List.countP_append, h]
theorem cntL_some {t : Nat → Option Nat} (n : Nat) (pre : List Nat) {x v : Nat} (h : t x = some v) (hv : v < n) : cntL t n (pre ++ [x]) = (cntL t n pre).set v ((cntL t n pre).getD v 0 + 1) := by
  apply List.ext_getElem
  · simp [cntL]
  · intro j h1 h2
    have hj : j < n := by simpa [cntL] using h1
    rw [List.getElem_set]
    by_cases hjv : v = j
    · subst hjv
      rw [if_pos rfl, cntL_at t n pre hv]
      simp [cntL, List.countP_append, h]
    · rw [if_neg hjv]
      simp [cntL, List.countP_append, h, hjv]
theorem cntN_none {t : Nat → Option Nat} (pre : List Nat) {x : Nat} (h : t x = none) : cntN t (pre ++ [x]) = cntN t pre + 1 := by simp [cntN, List.countP_append, h]
theorem cntN_some {t : Nat → Option Nat} (pre : List Nat) {x v : Nat} (h : t x = some v) : cntN t (pre ++ [x]) = cntN t pre := by simp [cntN, List.countP_append, h]

set_option maxRecDepth 100000 in
set_option maxHeartbeats 2000000 in
theorem even_ok (m n g : Nat) (lb : Array Value) (t : Nat → Option Nat) (w : World) (eg : ∀ args w, (callFunc g args).run Try.prog w = .ok (.enter g args) w) (hm1 : 1 ≤ m) (hm : m ≤ 12) (hn0 : 0 < n) (hnN : n ≤ 2 ^ m) (ht : ∀ x v, x < 2 ^ m → t x = some v → v < n)
    (hT : ∀ (x : Nat) (W : World), x < 2 ^ m → Below w.heap.size w W → Calls Try.prog g (#[.int .u64 x] ++ lb) W fun e W' => ∃ y : Nat, e = .returned (.tuple #[.int .u64 y, .bool (t x).isSome]) ∧ (∀ v, t x = some v → y = v) ∧ Below W.heap.size W W') :
    Calls Try.prog 43 #[.int .i64 m, .int .u64 n, .func (.func g) #[] lb] w fun e w' =>
      ∃ b, e = .returned (.tuple #[.slice (some ⟨b, 0, none⟩) n n, .int .u64 (cntN t (List.range (2 ^ m))), .int .i64 0]) ∧ Rd w' 1 (.slice (some ⟨b, 0, none⟩) n n) n (u64s (cntL t n (List.range (2 ^ m)))) ∧ Below w.heap.size w w' := by
  obtain ⟨N, hN⟩ : ∃ N, N = 2 ^ m := ⟨_, rfl⟩
  have hN64 : N ≤ 4096 := by rw [hN]; exact Nat.pow_le_pow_right (j := 12) (by omega) hm
  have hpw : IntKind.u64.wrap ((2 : Int) ^ m) = (N : Int) := by
    rw [show ((2 : Int) ^ m) = (N : Int) by rw [hN]; simp, IntKind.wrap_u64]; omega
  obtain ⟨W1, e1, s1, n1, k1⟩ := alloc_facts w (.cells #[.func (.func g) #[] lb] 72)
  obtain ⟨W2, e2, s2, n2, k2⟩ := alloc_facts W1 (.cells (u64s (List.replicate n 0)).toArray 22)
  obtain ⟨W3, e3, s3, n3, k3⟩ := alloc_facts W2 (.cells #[.slice (some ⟨w.heap.size + 1, 0, none⟩) n n] 24)
  obtain ⟨W4, e4, s4, n4, k4⟩ := alloc_facts W3 (.cells #[.int .u64 0] 22)
  obtain ⟨W5, e5, s5, n5, k5⟩ := alloc_facts W4 (.cells #[.int .i64 m] 3)
  rw [s1] at n2 s2
  rw [s2] at n3 s3
  rw [s3] at n4 s4
  rw [s4] at n5 s5
  have hb5 : Below w.heap.size w W5 := by
    rw [e5, e4, e3, e2, e1]
    exact ((((Below.refl _ w).alloc (Nat.le_refl _) _).alloc (by simp) _).alloc (by simp; omega) _).alloc (by simp; omega) _ |>.alloc (by simp; omega) _
  have hg := words_gives (w.heap.size + 1 + 1 + 1 + 1) m W5 hm1 hm (cell0_of n5)
  rw [← hN] at hnN ht hT hg ⊢
  clear hN
  have hnZ : (n : Int) ≤ N := by omega
  refine (callsIn_wide (n := 0)).1 ?_
  refine callsIn_of_wp_marks Try.func43 rfl trivial ?_ rfl
  simp only [Try.ntmps43, List.size_toArray, List.length_cons, List.length_nil, Nat.reduceAdd, Nat.reduceSub, Array.replicate_succ, Array.replicate_zero, List.push_toArray, List.append_toArray, List.nil_append, List.cons_append]
  gi_wp2_with (first
    | (gi_at_make; refine mkIn_u64 _ rfl _ _ rfl .u64 .u64 n rfl rfl (by omega) ?_)
    | ((try refine ⟨trivial, ?_⟩); (try refine ⟨rfl, ?_⟩); refine (callsIn_wide.2 (twords_any _ _)).mono ?_; rintro e w' ⟨rfl, rfl⟩))
  rw [← e1, ← e2, ← e3, ← e4, ← e5]
  refine wp_range_own (gf := 79) (lb := #[.pointer (some ⟨w.heap.size + 1 + 1 + 1 + 1, 0, none⟩)]) rfl (enters_of Try.func79 (by kernel_rfl) rfl)
    (fun b hb => hb.elim) hg rfl (fun x s A B h hk => trivial)
    (fun pre V => V.heap[w.heap.size]? = some (.cells #[.func (.func g) #[] lb] 72 (0, 0)) ∧ V.heap[w.heap.size + 1]? = some (.cells (u64s (cntL t n pre)).toArray 22 (0, 0)) ∧
      V.heap[w.heap.size + 1 + 1]? = some (.cells #[.slice (some ⟨w.heap.size + 1, 0, none⟩) n n] 24 (0, 0)) ∧ V.heap[w.heap.size + 1 + 1 + 1]? = some (.cells #[.int .u64 (cntN t pre)] 22 (0, 0)) ∧ Below w.heap.size w V)
    ?hI ?h0 (fun x => { tmps := #[.int .i64 m, .int .u64 n, .func (.func g) #[] lb, undef, undef, .pointer (some ⟨w.heap.size, 0, none⟩), .slice none 0 0, .int .u64 0, .int .i64 0, .pointer (some ⟨w.heap.size + 1 + 1, 0, none⟩),
      .pointer (some ⟨w.heap.size + 1 + 1 + 1, 0, none⟩), .int .u64 x, undef, undef, .bool (decide ((m : Int) < 1) || decide ((12 : Int) < (m : Int))), .int .i64 m, .bool (decide ((m : Int) < 1)), .bool (decide ((m : Int) < 1)), .int .i64 m,
      .bool (decide ((12 : Int) < (m : Int))), .bool (decide ((m : Int) < 1) || decide ((12 : Int) < (m : Int))), .bool false, .int .u64 n, .bool false, .bool false, .int .u64 n, .int .i64 m, .int .u64 N, .bool false, .int .u64 n,
      .slice (some ⟨w.heap.size + 1, 0, none⟩) n n, .int .i64 m, .func (.func 79) #[] #[.pointer (some ⟨w.heap.size + 1 + 1 + 1 + 1, 0, none⟩)], .int .u64 x,
      undef, undef, undef, undef, undef, undef, undef, undef, undef, undef, undef, undef, undef, undef, undef, undef, undef, undef], defers := [] }) ?assign ?body ?done
  case hI =>
    rintro pre A B ⟨i1, i2, i3, i4, i5⟩ hc
    refine ⟨(hc.block _ (block_lt i1) (by omega)).trans i1, (hc.block _ (block_lt i2) (by omega)).trans i2, (hc.block _ (block_lt i3) (by omega)).trans i3, (hc.block _ (block_lt i4) (by omega)).trans i4, i5.trans (hc.below i5.size fun k hk => by omega)⟩
  case h0 =>
    rw [cntL_nil]
    exact ⟨(k5 _ (by omega)).trans ((k4 _ (by omega)).trans ((k3 _ (by omega)).trans ((k2 _ (by omega)).trans n1))), (k5 _ (by omega)).trans ((k4 _ (by omega)).trans ((k3 _ (by omega)).trans n2)), (k5 _ (by omega)).trans ((k4 _ (by omega)).trans n3), (k5 _ (by omega)).trans n4, hb5⟩
  case assign =>
    intro l' x V K hK
    gi_wp2
    exact hK
  case body =>
    rintro l' pre x V ⟨i1, i2, i3, i4, i5⟩ hpre _ hsV
    have hxN : x < N := List.mem_range.1 (hpre.subset (by simp))
    have hlenp : pre.length + 1 ≤ N := by have := hpre.length_le; simpa using this
    have hlost : cntN t pre ≤ 4096 := Nat.le_trans List.countP_le_length (by omega)
    have hsv : w.heap.size + 1 + 1 + 1 + 1 ≤ V.heap.size := by omega
    have hct : V.cell? ⟨w.heap.size, 0, none⟩ = some (.func (.func g) #[] lb) := cell0_of i1
    have hkb : ∀ V', Below V.heap.size V V' → ∀ b, b < V.heap.size → V'.heap[b]? = V.heap[b]? := fun V' h b hb => h.block b hb
    cases htx : t x with
    | none =>
      have hcall := (hT x V hxN i5).mono (R' := fun e W' => ∃ y : Nat, e = .returned (.tuple #[.int .u64 y, .bool false]) ∧ W'.cell? ⟨w.heap.size + 1 + 1 + 1, 0, none⟩ = some (.int .u64 (cntN t pre)) ∧ W'.frozen? ⟨w.heap.size + 1 + 1 + 1, 0, none⟩ = false ∧ Below V.heap.size V W') (by
        rintro e W' ⟨y, he, _, hb⟩
        rw [htx] at he
        have h4 := (hkb W' hb _ (block_lt i4)).trans i4
        exact ⟨y, he, cell0_of h4, frozen_of h4 0, hb⟩)
      gi_wp2_with ((try refine ⟨trivial, ?_⟩); (try refine ⟨rfl, ?_⟩); refine (CallsIn.inRound l' (callsIn_wide.2 hcall)).mono ?_; rintro e V' ⟨y, rfl, hc4, hf4, hb'⟩)
      have hk' : ∀ b, b < V.heap.size → b ≠ w.heap.size + 1 + 1 + 1 → (V'.setCell ⟨w.heap.size + 1 + 1 + 1, 0, none⟩ (.int .u64 (cntN t pre + 1))).heap[b]? = V.heap[b]? := fun b hb hne => (Below.heap_setCell _ _ _ _ hne).trans (hkb V' hb' b hb)
      have h4 := set_of ((hkb V' hb' _ (block_lt i4)).trans i4) 0 (.int .u64 ((cntN t pre : Int) + 1))
      refine ⟨⟨(hk' _ (block_lt i1) (by omega)).trans i1, ?_, (hk' _ (block_lt i3) (by omega)).trans i3, ?_, (i5.trans (hb'.mono i5.size)).setCell (by show w.heap.size ≤ w.heap.size + 1 + 1 + 1; omega) _⟩, by simpa [World.setCell] using hb'.size, fun k hk hkl => hk' k hkl (by have := hk.resolve_right id; omega)⟩
      · rw [cntL_none n pre htx]; exact (hk' _ (block_lt i2) (by omega)).trans i2
      · rw [cntN_none pre htx, h4]; simp
    | some v =>
      have hv : v < n := ht x v hxN htx
      obtain ⟨c, hc⟩ : ∃ c : Nat, c = pre.countP fun x => t x == some v := ⟨_, rfl⟩
      have hcb : c ≤ 4096 := by rw [hc]; exact Nat.le_trans List.countP_le_length (by omega)
      have hcv : (cntL t n pre).getD v 0 = (c : Int) := by rw [cntL_at t n pre hv, hc]
      clear hc
      have hcall := (hT x V hxN i5).mono (R' := fun e W' => e = .returned (.tuple #[.int .u64 v, .bool true]) ∧ W'.cell? ⟨w.heap.size + 1 + 1, 0, none⟩ = some (.slice (some ⟨w.heap.size + 1, 0, none⟩) n n) ∧ W'.cell? ⟨w.heap.size + 1, v, none⟩ = some (.int .u64 c) ∧ W'.frozen? ⟨w.heap.size + 1, v, none⟩ = false ∧ Below V.heap.size V W') (by
        rintro e W' ⟨y, he, hy, hb⟩
        rw [htx, hy v htx] at he
        have h2 := (hkb W' hb _ (block_lt i2)).trans i2
        refine ⟨he, cell0_of ((hkb W' hb _ (block_lt i3)).trans i3), cell_of h2 v ?_, frozen_of h2 v, hb⟩
        have := u64s_at (cntL t n pre) v (by rw [cntL_len]; exact hv)
        rw [hcv] at this
        simpa using this)
      gi_wp2_with ((try refine ⟨trivial, ?_⟩); (try refine ⟨rfl, ?_⟩); refine (CallsIn.inRound l' (callsIn_wide.2 hcall)).mono ?_; rintro e V' ⟨rfl, hc3, hc2, hf2, hb'⟩)
      have hk' : ∀ b, b < V.heap.size → b ≠ w.heap.size + 1 → (V'.setCell ⟨w.heap.size + 1, v, none⟩ (.int .u64 ((c : Int) + 1))).heap[b]? = V.heap[b]? := fun b hb hne => (Below.heap_setCell _ _ _ _ hne).trans (hkb V' hb' b hb)
      have h2 := set_of ((hkb V' hb' _ (block_lt i2)).trans i2) v (.int .u64 ((c : Int) + 1))
      refine ⟨⟨(hk' _ (block_lt i1) (by omega)).trans i1, ?_, (hk' _ (block_lt i3) (by omega)).trans i3, ?_, (i5.trans (hb'.mono i5.size)).setCell (by show w.heap.size ≤ w.heap.size + 1; omega) _⟩, by simpa [World.setCell] using hb'.size, fun k hk hkl => hk' k hkl (by have := hk.resolve_right id; omega)⟩
      · rw [cntL_some n pre htx hv, hcv, h2, u64s_set]; simp
      · rw [cntN_some pre htx]; exact (hk' _ (block_lt i4) (by omega)).trans i4
  case done =>
    rintro V ⟨i1, i2, i3, i4, i5⟩ hK
    have hc3 : V.cell? ⟨w.heap.size + 1 + 1, 0, none⟩ = some (.slice (some ⟨w.heap.size + 1, 0, none⟩) n n) := cell0_of i3
    have hc4 : V.cell? ⟨w.heap.size + 1 + 1 + 1, 0, none⟩ = some (.int .u64 (cntN t (List.range N))) := cell0_of i4
    have hmx : Try.prog.follows .mixedOrders = true := by kernel_rfl
    clear hT hg hpw
    gi_wp2
    gi_region
    all_goals gi_wp2
    refine ⟨by simp, .inl ⟨_, _, rfl, run_takeDeferred (w := V.drew) hK, ?_⟩⟩
    refine ⟨_, results_tmp3 rfl _ _ _, _, rfl, ?_, ?_⟩
    · have h2 : (V.drew.putObj W5.heap.size (.deferred none)).heap[w.heap.size + 1]? = some (.cells (u64s (cntL t n (List.range N))).toArray 22 (0, 0)) := (World.putObj_heap_other (by omega)).trans i2
      refine ⟨by rw [u64s_len, cntL_len, Nat.mul_one], by unfold maxLen; omega, _, _, rfl, Nat.le_refl _, .inr ⟨_, 0, rfl, fun i u hu => cell_of h2 _ (by simpa using hu)⟩⟩
    · exact i5.drew.trans ((chg_putObj (S := fun k => k = W5.heap.size) V.drew W5.heap.size (.deferred none) rfl).below i5.size (fun k hk => by omega))

end Go.Proofs.Ytnnaijbdimdhpaa
