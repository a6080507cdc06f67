/-
  tally.Add: how many pairs bring two keys to any two numbers.
-/
import Derived.Test.YtnnaijbdimdhpaaTly12
import Derived.Test.YtnnaijbdimdhpaaTlyAddN
import Derived.Test.YtnnaijbdimdhpaaRLast
namespace Go.Proofs.Ytnnaijbdimdhpaa
open Go.RowKit Go.Shelf
set_option linter.unusedVariables false
attribute [local go_sem] Oper.semAt_some wide_fn

set_option maxRecDepth 100000 in
set_option maxHeartbeats 2000000 in
theorem addTop_any (al b s z ab bb : Nat) (W : World) (hal : al ≤ 5) (hs : al = s + b) (hz : z ≤ 1000) (ca : W.cell? ⟨ab, 0, none⟩ = some (.int .i64 al)) (cb : W.cell? ⟨bb, 0, none⟩ = some (.int .i64 b)) :
    Calls Try.prog 48 #[.int .u64 z, .pointer (some ⟨ab, 0, none⟩), .pointer (some ⟨bb, 0, none⟩)] W fun e W' => e = .returned (.int .u64 (z % 2 ^ al / 2 ^ s : Nat)) ∧ W' = W.drew := by
  obtain ⟨N, hN⟩ : ∃ N, N = 2 ^ al := ⟨_, rfl⟩
  have hN64 : N ≤ 32 := by rw [hN]; exact Nat.pow_le_pow_right (n := 2) (j := 5) (by omega) hal
  have hpw : IntKind.u64.wrap ((2 : Int) ^ al) = (N : Int) := by
    rw [show ((2 : Int) ^ al) = (N : Int) by rw [hN]; simp, IntKind.wrap_u64]; omega
  have hband : bits .and .u64 (z : Int) ((N : Int) - 1) = ((z % N : Nat) : Int) := by
    have hN1 : 0 < 2 ^ al := Nat.two_pow_pos al
    rw [show ((N : Int) - 1) = (((2 ^ al - 1 : Nat)) : Int) by rw [hN]; omega, bits_and_u64_nat _ _ (by omega) (by rw [← hN]; omega), Nat.and_two_pow_sub_one_eq_mod, hN]
  have hN0 : 0 < N := by rw [hN]; exact Nat.two_pow_pos al
  obtain ⟨S, hS⟩ : ∃ S, S = 2 ^ s := ⟨_, rfl⟩
  have hS0 : 0 < S := by rw [hS]; exact Nat.two_pow_pos s
  have hr := Nat.mod_lt z hN0
  rw [← hN, ← hS]
  clear hN
  generalize z % N = R at *
  have hdiv : (R : Int) / (2 : Int) ^ s = ((R / S : Nat) : Int) := by rw [show ((2 : Int) ^ s) = (S : Int) by rw [hS]; simp]; omega
  have hQ : R / S ≤ R := Nat.div_le_self R S
  generalize R / S = Q at *
  have hsub : (al : Int) - (b : Int) = (s : Int) := by omega
  have hs12 : s ≤ 5 := by omega
  clear hS hs
  go_enter Try.func48, Try.ntmps48
  go_wp2
  go_region
  all_goals go_wp2
  all_goals go_ret
  all_goals exact ⟨rfl, rfl⟩

/-- what stands in Add's boxes -/
structure AddI (w : World) (b x y al n : Nat) (L : List Nat) (V : World) : Prop where
  i1 : V.heap[w.heap.size]? = some (.cells #[.int .i64 b] 3 (0, 0))
  i2 : V.heap[w.heap.size + 1]? = some (.cells #[.int .u64 x] 22 (0, 0))
  i3 : V.heap[w.heap.size + 1 + 1]? = some (.cells #[.int .u64 y] 22 (0, 0))
  i4 : V.heap[w.heap.size + 1 + 1 + 1]? = some (.cells (u64s (cnt n L)).toArray 22 (0, 0))
  i5 : V.heap[w.heap.size + 1 + 1 + 1 + 1]? = some (.cells #[.slice (some ⟨w.heap.size + 1 + 1 + 1, 0, none⟩) n n] 24 (0, 0))
  i6 : V.heap[w.heap.size + 1 + 1 + 1 + 1 + 1]? = some (.cells #[.int .i64 al] 3 (0, 0))
  i7 : V.heap[w.heap.size + 1 + 1 + 1 + 1 + 1 + 1]? = some (.cells #[.func (.func 48) #[] #[.pointer (some ⟨w.heap.size + 1 + 1 + 1 + 1 + 1, 0, none⟩), .pointer (some ⟨w.heap.size, 0, none⟩)]] 75 (0, 0))
  i8 : Below w.heap.size w V

theorem allL_two (N : Nat) : allL [(N : Int), (N : Int)] = (List.range N).flatMap fun a => (List.range N).map fun b => [((a : Nat) : Int), ((b : Nat) : Int)] := by
  rw [allL, allL_one']
  simp only [Int.toNat_natCast, List.map_map]
  rfl
theorem allL_two_mem {N : Nat} {l : List Int} (h : l ∈ allL [(N : Int), (N : Int)]) : ∃ p q : Nat, l = [(p : Int), (q : Int)] ∧ p < N ∧ q < N := by
  rw [allL_two] at h
  obtain ⟨a, ha, h⟩ := List.mem_flatMap.1 h
  obtain ⟨b, hb, rfl⟩ := List.mem_map.1 h
  exact ⟨a, b, rfl, List.mem_range.1 ha, List.mem_range.1 hb⟩
theorem allL_two_len (N : Nat) : (allL [(N : Int), (N : Int)]).length = N * N := by
  rw [allL_two]
  simp [List.length_flatMap, List.map_const']

/-- what a pair brings the keys to -/
def addF (N S P x y : Nat) (l : List Int) : Nat := addI N S P x y (l.getD 0 0).toNat (l.getD 1 0).toNat

theorem allL_two_map (N S P x y : Nat) : (allL [(N : Int), (N : Int)]).map (addF N S P x y) = addL N S P x y := by
  rw [allL_two, List.map_flatMap]
  unfold addL
  congr 1
  funext a
  rw [List.map_map]
  rfl

/-- a round's end: one count more -/
theorem add_round {w V : World} {b x y al n idx d s9 : Nat} {L : List Nat} {α : Type} {f : α → Nat} {pre' : List α} (A : Act) (hs : s9 = w.heap.size + 1 + 1 + 1 + 1 + 1 + 1 + 1 + 1 + 1) (h : AddI w b x y al n L V) (hL : cnt n (pre'.map f) = (cnt n L).set idx ((d : Int) + 1)) (kp : Nat → Prop) (X : World) {v : Value} (hkp : ∀ k, (s9 ≤ k ∧ k < s9 + (2 + 4)) ∨ kp k → k ≠ w.heap.size + 1 + 1 + 1) (hX : X.heap = V.heap) (hB : Below w.heap.size w X) (hv : v = .int .u64 ((d : Int) + 1)) :
    gPost s9 (2 + 4) kp (fun pre V => AddI w b x y al n (pre.map f) V) pre' V .normal A (X.setCell ⟨w.heap.size + 1 + 1 + 1, idx, none⟩ v) := by
  subst hv
  have hk : ∀ k, k ≠ w.heap.size + 1 + 1 + 1 → (X.setCell ⟨w.heap.size + 1 + 1 + 1, idx, none⟩ (.int .u64 ((d : Int) + 1))).heap[k]? = V.heap[k]? := fun k hk => (Below.heap_setCell _ _ _ _ hk).trans (by rw [hX])
  refine ⟨?_, ?_, fun k hk1 _ => hk k (hkp k hk1)⟩
  · show AddI w b x y al n (pre'.map f) _
    refine ⟨(hk _ (by omega)).trans h.i1, (hk _ (by omega)).trans h.i2, (hk _ (by omega)).trans h.i3, ?_, (hk _ (by omega)).trans h.i5, (hk _ (by omega)).trans h.i6, (hk _ (by omega)).trans h.i7, hB.setCell (by show w.heap.size ≤ w.heap.size + 1 + 1 + 1; omega) _⟩
    have h4 := h.i4
    rw [← hX] at h4
    rw [set_of h4 idx _, hL, u64s_set]
    simp
  · rw [show (X.setCell ⟨w.heap.size + 1 + 1 + 1, idx, none⟩ (.int .u64 ((d : Int) + 1))).heap.size = X.heap.size by simp [World.setCell], hX]
    exact Nat.le_refl _

set_option maxRecDepth 100000 in
set_option maxHeartbeats 2000000 in
theorem add_ok (m b x y : Nat) (w : World) (hm1 : 1 ≤ m) (hm : m ≤ 3) (hb1 : 1 ≤ b) (hb : b ≤ m) (hx : x < 2 ^ m) (hy : y < 2 ^ m) (hxy : x ≠ y) :
    Calls Try.prog 19 #[.int .i64 m, .int .i64 b, .int .u64 x, .int .u64 y] w fun e w' => ∃ bk, e = .returned (.tuple #[.slice (some ⟨bk, 0, none⟩) (4 ^ b) (4 ^ b), .int .i64 0]) ∧ Rd w' 1 (.slice (some ⟨bk, 0, none⟩) (4 ^ b) (4 ^ b)) (4 ^ b) (u64s (cnt (4 ^ b) (addL (2 ^ (m + b - 1)) (2 ^ (m - 1)) (2 ^ b) x y))) ∧ Below w.heap.size w w' := by
  have h2 := fun W => two_any 3 m b x y W (by omega) (by have := Nat.pow_le_pow_right (n := 2) (by omega) hm; omega) (by have := Nat.pow_le_pow_right (n := 2) (by omega) hm; omega)
  have hE : keysE 3 m b x y = 0 := by
    unfold keysE
    rw [if_neg (by omega), Int.toNat_natCast, if_neg (by omega), if_neg hxy]
  rw [hE] at h2
  obtain ⟨al, hal⟩ : ∃ al, al = m + b - 1 := ⟨_, rfl⟩
  obtain ⟨s, hs⟩ : ∃ s, s = m - 1 := ⟨_, rfl⟩
  have hal5 : al ≤ 5 := by omega
  have hals : al = s + b := by omega
  have halz : (m : Int) + (b : Int) - 1 = (al : Int) := by omega
  obtain ⟨c, hc⟩ : ∃ c, c = 2 * b := ⟨_, rfl⟩
  have hcz : 2 * (b : Int) = (c : Int) := by omega
  have hc6 : c ≤ 6 := by omega
  obtain ⟨n, hn⟩ : ∃ n, n = 4 ^ b := ⟨_, rfl⟩
  have hnc : n = 2 ^ c := by rw [hn, hc, Nat.pow_mul]
  have hn64 : n ≤ 64 := by rw [hnc]; exact Nat.pow_le_pow_right (n := 2) (j := 6) (by omega) hc6
  have hcpw : (2 : Int) ^ c = (n : Int) := by rw [hnc]; simp
  obtain ⟨N, hN⟩ : ∃ N, N = 2 ^ al := ⟨_, rfl⟩
  have hN64 : N ≤ 32 := by rw [hN]; exact Nat.pow_le_pow_right (n := 2) (j := 5) (by omega) hal5
  have hNpw : (2 : Int) ^ al = (N : Int) := by rw [hN]; simp
  obtain ⟨S, hS⟩ : ∃ S, S = 2 ^ s := ⟨_, rfl⟩
  have hS0 : 0 < S := by rw [hS]; exact Nat.two_pow_pos s
  obtain ⟨P, hP⟩ : ∃ P, P = 2 ^ b := ⟨_, rfl⟩
  have hP0 : 0 < P := by rw [hP]; exact Nat.two_pow_pos b
  have hx8 : x < 8 := Nat.lt_of_lt_of_le hx (Nat.pow_le_pow_right (n := 2) (j := 3) (by omega) hm)
  have hy8 : y < 8 := Nat.lt_of_lt_of_le hy (Nat.pow_le_pow_right (n := 2) (j := 3) (by omega) hm)
  rw [← hal, ← hs, ← hn, ← hN, ← hS, ← hP]
  have HALS := Lib.hid hals
  have HN2 : Hid (N = 2 ^ al ∧ S = 2 ^ s) := ⟨hN, hS⟩
  have HNP2 : Hid (P = 2 ^ b) := hP
  have HNP : Hid (n = P * P ∧ N = S * P) := ⟨by rw [hn, hP, ← Nat.mul_pow], by rw [hN, hS, hP, hals, Nat.pow_add]⟩
  clear hE hs hx hy hal hc hn hnc hxy hN hS hP hals
  obtain ⟨W1, e1, s1, n1, k1⟩ := alloc_facts w (.cells #[.int .i64 b] 3)
  obtain ⟨W2, e2, s2, n2, k2⟩ := alloc_facts W1 (.cells #[.int .u64 x] 22)
  obtain ⟨W3, e3, s3, n3, k3⟩ := alloc_facts W2 (.cells #[.int .u64 y] 22)
  obtain ⟨W4, e4, s4, n4, k4⟩ := alloc_facts W3 (.cells (u64s (List.replicate n 0)).toArray 22)
  obtain ⟨W5, e5, s5, n5, k5⟩ := alloc_facts W4 (.cells #[.slice (some ⟨w.heap.size + 1 + 1 + 1, 0, none⟩) n n] 24)
  obtain ⟨W6, e6, s6, n6, k6⟩ := alloc_facts W5 (.cells #[.int .i64 al] 3)
  obtain ⟨W7, e7, s7, n7, k7⟩ := alloc_facts W6 (.cells #[.func (.func 48) #[] #[.pointer (some ⟨w.heap.size + 1 + 1 + 1 + 1 + 1, 0, none⟩), .pointer (some ⟨w.heap.size, 0, none⟩)]] 75)
  rw [s1] at n2 s2
  rw [s2] at n3 s3
  rw [s3] at n4 s4
  rw [s4] at n5 s5
  rw [s5] at n6 s6
  rw [s6] at n7 s7
  have c6 : W7.cell? ⟨w.heap.size + 1 + 1 + 1 + 1 + 1, 0, none⟩ = some (.int .i64 al) := cell0_of ((k7 _ (by omega)).trans n6)
  refine (callsIn_wide (n := 0)).1 ?_
  refine callsIn_of_wp_marks Try.func19 rfl trivial ?_ rfl
  simp only [Try.ntmps19, List.size_toArray, List.length_cons, List.length_nil, Nat.reduceAdd, Nat.reduceSub, Array.replicate_succ, Array.replicate_zero, List.push_toArray, List.append_toArray, List.nil_append, List.cons_append]
  gi_wp2_with (first
    | (gi_at_make; refine mkIn_u64 _ rfl _ _ rfl .i64 .i64 n rfl rfl (by omega) ?_)
    | ((try refine ⟨trivial, ?_⟩); (try refine ⟨rfl, ?_⟩); first | (refine (callsIn_wide.2 (h2 _)).mono ?_; rintro e w' ⟨rfl, rfl⟩) | (refine (callsIn_wide.2 (lists_any _ _ _ _)).mono ?_; rintro e w' ⟨rfl, rfl⟩)))
  rw [← e1, ← e2, ← e3, ← e4, ← e5, ← e6, ← e7]
  have hmx : Try.prog.follows .mixedOrders = true := by kernel_rfl
  refine wpIn_region_last 4 hmx (by kernel_rfl) (by kernel_rfl) (by simp) ?_
  simp only [List.take_succ_cons, List.take_zero, List.drop_succ_cons, List.drop_zero]
  repeat (gi_big_quiet_step (fail))
  refine wpQuietIn_nil ?_
  rintro _ ⟨nq, rfl⟩
  gi_wp2_with ((try refine ⟨trivial, ?_⟩); (try refine ⟨rfl, ?_⟩); (refine (callsIn_wide.2 (lists_any _ _ _ _)).mono ?_; rintro e w' ⟨rfl, rfl⟩))
  obtain ⟨W8, e8, s8, n8, k8⟩ := alloc_facts (W7.drewN nq) (.cells #[.int .u64 N, .int .u64 N] 22)
  obtain ⟨W9, e9, s9, n9, k9⟩ := alloc_facts W8 (.cells #[.slice (some ⟨w.heap.size + 1 + 1 + 1 + 1 + 1 + 1 + 1, 0, none⟩) 2 2] 24)
  rw [drewN_heap, s7] at n8 s8 k8
  rw [s8] at n9 s9
  rw [← e1, ← e2, ← e3, ← e4, ← e5, ← e6, ← e7, ← e8, ← e9]
  have kk : ∀ k, k < w.heap.size + 1 + 1 + 1 + 1 + 1 + 1 + 1 → W9.heap[k]? = W7.heap[k]? := fun k hk => (k9 _ (by omega)).trans (k8 _ hk)
  have hb9 : Below w.heap.size w W9 := by
    have h7 : Below w.heap.size w W7 := by
      rw [e7, e6, e5, e4, e3, e2, e1]
      exact ((((((Below.refl _ w).alloc (Nat.le_refl _) _).alloc (by simp) _).alloc (by simp; omega) _).alloc (by simp; omega) _).alloc (by simp; omega) _).alloc (by simp; omega) _ |>.alloc (by simp; omega) _
    rw [e9, e8]
    exact ((below_drewN' h7 nq).alloc (by rw [drewN_heap]; exact h7.size) _).alloc (by rw [World.size_alloc, drewN_heap]; have := h7.size; omega) _
  have hrd9 : Rd W9 1 (.slice (some ⟨w.heap.size + 1 + 1 + 1 + 1 + 1 + 1 + 1, 0, none⟩) 2 2) 2 (u64s [(N : Int), (N : Int)]) := by
    refine ⟨rfl, by unfold maxLen; omega, _, _, rfl, Nat.le_refl _, .inr ⟨_, 0, rfl, fun i u hu => ?_⟩⟩
    exact cell_of ((k9 _ (by omega)).trans n8) _ (by simpa [u64s] using hu)
  have hg := lists_gives (w.heap.size + 1 + 1 + 1 + 1 + 1 + 1 + 1 + 1) 2 (.slice (some ⟨w.heap.size + 1 + 1 + 1 + 1 + 1 + 1 + 1, 0, none⟩) 2 2) [(N : Int), (N : Int)] W9 rfl (by omega) (by intro x hx; simp at hx; omega) (cell0_of n9) hrd9 (fun b hb => by have := sBlk_some hb; omega)
  have hA0 : AddI w b x y al n [] W9 := by
    refine ⟨?_, ?_, ?_, ?_, ?_, ?_, ?_, hb9⟩
    · exact (kk _ (by omega)).trans ((k7 _ (by omega)).trans ((k6 _ (by omega)).trans ((k5 _ (by omega)).trans ((k4 _ (by omega)).trans ((k3 _ (by omega)).trans ((k2 _ (by omega)).trans n1))))))
    · exact (kk _ (by omega)).trans ((k7 _ (by omega)).trans ((k6 _ (by omega)).trans ((k5 _ (by omega)).trans ((k4 _ (by omega)).trans ((k3 _ (by omega)).trans n2)))))
    · exact (kk _ (by omega)).trans ((k7 _ (by omega)).trans ((k6 _ (by omega)).trans ((k5 _ (by omega)).trans ((k4 _ (by omega)).trans n3))))
    · rw [cnt_nil]; exact (kk _ (by omega)).trans ((k7 _ (by omega)).trans ((k6 _ (by omega)).trans ((k5 _ (by omega)).trans n4)))
    · exact (kk _ (by omega)).trans ((k7 _ (by omega)).trans ((k6 _ (by omega)).trans n5))
    · exact (kk _ (by omega)).trans ((k7 _ (by omega)).trans n6)
    · exact (kk _ (by omega)).trans n7
  clear e1 e2 e3 e4 e5 e6 e7 e8 e9 n1 n2 n3 n4 n5 n6 n7 n8 n9 k1 k2 k3 k4 k5 k6 k7 k8 k9 kk hb9 hrd9 s1 s2 s3 s4 s5 s6 s7 s8 c6
  refine wp_range_own (gf := 77) (lb := #[.pointer (some ⟨w.heap.size + 1 + 1 + 1 + 1 + 1 + 1 + 1 + 1, 0, none⟩)]) rfl (enters_of Try.func77 (by kernel_rfl) rfl)
    (fun b hb => by have := hb.imp id sBlk_some; omega) hg rfl (fun x s A B h hk => h.keep fun b hb _ => by have := sBlk_some hb; exact hk _ (by omega) (by omega))
    (fun pre V => AddI w b x y al n (pre.map (addF N S P x y)) V)
    ?hI ?h0 (fun l => { tmps := #[.int .i64 m, .int .i64 b, .int .u64 x, .int .u64 y, undef, .pointer (some ⟨w.heap.size, 0, none⟩), .pointer (some ⟨w.heap.size + 1, 0, none⟩), .pointer (some ⟨w.heap.size + 1 + 1, 0, none⟩), .slice none 0 0, .int .i64 0, .int .i64 0, .pointer (some ⟨w.heap.size + 1 + 1 + 1 + 1, 0, none⟩), .pointer (some ⟨w.heap.size + 1 + 1 + 1 + 1 + 1, 0, none⟩), .pointer (some ⟨w.heap.size + 1 + 1 + 1 + 1 + 1 + 1, 0, none⟩), .slice (some ⟨w.heap.size + 1 + 1 + 1 + 1 + 1 + 1 + 1 + 1 + 1 + 1 + 1 + 1, 0, none⟩) 2 2, .int .i64 m, .int .i64 b, .int .u64 x, .int .u64 y, .int .i64 0, .int .i64 0, .bool false, undef, .int .i64 b, .int .i64 c, .int .i64 n, .slice (some ⟨w.heap.size + 1 + 1 + 1, 0, none⟩) n n, .int .i64 m, .int .i64 b, .int .i64 ((m : Int) + (b : Int)), .int .i64 al, .func (.func 48) #[] #[.pointer (some ⟨w.heap.size + 1 + 1 + 1 + 1 + 1, 0, none⟩), .pointer (some ⟨w.heap.size, 0, none⟩)], .int .i64 al, .int .u64 N, .int .i64 al, .int .u64 N, .slice (some ⟨w.heap.size + 1 + 1 + 1 + 1 + 1 + 1 + 1, 0, none⟩) 2 2, .func (.func 77) #[] #[.pointer (some ⟨w.heap.size + 1 + 1 + 1 + 1 + 1 + 1 + 1 + 1, 0, none⟩)], .slice (some ⟨w.heap.size + 1 + 1 + 1 + 1 + 1 + 1 + 1 + 1 + 1 + 1 + 1 + 1, 0, none⟩) 2 2, undef, undef, undef, undef, undef, undef, undef, undef, undef, undef, undef, undef, undef, undef, undef, undef, undef, undef, undef, undef, undef, undef, undef, undef, undef, undef, undef, undef, undef, undef, undef], defers := [] }) ?assign ?body ?done
  case hI =>
    rintro pre A B ⟨i1, i2, i3, i4, i5, i6, i7, i8⟩ hc
    exact ⟨(hc.block _ (block_lt i1) (by omega)).trans i1, (hc.block _ (block_lt i2) (by omega)).trans i2, (hc.block _ (block_lt i3) (by omega)).trans i3, (hc.block _ (block_lt i4) (by omega)).trans i4, (hc.block _ (block_lt i5) (by omega)).trans i5, (hc.block _ (block_lt i6) (by omega)).trans i6, (hc.block _ (block_lt i7) (by omega)).trans i7, i8.trans (hc.below i8.size fun k hk => by omega)⟩
  case h0 => exact hA0
  case assign =>
    intro l' x V K hK
    gi_wp2
    exact hK
  case body =>
    rintro l' pre l V HI hpre hh hsV
    obtain ⟨p, q, rfl, hp, hq⟩ := allL_two_mem (hpre.subset (by simp) : l ∈ allL [(N : Int), (N : Int)])
    have hlenp : pre.length + 1 ≤ N * N := by have := hpre.length_le; rw [allL_two_len] at this; simpa using this
    have hNN : N * N ≤ 32 * 32 := Nat.mul_le_mul hN64 hN64
    have hhB : Rd V 1 (.slice (some ⟨w.heap.size + 1 + 1 + 1 + 1 + 1 + 1 + 1 + 1 + 1 + 1 + 1 + 1, 0, none⟩) 2 2) 2 (u64s [(p : Int), (q : Int)]) := by rw [← s9]; exact hh
    have cl0 : V.cell? ⟨w.heap.size + 1 + 1 + 1 + 1 + 1 + 1 + 1 + 1 + 1 + 1 + 1 + 1, 0, none⟩ = some (.int .u64 p) := by
      obtain ⟨b', off, e1, e2⟩ := hhB.at (by omega)
      cases e1
      exact e2 0 _ rfl
    have cl1 : V.cell? ⟨w.heap.size + 1 + 1 + 1 + 1 + 1 + 1 + 1 + 1 + 1 + 1 + 1 + 1, 1, none⟩ = some (.int .u64 q) := by
      obtain ⟨b', off, e1, e2⟩ := hhB.at (by omega)
      cases e1
      exact e2 1 _ rfl
    obtain ⟨idx, hidx⟩ : ∃ idx, idx = addI N S P x y p q := ⟨_, rfl⟩
    have hin : idx < n := by
      rw [hidx, HNP.out.1]
      exact addI_lt hS0 hP0 HNP.out.2
    obtain ⟨d, hd⟩ : ∃ d, d = (pre.map (addF N S P x y)).count idx := ⟨_, rfl⟩
    have hdb : d ≤ 1024 := by have := List.count_le_length (a := idx) (l := pre.map (addF N S P x y)); rw [List.length_map] at this; omega
    have hdv := cnt_at n (pre.map (addF N S P x y)) hin
    rw [← hd] at hdv
    have hfl : addF N S P x y [(p : Int), (q : Int)] = idx := by rw [hidx]; rfl
    have hsn : cnt n ((pre ++ [[(p : Int), (q : Int)]]).map (addF N S P x y)) = (cnt n (pre.map (addF N S P x y))).set idx ((d : Int) + 1) := by
      rw [List.map_append, List.map_cons, List.map_nil, hfl, cnt_snoc n _ hin, hdv]
    have cv : V.cell? ⟨w.heap.size + 1 + 1 + 1, idx, none⟩ = some (.int .u64 d) := by
      refine cell_of HI.i4 idx ?_
      have := u64s_at (cnt n (pre.map (addF N S P x y))) idx (by rw [cnt_len]; exact hin)
      rw [hdv] at this
      simpa using this
    have fv := frozen_of HI.i4 idx
    have c1 := cell0_of HI.i1
    have c2 := cell0_of HI.i2
    have c3 := cell0_of HI.i3
    have c5 := cell0_of HI.i5
    have c6 := cell0_of HI.i6
    have c7 := cell0_of HI.i7
    have hT := fun z k hz => addTop_any al b s z (w.heap.size + 1 + 1 + 1 + 1 + 1) w.heap.size (V.drewN k) hal5 HALS.out hz (by unfold World.cell?; rw [drewN_heap]; exact c6) (by unfold World.cell?; rw [drewN_heap]; exact c1)
    rw [← HN2.out.1, ← HN2.out.2] at hT
    obtain ⟨X1, hX1⟩ : ∃ X, X = p * x := ⟨_, rfl⟩
    obtain ⟨Y1, hY1⟩ : ∃ X, X = p * y := ⟨_, rfl⟩
    have hX1b : X1 ≤ 32 * 8 := by rw [hX1]; exact Nat.mul_le_mul (by omega) (by omega)
    have hY1b : Y1 ≤ 32 * 8 := by rw [hY1]; exact Nat.mul_le_mul (by omega) (by omega)
    have hw1 : IntKind.u64.wrap ((p : Int) * (x : Int)) = (X1 : Int) := by rw [show ((p : Int) * (x : Int)) = (X1 : Int) by rw [hX1]; simp, IntKind.wrap_u64]; omega
    have hw2 : IntKind.u64.wrap ((p : Int) * (y : Int)) = (Y1 : Int) := by rw [show ((p : Int) * (y : Int)) = (Y1 : Int) by rw [hY1]; simp, IntKind.wrap_u64]; omega
    obtain ⟨U1, hU1⟩ : ∃ U, U = (X1 + q) % N / S := ⟨_, rfl⟩
    obtain ⟨U2, hU2⟩ : ∃ U, U = (Y1 + q) % N / S := ⟨_, rfl⟩
    have hcl : ∀ Z U : Nat, Z + q ≤ 1000 → U = (Z + q) % N / S → ∀ d k, CallsIn Fence.wide d Try.prog 48 #[.int .u64 ((Z : Int) + (q : Int)), .pointer (some ⟨w.heap.size + 1 + 1 + 1 + 1 + 1, 0, none⟩), .pointer (some ⟨w.heap.size, 0, none⟩)] (V.drewN k) fun e W' => e = .returned (.int .u64 (U : Int)) ∧ ∃ m, W' = V.drewN m := by
      intro Z U hZ hU d k
      have := (callsIn_wide (n := d)).2 (hT (Z + q) k hZ)
      rw [Int.natCast_add] at this
      refine this.mono ?_
      rintro e W' ⟨he, rfl⟩
      exact ⟨by rw [he, hU], k + 1, rfl⟩
    have hcl1 := hcl X1 U1 (by omega) hU1
    have hcl2 := hcl Y1 U2 (by omega) hU2
    have hNmod : ∀ z, z % N / S < P := by
      intro z
      rw [Nat.div_lt_iff_lt_mul hS0, Nat.mul_comm P S, ← HNP.out.2]
      exact Nat.mod_lt _ (by rw [HNP.out.2]; exact Nat.mul_pos hS0 hP0)
    have hidx2 : idx = U1 * P + U2 := by rw [hidx, hU1, hU2, hX1, hY1]; rfl
    have hU2P : U2 < P := by rw [hU2]; exact hNmod _
    obtain ⟨UP, hUP⟩ : ∃ X, X = U1 * P := ⟨_, rfl⟩
    have hshl : IntKind.u64.wrap ((U1 : Int) * (2 : Int) ^ b) = (UP : Int) := by
      rw [show ((2 : Int) ^ b) = (P : Int) by rw [HNP2.out]; simp, show ((U1 : Int) * (P : Int)) = (UP : Int) by rw [hUP]; simp, IntKind.wrap_u64]; omega
    have hor : bits .or .u64 (UP : Int) (U2 : Int) = (idx : Int) := by
      have h := bits_or_u64_nat UP U2 (by omega) (by omega)
      rw [h, hidx2, ← hUP, hUP, HNP2.out, Nat.mul_comm U1, Nat.two_pow_add_eq_or_of_lt (by rw [← HNP2.out]; exact hU2P)]
    have HII := Lib.hid HI
    have HSN := Lib.hid hsn
    have hmx : Try.prog.follows .mixedOrders = true := by kernel_rfl
    clear hT hcl hg hpre hX1 hY1 hU1 hU2 hidx hidx2 hd hdv hUP hfl hsn hh hhB HI hNmod
    gi_wp2
    refine wpIn_region_last_round l' 30 hmx (by kernel_rfl) (by kernel_rfl) (by kernel_rfl) (by simp) ?_
    simp only [List.take_succ_cons, List.take_zero, List.drop_succ_cons, List.drop_zero]
    repeat (gi_big_quiet_step ((refine ⟨rfl, ?_⟩; first | (with_reducible exact hcl1 _ _) | (with_reducible exact hcl2 _ _))))
    refine wpQuietIn_nil ?_
    rintro _ ⟨nq, rfl⟩
    gi_wp2
    exact add_round (L := pre.map (addF N S P x y)) _ s9 HII.out HSN.out _ _ (fun k hk => by have := hk.imp id (fun h => h.imp id sBlk_some); omega) (drewN_heap _ _) (below_drewN' HII.out.i8 _) (by simp)
  case done =>
    rintro V HI hK
    have c5 := cell0_of HI.i5
    have i8 := HI.i8
    have i4 := HI.i4
    rw [allL_two_map] at i4
    have HII := Lib.hid i4
    clear hg HI i4
    gi_wp2
    refine ⟨by simp, .inl ⟨_, _, rfl, run_takeDeferred (w := V) hK, ?_⟩⟩
    refine ⟨_, results_tmp2 rfl _ _ _, _, rfl, ?_, ?_⟩
    · have h4 : (V.putObj W9.heap.size (.deferred none)).heap[w.heap.size + 1 + 1 + 1]? = some (.cells (u64s (cnt n (addL N S P x y))).toArray 22 (0, 0)) := (World.putObj_heap_other (by omega)).trans HII.out
      exact ⟨by rw [u64s_len, cnt_len, Nat.mul_one], by unfold maxLen; omega, _, _, rfl, Nat.le_refl _, .inr ⟨_, 0, rfl, fun i u hu => cell_of h4 _ (by simpa using hu)⟩⟩
    · exact i8.trans ((chg_putObj (S := fun k => k = W9.heap.size) V W9.heap.size (.deferred none) rfl).below i8.size (fun k hk => by omega))

end Go.Proofs.Ytnnaijbdimdhpaa
