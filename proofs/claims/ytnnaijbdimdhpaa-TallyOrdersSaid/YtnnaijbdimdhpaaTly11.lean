/-
  tally.Odd: how many odd multipliers make two keys meet.
-/
import Derived.Test.YtnnaijbdimdhpaaTly10
import Derived.Test.YtnnaijbdimdhpaaTlyOddN
import Derived.Test.YtnnaijbdimdhpaaRQuiet
namespace Go.Proofs.Ytnnaijbdimdhpaa
open Go.RowKit Go.Shelf
set_option linter.unusedVariables false
attribute [local go_sem] Oper.semAt_some wide_fn

set_option maxRecDepth 100000 in
set_option maxHeartbeats 2000000 in
theorem oddTop_any (m b s z wb bb : Nat) (W : World) (hm : m ≤ 12) (hb1 : 1 ≤ b) (hs : m = s + b) (hz : z ≤ 4096 * 4096) (cw : W.cell? ⟨wb, 0, none⟩ = some (.int .i64 m)) (cb : W.cell? ⟨bb, 0, none⟩ = some (.int .i64 b)) :
    Calls Try.prog 50 #[.int .u64 z, .pointer (some ⟨wb, 0, none⟩), .pointer (some ⟨bb, 0, none⟩)] W fun e W' => e = .returned (.int .u64 (z % 2 ^ m / 2 ^ s * 2 ^ s : Nat)) ∧ W' = W.drew := by
  obtain ⟨N, hN⟩ : ∃ N, N = 2 ^ m := ⟨_, rfl⟩
  have hN64 : N ≤ 4096 := by rw [hN]; exact Nat.pow_le_pow_right (j := 12) (by omega) hm
  have hpw : IntKind.u64.wrap ((2 : Int) ^ m) = (N : Int) := by
    rw [show ((2 : Int) ^ m) = (N : Int) by rw [hN]; simp, IntKind.wrap_u64]; omega
  have hband : bits .and .u64 (z : Int) ((N : Int) - 1) = ((z % N : Nat) : Int) := by
    have hN1 : 0 < 2 ^ m := Nat.two_pow_pos m
    rw [show ((N : Int) - 1) = (((2 ^ m - 1 : Nat)) : Int) by rw [hN]; omega, bits_and_u64_nat _ _ (by omega) (by rw [← hN]; omega), Nat.and_two_pow_sub_one_eq_mod, hN]
  have hN0 : 0 < N := by rw [hN]; exact Nat.two_pow_pos m
  obtain ⟨S, hS⟩ : ∃ S, S = 2 ^ s := ⟨_, rfl⟩
  have hS0 : 0 < S := by rw [hS]; exact Nat.two_pow_pos s
  have hr := Nat.mod_lt z hN0
  rw [← hN, ← hS]
  clear hN
  generalize z % N = R at *
  have hdiv : (R : Int) / (2 : Int) ^ s = ((R / S : Nat) : Int) := by rw [show ((2 : Int) ^ s) = (S : Int) by rw [hS]; simp]; omega
  have hmulle := Nat.div_mul_le_self R S
  have hQ : R / S ≤ R := Nat.div_le_self R S
  generalize R / S = Q at *
  obtain ⟨T, hT⟩ : ∃ T, T = Q * S := ⟨_, rfl⟩
  rw [← hT] at hmulle
  have hshl : IntKind.u64.wrap ((Q : Int) * (2 : Int) ^ s) = (T : Int) := by
    rw [show ((2 : Int) ^ s) = (S : Int) by rw [hS]; simp, show ((Q : Int) * (S : Int)) = (T : Int) by rw [hT]; simp, IntKind.wrap_u64]; omega
  have hsub : (m : Int) - (b : Int) = (s : Int) := by omega
  have hs12 : s ≤ 12 := by omega
  rw [← hT]
  clear hS hT hs
  go_enter Try.func50, Try.ntmps50
  go_wp2
  go_region
  all_goals go_wp2
  all_goals go_ret
  all_goals exact ⟨rfl, rfl⟩

/-- what stands in Odd's boxes -/
structure OddI (w : World) (m b x y c : Nat) (V : World) : Prop where
  i1 : V.heap[w.heap.size]? = some (.cells #[.int .i64 m] 3 (0, 0))
  i2 : V.heap[w.heap.size + 1]? = some (.cells #[.int .i64 b] 3 (0, 0))
  i3 : V.heap[w.heap.size + 1 + 1]? = some (.cells #[.int .u64 x] 22 (0, 0))
  i4 : V.heap[w.heap.size + 1 + 1 + 1]? = some (.cells #[.int .u64 y] 22 (0, 0))
  i5 : V.heap[w.heap.size + 1 + 1 + 1 + 1]? = some (.cells #[.func (.func 50) #[] #[.pointer (some ⟨w.heap.size, 0, none⟩), .pointer (some ⟨w.heap.size + 1, 0, none⟩)]] 75 (0, 0))
  i6 : V.heap[w.heap.size + 1 + 1 + 1 + 1 + 1]? = some (.cells #[.int .u64 c] 22 (0, 0))
  i7 : Below w.heap.size w V
theorem OddI.heap {w : World} {m b x y c : Nat} {V X : World} (h : OddI w m b x y c V) (hX : X.heap = V.heap) (hB : Below w.heap.size w X) : OddI w m b x y c X :=
  ⟨by rw [hX]; exact h.i1, by rw [hX]; exact h.i2, by rw [hX]; exact h.i3, by rw [hX]; exact h.i4, by rw [hX]; exact h.i5, by rw [hX]; exact h.i6, hB⟩
theorem OddI.set {w : World} {m b x y c d : Nat} {V : World} (h : OddI w m b x y c V) (v : Value) (hv : v = .int .u64 d) : OddI w m b x y d (V.setCell ⟨w.heap.size + 1 + 1 + 1 + 1 + 1, 0, none⟩ v) := by
  subst hv
  refine ⟨(Below.heap_setCell _ _ _ _ (by show w.heap.size ≠ w.heap.size + 1 + 1 + 1 + 1 + 1; omega)).trans h.i1, (Below.heap_setCell _ _ _ _ (by show w.heap.size + 1 ≠ w.heap.size + 1 + 1 + 1 + 1 + 1; omega)).trans h.i2, (Below.heap_setCell _ _ _ _ (by show w.heap.size + 1 + 1 ≠ w.heap.size + 1 + 1 + 1 + 1 + 1; omega)).trans h.i3, (Below.heap_setCell _ _ _ _ (by show w.heap.size + 1 + 1 + 1 ≠ w.heap.size + 1 + 1 + 1 + 1 + 1; omega)).trans h.i4, (Below.heap_setCell _ _ _ _ (by show w.heap.size + 1 + 1 + 1 + 1 ≠ w.heap.size + 1 + 1 + 1 + 1 + 1; omega)).trans h.i5, set_of h.i6 0 _, h.i7.setCell (by show w.heap.size ≤ w.heap.size + 1 + 1 + 1 + 1 + 1; omega) _⟩

/-- how many odd words bring two keys to one number, of some words -/
def oddN (N S x y : Nat) (pre : List Nat) : Nat := pre.countP fun a => a % 2 == 1 && a * x % N / S == a * y % N / S
theorem oddN_snoc (N S x y : Nat) (pre : List Nat) (a : Nat) : oddN N S x y (pre ++ [a]) = oddN N S x y pre + (if a % 2 = 1 ∧ a * x % N / S = a * y % N / S then 1 else 0) := by
  unfold oddN
  rw [List.countP_append, List.countP_singleton]
  simp

/-- a round's end: the count's cell has got its number -/
theorem odd_round {w V : World} {m b x y N S c d s7 : Nat} {pre pre' : List Nat} (l : Nat) (A : Act) (hs : s7 = w.heap.size + 1 + 1 + 1 + 1 + 1 + 1 + 1) (h : OddI w m b x y c V) (hd : oddN N S x y pre' = d) (X : World) (v : Value) (hX : X.heap = V.heap) (hB : Below w.heap.size w X) (hv : v = .int .u64 d) :
    gPost s7 (2 + 9) (fun _ => False) (fun pre V => OddI w m b x y (oddN N S x y pre) V) pre' V .normal A (X.setCell ⟨w.heap.size + 1 + 1 + 1 + 1 + 1, 0, none⟩ v) := by
  refine ⟨?_, ?_, ?_⟩
  · show OddI w m b x y (oddN N S x y pre') _
    rw [hd]
    exact (h.heap hX hB).set v hv
  · rw [show (X.setCell ⟨w.heap.size + 1 + 1 + 1 + 1 + 1, 0, none⟩ v).heap.size = X.heap.size by simp [World.setCell], hX]
    exact Nat.le_refl _
  · intro k hk hkl
    have hk := hk.resolve_right id
    exact (Below.heap_setCell _ _ _ _ (by show k ≠ w.heap.size + 1 + 1 + 1 + 1 + 1; omega)).trans (by rw [hX])
theorem odd_round0 {w V : World} {m b x y N S c s7 : Nat} {pre pre' : List Nat} (A : Act) (h : OddI w m b x y c V) (hd : oddN N S x y pre' = c) (X : World) (hX : X.heap = V.heap) (hB : Below w.heap.size w X) :
    gPost s7 (2 + 9) (fun _ => False) (fun pre V => OddI w m b x y (oddN N S x y pre) V) pre' V .normal A X := by
  refine ⟨?_, ?_, ?_⟩
  · show OddI w m b x y (oddN N S x y pre') _
    rw [hd]
    exact h.heap hX hB
  · rw [hX]; exact Nat.le_refl _
  · intro k _ _
    rw [hX]

set_option maxRecDepth 100000 in
set_option maxHeartbeats 2000000 in
theorem odd_ok (m b s x y : Nat) (w : World) (hm1 : 1 ≤ m) (hm : m ≤ 12) (hb1 : 1 ≤ b) (hs : m = s + b) (hx : x < 2 ^ m) (hy : y < 2 ^ m) (hxy : x ≠ y) :
    Calls Try.prog 22 #[.int .i64 m, .int .i64 b, .int .u64 x, .int .u64 y] w fun e w' => e = .returned (.tuple #[.int .u64 (oddC (2 ^ m) (2 ^ s) x y), .int .i64 0]) ∧ Below w.heap.size w w' := by
  have h2 := fun W => two_any 12 m b x y W (by omega) (by have := Nat.pow_le_pow_right (n := 2) (by omega) hm; omega) (by have := Nat.pow_le_pow_right (n := 2) (by omega) hm; omega)
  have hE : keysE 12 m b x y = 0 := by
    unfold keysE
    rw [if_neg (by omega), Int.toNat_natCast, if_neg (by omega), if_neg hxy]
  rw [hE] at h2
  have HS := Lib.hid hs
  have HX := Lib.hid hx
  have HY := Lib.hid hy
  clear hE hs hx hy
  obtain ⟨W1, e1, s1, n1, k1⟩ := alloc_facts w (.cells #[.int .i64 m] 3)
  obtain ⟨W2, e2, s2, n2, k2⟩ := alloc_facts W1 (.cells #[.int .i64 b] 3)
  obtain ⟨W3, e3, s3, n3, k3⟩ := alloc_facts W2 (.cells #[.int .u64 x] 22)
  obtain ⟨W4, e4, s4, n4, k4⟩ := alloc_facts W3 (.cells #[.int .u64 y] 22)
  obtain ⟨W5, e5, s5, n5, k5⟩ := alloc_facts W4 (.cells #[.func (.func 50) #[] #[.pointer (some ⟨w.heap.size, 0, none⟩), .pointer (some ⟨w.heap.size + 1, 0, none⟩)]] 75)
  obtain ⟨W6, e6, s6, n6, k6⟩ := alloc_facts W5 (.cells #[.int .u64 0] 22)
  obtain ⟨W7, e7, s7, n7, k7⟩ := alloc_facts W6 (.cells #[.int .i64 m] 3)
  rw [s1] at n2 s2
  rw [s2] at n3 s3
  rw [s3] at n4 s4
  rw [s4] at n5 s5
  rw [s5] at n6 s6
  rw [s6] at n7 s7
  have hb7 : Below w.heap.size w W7 := by
    rw [e7, e6, e5, e4, e3, e2, e1]
    exact ((((((Below.refl _ w).alloc (Nat.le_refl _) _).alloc (by simp) _).alloc (by simp; omega) _).alloc (by simp; omega) _).alloc (by simp; omega) _).alloc (by simp; omega) _ |>.alloc (by simp; omega) _
  have hg := words_gives (w.heap.size + 1 + 1 + 1 + 1 + 1 + 1) m W7 hm1 hm (cell0_of n7)
  obtain ⟨N, hN⟩ : ∃ N, N = 2 ^ m := ⟨_, rfl⟩
  have hN64 : N ≤ 4096 := by rw [hN]; exact Nat.pow_le_pow_right (n := 2) (j := 12) (by omega) hm
  have hT := fun z W hz cw cb => oddTop_any m b s z w.heap.size (w.heap.size + 1) W hm hb1 HS.out hz cw cb
  rw [← hN] at hg hT HX HY ⊢
  obtain ⟨S, hS⟩ : ∃ S, S = 2 ^ s := ⟨_, rfl⟩
  rw [← hS] at hT ⊢
  have hS0 : 0 < S := by rw [hS]; exact Nat.two_pow_pos s
  clear hN hS
  refine (callsIn_wide (n := 0)).1 ?_
  refine callsIn_of_wp_marks Try.func22 rfl trivial ?_ rfl
  simp only [Try.ntmps22, List.size_toArray, List.length_cons, List.length_nil, Nat.reduceAdd, Nat.reduceSub, Array.replicate_succ, Array.replicate_zero, List.push_toArray, List.append_toArray, List.nil_append, List.cons_append]
  gi_wp2_with ((try refine ⟨trivial, ?_⟩); (try refine ⟨rfl, ?_⟩); first | (refine (callsIn_wide.2 (h2 _)).mono ?_; rintro e w' ⟨rfl, rfl⟩) | (refine (callsIn_wide.2 (twords_any _ _)).mono ?_; rintro e w' ⟨rfl, rfl⟩))
  rw [← e1, ← e2, ← e3, ← e4, ← e5, ← e6, ← e7]
  refine wp_range_own (gf := 79) (lb := #[.pointer (some ⟨w.heap.size + 1 + 1 + 1 + 1 + 1 + 1, 0, none⟩)]) rfl (enters_of Try.func79 (by kernel_rfl) rfl)
    (fun b hb => hb.elim) hg rfl (fun x s A B h hk => trivial)
    (fun pre V => OddI w m b x y (oddN N S x y pre) V)
    ?hI ?h0 (fun a => { tmps := #[.int .i64 m, .int .i64 b, .int .u64 x, .int .u64 y, .pointer (some ⟨w.heap.size, 0, none⟩), .pointer (some ⟨w.heap.size + 1, 0, none⟩), .pointer (some ⟨w.heap.size + 1 + 1, 0, none⟩), .pointer (some ⟨w.heap.size + 1 + 1 + 1, 0, none⟩), .int .u64 0, .int .i64 0, .int .i64 0, .pointer (some ⟨w.heap.size + 1 + 1 + 1 + 1, 0, none⟩), .pointer (some ⟨w.heap.size + 1 + 1 + 1 + 1 + 1, 0, none⟩), .int .u64 a, .int .i64 m, .int .i64 b, .int .u64 x, .int .u64 y, .int .i64 0, .int .i64 0, .bool false, undef, .func (.func 50) #[] #[.pointer (some ⟨w.heap.size, 0, none⟩), .pointer (some ⟨w.heap.size + 1, 0, none⟩)], .int .i64 m, .func (.func 79) #[] #[.pointer (some ⟨w.heap.size + 1 + 1 + 1 + 1 + 1 + 1, 0, none⟩)], .int .u64 a, undef, undef, undef, undef, undef, undef, undef, undef, undef, undef, undef, undef, undef, undef, undef, undef, undef, undef, undef], defers := [] }) ?assign ?body ?done
  case hI =>
    rintro pre A B ⟨i1, i2, i3, i4, i5, i6, i7⟩ hc
    exact ⟨(hc.block _ (block_lt i1) (by omega)).trans i1, (hc.block _ (block_lt i2) (by omega)).trans i2, (hc.block _ (block_lt i3) (by omega)).trans i3, (hc.block _ (block_lt i4) (by omega)).trans i4, (hc.block _ (block_lt i5) (by omega)).trans i5, (hc.block _ (block_lt i6) (by omega)).trans i6, i7.trans (hc.below i7.size fun k hk => by omega)⟩
  case h0 =>
    exact ⟨(k7 _ (by omega)).trans ((k6 _ (by omega)).trans ((k5 _ (by omega)).trans ((k4 _ (by omega)).trans ((k3 _ (by omega)).trans ((k2 _ (by omega)).trans n1))))),
      (k7 _ (by omega)).trans ((k6 _ (by omega)).trans ((k5 _ (by omega)).trans ((k4 _ (by omega)).trans ((k3 _ (by omega)).trans n2)))),
      (k7 _ (by omega)).trans ((k6 _ (by omega)).trans ((k5 _ (by omega)).trans ((k4 _ (by omega)).trans n3))),
      (k7 _ (by omega)).trans ((k6 _ (by omega)).trans ((k5 _ (by omega)).trans n4)), (k7 _ (by omega)).trans ((k6 _ (by omega)).trans n5), (k7 _ (by omega)).trans n6, hb7⟩
  case assign =>
    intro l' x V K hK
    gi_wp2
    exact hK
  case body =>
    rintro l' pre a V HI hpre _ hsV
    have haN : a < N := List.mem_range.1 (hpre.subset (by simp))
    have hlenp : pre.length + 1 ≤ N := by have := hpre.length_le; simpa using this
    obtain ⟨c, hc⟩ : ∃ c, c = oddN N S x y pre := ⟨_, rfl⟩
    have hcb : c ≤ 4096 := by rw [hc]; exact Nat.le_trans List.countP_le_length (by omega)
    have hcn := oddN_snoc N S x y pre a
    rw [← hc] at hcn HI
    have hsv : w.heap.size + 1 + 1 + 1 + 1 + 1 + 1 ≤ V.heap.size := by omega
    have c1 := cell0_of HI.i1
    have c2 := cell0_of HI.i2
    have c3 := cell0_of HI.i3
    have c4 := cell0_of HI.i4
    have c5 := cell0_of HI.i5
    have c6 := cell0_of HI.i6
    have f6 := frozen_of HI.i6 0
    have HII := Lib.hid HI
    have hmx : Try.prog.follows .mixedOrders = true := by kernel_rfl
    obtain ⟨Z1, hZ1⟩ : ∃ Z, Z = a * x := ⟨_, rfl⟩
    obtain ⟨Z2, hZ2⟩ : ∃ Z, Z = a * y := ⟨_, rfl⟩
    have hZ1b : Z1 ≤ 4096 * 4096 := by rw [hZ1]; exact Nat.mul_le_mul (by omega) (by have := HX.out; omega)
    have hZ2b : Z2 ≤ 4096 * 4096 := by rw [hZ2]; exact Nat.mul_le_mul (by omega) (by have := HY.out; omega)
    have hw1 : IntKind.u64.wrap ((a : Int) * (x : Int)) = (Z1 : Int) := by rw [show ((a : Int) * (x : Int)) = (Z1 : Int) by rw [hZ1]; simp, IntKind.wrap_u64]; omega
    have hw2 : IntKind.u64.wrap ((a : Int) * (y : Int)) = (Z2 : Int) := by rw [show ((a : Int) * (y : Int)) = (Z2 : Int) by rw [hZ2]; simp, IntKind.wrap_u64]; omega
    have hcl : ∀ Z : Nat, Z ≤ 4096 * 4096 → ∀ d k, CallsIn Fence.wide d Try.prog 50 #[.int .u64 Z, .pointer (some ⟨w.heap.size, 0, none⟩), .pointer (some ⟨w.heap.size + 1, 0, none⟩)] (V.drewN k) fun e W' => e = .returned (.int .u64 (Z % N / S * S : Nat)) ∧ ∃ m, W' = V.drewN m := by
      intro Z hZ d k
      refine (callsIn_wide.2 (hT Z (V.drewN k) hZ (by unfold World.cell?; rw [drewN_heap]; exact c1) (by unfold World.cell?; rw [drewN_heap]; exact c2))).mono ?_
      rintro e W' ⟨he, rfl⟩
      exact ⟨he, k + 1, rfl⟩
    have hcl1 := hcl Z1 hZ1b
    have hcl2 := hcl Z2 hZ2b
    clear hcl
    rw [← hZ1, ← hZ2] at hcn
    have hinj : ((Z1 % N / S * S : Nat) : Int) = ((Z2 % N / S * S : Nat) : Int) ↔ Z1 % N / S = Z2 % N / S := by
      rw [Int.ofNat_inj]
      exact ⟨fun h => Nat.eq_of_mul_eq_mul_right hS0 h, fun h => by rw [h]⟩
    generalize hT1 : Z1 % N / S * S = T1 at *
    generalize hT2 : Z2 % N / S * S = T2 at *
    generalize Z1 % N / S = U1 at *
    generalize Z2 % N / S = U2 at *
    clear hT1 hT2 hT hg hpre hZ1 hZ2
    have HC := Lib.hid hc
    clear hc
    by_cases hodd : a % 2 = 1
    · have ho : (a : Int).tmod 2 = 1 := by rw [Int.tmod_eq_emod_of_nonneg (by omega)]; omega
      by_cases hU : U1 = U2
      · have hTT : ((T1 : Int) == (T2 : Int)) = true := by rw [beq_iff_eq]; exact hinj.2 hU
        rw [if_pos ⟨hodd, hU⟩] at hcn
        have HCN := Lib.hid hcn
        clear hinj hcn hU hodd
        gi_wp2
        refine wpIn_region_quiet_round l' hmx (by kernel_rfl) (by kernel_rfl) ?_
        repeat (gi_big_quiet_step ((refine ⟨rfl, ?_⟩; first | (with_reducible exact hcl1 _ _) | (with_reducible exact hcl2 _ _))))
        refine wpQuietIn_nil ?_
        rintro _ ⟨nq, rfl⟩
        gi_wp2
        exact odd_round (pre := pre) l' _ s7 HII.out HCN.out _ _ (drewN_heap _ _) (below_drewN' HII.out.i7 _) (by simp)
      · have hTT : ((T1 : Int) == (T2 : Int)) = false := by rw [beq_eq_false_iff_ne]; exact fun h => hU (hinj.1 h)
        rw [if_neg (fun h => hU h.2)] at hcn
        have HCN := Lib.hid hcn
        clear hinj hcn hU hodd
        gi_wp2
        refine wpIn_region_quiet_round l' hmx (by kernel_rfl) (by kernel_rfl) ?_
        repeat (gi_big_quiet_step ((refine ⟨rfl, ?_⟩; first | (with_reducible exact hcl1 _ _) | (with_reducible exact hcl2 _ _))))
        refine wpQuietIn_nil ?_
        rintro _ ⟨nq, rfl⟩
        gi_wp2
        exact odd_round0 (pre := pre) _ HII.out HCN.out _ (drewN_heap _ _) (below_drewN' HII.out.i7 _)
    · have ho : (a : Int).tmod 2 = 0 := by rw [Int.tmod_eq_emod_of_nonneg (by omega)]; omega
      rw [if_neg (fun h => hodd h.1)] at hcn
      have HCN := Lib.hid hcn
      clear hinj hcn hodd hcl1 hcl2
      gi_wp2
      refine wpIn_region_quiet_round l' hmx (by kernel_rfl) (by kernel_rfl) ?_
      repeat (gi_big_quiet_step ((refine ⟨rfl, ?_⟩; first | (with_reducible exact hcl1 _ _) | (with_reducible exact hcl2 _ _))))
      refine wpQuietIn_nil ?_
      rintro _ ⟨nq, rfl⟩
      gi_wp2
      exact odd_round0 (pre := pre) _ HII.out HCN.out _ (drewN_heap _ _) (below_drewN' HII.out.i7 _)
  case done =>
    rintro V HI hK
    have c6 := cell0_of HI.i6
    have i7 := HI.i7
    clear hT hg h2
    have HII := Lib.hid HI
    clear HI
    gi_wp2
    refine ⟨by simp, .inl ⟨_, _, rfl, run_takeDeferred (w := V) hK, ?_⟩⟩
    refine ⟨_, results_tmp2 rfl _ _ _, rfl, ?_⟩
    exact i7.trans ((chg_putObj (S := fun k => k = W7.heap.size) V W7.heap.size (.deferred none) rfl).below i7.size (fun k hk => by omega))

set_option maxRecDepth 100000 in
set_option maxHeartbeats 2000000 in
theorem odd_bad (m b : Int) (x y : Nat) (w : World) (hx : x < 18446744073709551616) (hy : y < 18446744073709551616) (hE : keysE 12 m b x y ≠ 0) :
    Calls Try.prog 22 #[.int .i64 m, .int .i64 b, .int .u64 x, .int .u64 y] w fun e w' => e = .returned (.tuple #[.int .u64 0, .int .i64 (keysE 12 m b x y)]) ∧ Below w.heap.size w w' := by
  have h2 := fun W => two_any 12 m b x y W (by omega) hx hy
  obtain ⟨W1, e1, s1, n1, k1⟩ := alloc_facts w (.cells #[.int .i64 m] 3)
  obtain ⟨W2, e2, s2, n2, k2⟩ := alloc_facts W1 (.cells #[.int .i64 b] 3)
  obtain ⟨W3, e3, s3, n3, k3⟩ := alloc_facts W2 (.cells #[.int .u64 x] 22)
  obtain ⟨W4, e4, s4, n4, k4⟩ := alloc_facts W3 (.cells #[.int .u64 y] 22)
  rw [s1] at n2 s2
  rw [s2] at n3 s3
  rw [s3] at n4 s4
  have hb4 : Below w.heap.size w W4 := by
    rw [e4, e3, e2, e1]
    exact (((((Below.refl _ w).alloc (Nat.le_refl _) _).alloc (by simp) _).alloc (by simp; omega) _).alloc (by simp; omega) _)
  generalize keysE 12 m b x y = E at h2 hE ⊢
  have hne : (E != 0) = true := by simpa using hE
  clear hE
  refine (callsIn_wide (n := 0)).1 ?_
  refine callsIn_of_wp_marks Try.func22 rfl trivial ?_ rfl
  simp only [Try.ntmps22, List.size_toArray, List.length_cons, List.length_nil, Nat.reduceAdd, Nat.reduceSub, Array.replicate_succ, Array.replicate_zero, List.push_toArray, List.append_toArray, List.nil_append, List.cons_append]
  gi_wp2_with ((try refine ⟨trivial, ?_⟩); (try refine ⟨rfl, ?_⟩); (refine (callsIn_wide.2 (h2 _)).mono ?_; rintro e w' ⟨rfl, rfl⟩))
  rw [← e1, ← e2, ← e3, ← e4]
  exact ⟨_, results_tmp2 rfl _ _ _, rfl, hb4⟩

end Go.Proofs.Ytnnaijbdimdhpaa
