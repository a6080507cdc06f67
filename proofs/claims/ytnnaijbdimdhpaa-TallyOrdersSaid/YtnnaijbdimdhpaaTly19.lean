/-
  tally.Poly: how many lists of coefficients come to any targets.
-/
import Derived.Test.YtnnaijbdimdhpaaTly18
namespace Go.Proofs.Ytnnaijbdimdhpaa
open Go.RowKit Go.Shelf
set_option linter.unusedVariables false
attribute [local go_sem] Oper.semAt_some wide_fn

theorem allL_rep_mem {p : Nat} : ∀ (k : Nat) {l : List Int}, l ∈ allL (List.replicate k (p : Int)) → ∃ c : List Nat, l = castL c ∧ c.length = k ∧ ∀ a ∈ c, a < p
  | 0, l, h => ⟨[], by simpa [allL, castL] using h, rfl, by simp⟩
  | k + 1, l, h => by
    rw [List.replicate_succ] at h
    simp only [allL, Int.toNat_natCast] at h
    obtain ⟨a, ha, h⟩ := List.mem_flatMap.1 h
    obtain ⟨l', hl', rfl⟩ := List.mem_map.1 h
    obtain ⟨c, rfl, hc, hb⟩ := allL_rep_mem k hl'
    refine ⟨a :: c, rfl, by simp [hc], fun b hb' => ?_⟩
    rcases List.mem_cons.1 hb' with rfl | hb'
    · exact List.mem_range.1 ha
    · exact hb b hb'
theorem allL_rep_len (p : Nat) : ∀ k, (allL (List.replicate k (p : Int))).length = p ^ k
  | 0 => rfl
  | k + 1 => by
    rw [List.replicate_succ]
    simp only [allL, Int.toNat_natCast, List.length_flatMap, List.length_map, allL_rep_len p k, List.map_const', List.sum_replicate_nat, List.length_range]
    rw [Nat.pow_succ, Nat.mul_comm]
theorem castL_toNat (c : List Nat) : (castL c).map Int.toNat = c := by
  simp [castL, List.map_map, Function.comp_def]

/-- what stands in Poly's boxes -/
structure PolyI (w : World) (p N : Nat) (v : Value) (L : List Nat) (V : World) : Prop where
  i1 : V.heap[w.heap.size]? = some (.cells #[.int .u64 p] 22 (0, 0))
  i2 : V.heap[w.heap.size + 1]? = some (.cells #[v] 24 (0, 0))
  i3 : V.heap[w.heap.size + 1 + 1 + 1]? = some (.cells (u64s (cnt N L)).toArray 22 (0, 0))
  i4 : V.heap[w.heap.size + 1 + 1 + 1 + 1]? = some (.cells #[.slice (some ⟨w.heap.size + 1 + 1 + 1, 0, none⟩) N N] 24 (0, 0))
  i5 : Below w.heap.size w V

/-- a round's end: one count more -/
theorem poly_round {w V X : World} {p N idx d s8 : Nat} {v : Value} {L : List Nat} {f : List Int → Nat} {pre' : List (List Int)} (A : Act) (h : PolyI w p N v L V) (hL : cnt N (pre'.map f) = (cnt N L).set idx ((d : Int) + 1)) (kp : Nat → Prop) {u : Value} (hkp : ∀ k, (s8 ≤ k ∧ k < s8 + (2 + 4)) ∨ kp k → k ≠ w.heap.size + 1 + 1 + 1) (hb : Below V.heap.size V X) (hu : u = .int .u64 ((d : Int) + 1)) :
    gPost s8 (2 + 4) kp (fun pre V => PolyI w p N v (pre.map f) V) pre' V .normal A (X.setCell ⟨w.heap.size + 1 + 1 + 1, idx, none⟩ u) := by
  subst hu
  have hk : ∀ k, k ≠ w.heap.size + 1 + 1 + 1 → k < V.heap.size → (X.setCell ⟨w.heap.size + 1 + 1 + 1, idx, none⟩ (.int .u64 ((d : Int) + 1))).heap[k]? = V.heap[k]? := fun k hk hl => (Below.heap_setCell _ _ _ _ hk).trans (hb.block _ hl)
  have hs : (X.setCell ⟨w.heap.size + 1 + 1 + 1, idx, none⟩ (.int .u64 ((d : Int) + 1))).heap.size = X.heap.size := by simp [World.setCell]
  refine ⟨?_, by rw [hs]; exact hb.size, fun k hk1 hl => hk k (hkp k hk1) hl⟩
  show PolyI w p N v (pre'.map f) _
  refine ⟨(hk _ (by omega) (block_lt h.i1)).trans h.i1, (hk _ (by omega) (block_lt h.i2)).trans h.i2, ?_, (hk _ (by omega) (block_lt h.i4)).trans h.i4, (h.i5.trans (hb.mono h.i5.size)).setCell (by show w.heap.size ≤ w.heap.size + 1 + 1 + 1; omega) _⟩
  have h3 := (hb.block _ (block_lt h.i3)).trans h.i3
  rw [set_of h3 idx _, hL, u64s_set]
  simp

set_option maxRecDepth 100000 in
set_option maxHeartbeats 1000000 in
theorem poly_ok (p k : Nat) (xs : List Nat) (v : Value) (w : World) (hr : Rd w 1 v xs.length (u64s (castL xs))) (hlv : ∀ b, sBlk v = some b → b < w.heap.size) (hp : smallP p) (hk1 : 1 ≤ k) (hk : k ≤ 4) (hn1 : 1 ≤ xs.length) (hn : xs.length ≤ k) (hxs : ∀ x ∈ xs, x < p) (hnd : xs.Nodup) :
    Calls Try.prog 24 #[.int .u64 p, .int .i64 k, v] w fun e w' => ∃ bk, e = .returned (.tuple #[.slice (some ⟨bk, 0, none⟩) (p ^ xs.length) (p ^ xs.length), .int .i64 0]) ∧ Rd w' 1 (.slice (some ⟨bk, 0, none⟩) (p ^ xs.length) (p ^ xs.length)) (p ^ xs.length) (u64s (cnt (p ^ xs.length) (polyL p k xs))) ∧ Below w.heap.size w w' := by
  obtain ⟨sa, cap, rfl⟩ := hr.form
  have hcap := hr.cap_le.1
  obtain ⟨n, hnn⟩ : ∃ n, n = xs.length := ⟨_, rfl⟩
  rw [← hnn] at hr hn1 hn hcap ⊢
  obtain ⟨W, hW, sW, i1, i2, hb, hC⟩ := poly_head p (.slice sa n cap) w
  obtain ⟨hp7, hp1, hd⟩ := smallP_facts hp
  rw [hd] at hC
  have hrW := hr.below hb
  have c1 := cell0_of i1
  have c2 := cell0_of i2
  have hO := uover_any (castL xs) _ n w.heap.size p W hrW (by omega) c1
  have hov : decide (∃ x ∈ castL xs, (p : Int) ≤ x) = false := by
    refine decide_eq_false ?_
    rintro ⟨x, hx, hpx⟩
    obtain ⟨y, hy, rfl⟩ := List.mem_map.1 hx
    have := hxs y hy
    omega
  rw [hov] at hO
  have hS := fun j (hj : j ≤ n) x => ucontains_any ((castL xs).take j) _ j x W (hrW.to_u64 hj cap (by omega)) (by omega)
  have hndc : (castL xs).Nodup := by
    unfold castL
    exact List.Pairwise.map _ (fun a b h e => h (by omega)) hnd
  have HS : Hid (∀ j, j < n → Calls Try.prog 52 #[.slice sa j cap, .int .u64 ((castL xs).getD j 0)] W fun e w' => e = .returned (.bool false) ∧ w' = W) := by
    intro j hj
    have h1 := hS j (by omega) ((castL xs).getD j 0)
    rwa [decide_eq_false (fun h => take_dup (by rw [castL_len]; omega) h hndc)] at h1
  obtain ⟨N, hN⟩ : ∃ N, N = p ^ n := ⟨_, rfl⟩
  have hN64 : N ≤ 2401 := by
    rw [hN]
    exact Nat.le_trans (Nat.pow_le_pow_left hp7 n) (Nat.pow_le_pow_right (n := 7) (j := 4) (by omega) (by omega))
  have HN := Lib.hid hN
  rw [← hN]
  obtain ⟨W4, e4, s4, n4, k4⟩ := alloc_facts W (.cells (u64s (List.replicate N 0)).toArray 22)
  obtain ⟨W5, e5, s5, n5, k5⟩ := alloc_facts W4 (.cells #[.slice (some ⟨w.heap.size + 1 + 1 + 1, 0, none⟩) N N] 24)
  obtain ⟨W6, e6, s6, n6, k6⟩ := alloc_facts W5 (.cells #[.int .u64 p] 22)
  rw [sW] at n4 s4
  rw [s4] at n5 s5
  rw [s5] at n6 s6
  have hrd6 : Rd W6 1 (.slice (some ⟨w.heap.size + 1 + 1 + 1 + 1 + 1, 0, none⟩) 1 1) 1 (u64s [(p : Int)]) := by
    refine ⟨rfl, by unfold maxLen; omega, _, _, rfl, Nat.le_refl _, .inr ⟨_, 0, rfl, fun i u hu => ?_⟩⟩
    exact cell_of n6 _ (by simpa [u64s] using hu)
  have hRep := repeat_any k p _ W6 (by omega) hrd6
  rw [s6] at hRep
  have hb6 : Below w.heap.size w W6 := by
    rw [e6, e5, e4]
    exact ((hb.alloc (by omega) _).alloc (by simp; omega) _).alloc (by simp; omega) _
  have hI6 : PolyI w p N (.slice sa n cap) [] W6 := by
    refine ⟨?_, ?_, ?_, ?_, hb6⟩
    · exact (k6 _ (by omega)).trans ((k5 _ (by omega)).trans ((k4 _ (by omega)).trans i1))
    · exact (k6 _ (by omega)).trans ((k5 _ (by omega)).trans ((k4 _ (by omega)).trans i2))
    · rw [cnt_nil]; exact (k6 _ (by omega)).trans ((k5 _ (by omega)).trans n4)
    · exact (k6 _ (by omega)).trans n5
  have HE : Hid (W = ((w.alloc (.cells #[.int .u64 p] 22)).alloc (.cells #[.slice sa n cap] 24)).alloc (.cells #[.int .u64 2, .int .u64 3, .int .u64 5, .int .u64 7] 22) ∧ W4 = W.alloc (.cells (u64s (List.replicate N 0)).toArray 22) ∧
    W5 = W4.alloc (.cells #[.slice (some ⟨w.heap.size + 1 + 1 + 1, 0, none⟩) N N] 24) ∧ W6 = W5.alloc (.cells #[.int .u64 p] 22)) := ⟨hW, e4, e5, e6⟩
  have HR := Lib.hid hr
  have HRW := Lib.hid hrW
  have HI6 := Lib.hid hI6
  have HNN := Lib.hid hnn
  rw [← hnn] at hlv
  clear hnn hd hov hS hndc hN hrd6 hb6 hI6 hW e4 e5 e6 n4 n5 n6 k4 k5 k6 s4 s5 hb i1 i2 hr hrW
  refine (callsIn_wide (n := 0)).1 ?_
  refine callsIn_of_wp_marks Try.func24 rfl trivial ?_ rfl
  simp only [Try.ntmps24, List.size_toArray, List.length_cons, List.length_nil, Nat.reduceAdd, Nat.reduceSub, Array.replicate_succ, Array.replicate_zero, List.push_toArray, List.append_toArray, List.nil_append, List.cons_append]
  gi_wp2_with ((try rw [← HE.out.1]); (try refine ⟨trivial, ?_⟩); (try refine ⟨rfl, ?_⟩); first | (refine (callsIn_wide.2 hC).mono ?_; rintro e W ⟨rfl, rfl⟩) | (refine (callsIn_wide.2 hO).mono ?_; rintro e W ⟨rfl, rfl⟩))
  clear hC hO
  gi_loopw [8, 9, 10, 44] (fun u1 u2 u3 i wr => ∃ j : Nat, j ≤ n ∧ i = .int .i64 j ∧ ∃ z : Nat, Hid (z = p ^ j) ∧ u1 = .int .u64 z ∧ wr = W) (fun _ _ _ i _ => n - (intOf i).toNat)
  case atStart => exact ⟨0, Nat.zero_le _, rfl, 1, rfl, rfl, rfl⟩
  case round =>
    obtain ⟨j, hj, rfl, z, HZ, rfl, rfl⟩ := hrel
    have hzb : z ≤ 2401 := by
      rw [HZ.out]
      exact Nat.le_trans (Nat.pow_le_pow_left hp7 j) (Nat.pow_le_pow_right (n := 7) (j := 4) (by omega) (by omega))
    by_cases hlt : j < n
    · obtain ⟨b, off, rfl, hcell⟩ := HRW.out.at (by omega)
      have hc := hcell j _ (u64s_at (castL xs) j (by rw [castL_len, ← HNN.out]; exact hlt))
      have hSj := HS.out j hlt
      generalize (castL xs).getD j 0 = x at *
      have hzp2 : z * p ≤ 2401 * 7 := Nat.mul_le_mul hzb hp7
      obtain ⟨Z, hZ⟩ : ∃ Z, Z = z * p := ⟨_, rfl⟩
      rw [← hZ] at hzp2
      have hmul : IntKind.u64.wrap ((z : Int) * (p : Int)) = (Z : Int) := by rw [show ((z : Int) * (p : Int)) = (Z : Int) by rw [hZ]; simp, IntKind.wrap_u64]; omega
      have HZ2 : Hid (Z = p ^ (j + 1)) := by
        show Z = _
        rw [hZ, HZ.out, Nat.pow_succ]
      clear hcell hZ HS HZ
      gi_wp2_with ((try refine ⟨trivial, ?_⟩); (try refine ⟨rfl, ?_⟩); refine (callsIn_wide.2 hSj).mono ?_; rintro e w' ⟨rfl, rfl⟩)
      exact ⟨⟨j + 1, by omega, by go_num, Z, HZ2, by simp⟩, by simp [intOf]; omega⟩
    · obtain rfl : j = n := by omega
      obtain rfl : z = N := by rw [HZ.out, HN.out]
      have HZN := HN
      clear HS HZ HN
      gi_wp2_with (first
        | (gi_at_make; refine mkIn_u64 _ rfl _ _ rfl .u64 .u64 z rfl rfl (by omega) ?_)
        | (rw [← HE.out.2.1, ← HE.out.2.2.1, ← HE.out.2.2.2]; (try refine ⟨trivial, ?_⟩); (try refine ⟨rfl, ?_⟩); refine (callsIn_wide.2 hRep).mono ?_; rintro e Wr ⟨rfl, nr, br⟩)
        | ((try refine ⟨trivial, ?_⟩); (try refine ⟨rfl, ?_⟩); refine (callsIn_wide.2 (lists_any _ _ _ _)).mono ?_; rintro e w' ⟨rfl, rfl⟩))
      have hkS : w.heap.size + 1 + 1 + 1 + 1 + 1 + 1 < Wr.heap.size := block_lt nr
      obtain ⟨W8, e8, s8, n8, k8⟩ := alloc_facts Wr (.cells #[.slice (some ⟨w.heap.size + 1 + 1 + 1 + 1 + 1 + 1, 0, none⟩) k k] 24)
      rw [← e8]
      have kk : ∀ b, b < w.heap.size + 1 + 1 + 1 + 1 + 1 + 1 → W8.heap[b]? = W6.heap[b]? := fun b hb => (k8 _ (by omega)).trans (br.block _ hb)
      have hb8 : Below w.heap.size w W8 := by
        rw [e8]
        exact ((HI6.out.i5.trans (br.mono (by omega))).alloc (by omega) _)
      have hI8 : PolyI w p z (.slice sa j cap) [] W8 := ⟨(kk _ (by omega)).trans HI6.out.i1, (kk _ (by omega)).trans HI6.out.i2, (kk _ (by omega)).trans HI6.out.i3, (kk _ (by omega)).trans HI6.out.i4, hb8⟩
      have hrd8 : Rd W8 1 (.slice (some ⟨w.heap.size + 1 + 1 + 1 + 1 + 1 + 1, 0, none⟩) k k) k (u64s (List.replicate k (p : Int))) := by
        refine ⟨by simp [u64s], by unfold maxLen; omega, _, _, rfl, Nat.le_refl _, .inr ⟨_, 0, rfl, fun i u hu => ?_⟩⟩
        exact cell_of ((k8 _ hkS).trans nr) _ (by simpa using hu)
      have hg := lists_gives Wr.heap.size k (.slice (some ⟨w.heap.size + 1 + 1 + 1 + 1 + 1 + 1, 0, none⟩) k k) (List.replicate k (p : Int)) W8 (by simp) (by omega) (by intro x hx; have := List.eq_of_mem_replicate hx; omega) (cell0_of n8) hrd8 (fun b hb => by have := sBlk_some hb; omega)
      clear HE hRep e8 n8 k8 kk hb8 hrd8 nr br c1 c2
      refine wp_range_own (gf := 77) (lb := #[.pointer (some ⟨Wr.heap.size, 0, none⟩)]) rfl (enters_of Try.func77 (by kernel_rfl) rfl)
        (fun b hb => by have := hb.imp id sBlk_some; omega) hg rfl (fun x s A B h hk => h.keep fun b hb _ => by have := sBlk_some hb; exact hk _ (by omega) (by omega))
        (fun pre V => PolyI w p z (.slice sa j cap) (pre.map fun l => idxP p xs (l.map Int.toNat)) V)
        ?hI ?h0 ?a1 ?assign ?body ?done
      case assign =>
        intro l' x V K hK
        gi_wp2
        exact hK
      case hI =>
        rintro pre A B ⟨i1, i2, i3, i4, i5⟩ hc
        exact ⟨(hc.block _ (block_lt i1) (by omega)).trans i1, (hc.block _ (block_lt i2) (by omega)).trans i2, (hc.block _ (block_lt i3) (by omega)).trans i3, (hc.block _ (block_lt i4) (by omega)).trans i4, i5.trans (hc.below i5.size fun k hk => by omega)⟩
      case h0 => exact hI8
      case body =>
        rintro l' pre l V HI hpre hh hsV
        obtain ⟨c, rfl, hck, hcp⟩ := allL_rep_mem k (hpre.subset (by simp) : l ∈ allL (List.replicate k (p : Int)))
        have hlenp : pre.length + 1 ≤ 2401 := by
          have := hpre.length_le
          rw [allL_rep_len] at this
          have h2 : p ^ k ≤ 2401 := Nat.le_trans (Nat.pow_le_pow_left hp7 k) (Nat.pow_le_pow_right (n := 7) (j := 4) (by omega) (by omega))
          simp at this
          omega
        obtain ⟨B, hB⟩ : ∃ B, B = Wr.heap.size + 1 + 1 + 1 + 1 := ⟨_, rfl⟩
        have hhB : Rd V 1 (.slice (some ⟨B, 0, none⟩) k k) c.length (u64s (castL c)) := by rw [hck, hB, ← s8]; exact hh
        have hBV : B < V.heap.size := by
          obtain ⟨b', off, e1, e2⟩ := hhB.at (by omega)
          cases e1
          exact World.block_lt_of_cell? _ _ (e2 0 _ (u64s_at (castL c) 0 (by rw [castL_len]; omega)))
        subst hB
        have hV := HI.i5
        have HII := Lib.hid HI
        have HHB := Lib.hid hhB
        have HBV := Lib.hid hBV
        have HCK := Lib.hid hck
        have HCP := Lib.hid hcp
        have hsv : w.heap.size ≤ V.heap.size := hV.size
        have hsx : w.heap.size + 1 + 1 + 1 + 1 < V.heap.size := block_lt HI.i4
        have c2 := cell0_of HI.i2
        have HLP := Lib.hid hlenp
        clear HI hhB hh hpre hck hcp hg hI8 hBV hV hlenp
        gi_wp2
        gi_loopw [13, 15, 68] (fun a u i wr => ∃ q : Nat, q ≤ j ∧ i = .int .i64 q ∧ ∃ at' : Nat, at' ≤ 2401 ∧ a = .int .u64 at' ∧ Hid (at' = valN p 0 ((xs.take q).map fun y => evN p y c)) ∧ Hid (Below V.heap.size V wr)) (fun _ _ i _ => j - (intOf i).toNat)
        case atStart => exact ⟨0, Nat.zero_le _, rfl, 0, by omega, rfl, rfl, Below.refl _ _⟩
        case round =>
          obtain ⟨q, hq, rfl, a, hab, rfl, HA, HW⟩ := hrel
          have cp : ∀ W', Below V.heap.size V W' → W'.cell? ⟨w.heap.size, 0, none⟩ = some (.int .u64 p) := fun W' hb => cell0_of ((hb.block _ (by omega)).trans HII.out.i1)
          by_cases hlt : q < j
          · have hrdx : Rd wr 1 (.slice sa j cap) j (u64s (castL xs)) := (HR.out.below HII.out.i5).below HW.out
            have hqx : q < xs.length := by rw [← HNN.out]; exact hlt
            obtain ⟨b, off, rfl, hcell⟩ := hrdx.at (by omega)
            have hc := hcell q _ (u64s_at (castL xs) q (by rw [castL_len]; exact hqx))
            rw [castL_at xs hqx] at hc
            obtain ⟨x, hx⟩ : ∃ x, x = xs.getD q 0 := ⟨_, rfl⟩
            rw [← hx] at hc
            have hgx : xs[q] = x := by rw [hx]; simp [List.getD, List.getElem?_eq_getElem hqx]
            have hxp : x < p := by rw [← hgx]; exact hxs _ (List.getElem_mem hqx)
            have hcu : ∀ u : LaterW V, u.w.cell? ⟨w.heap.size, 0, none⟩ = some (.int .u64 p) := fun u => cp u.w u.h
            have hcl : ∀ (d : Nat) (u : LaterW V), CallsIn Fence.wide d Try.prog 56 #[.slice (some ⟨Wr.heap.size + 1 + 1 + 1 + 1, 0, none⟩) k k, .int .u64 x, .int .u64 p] u.w fun e W' => e = .returned (.int .u64 (evN p x c)) ∧ ∃ u' : LaterW V, W' = u'.w := by
              intro d u
              have hv := value_any c (.slice (some ⟨Wr.heap.size + 1 + 1 + 1 + 1, 0, none⟩) k k) x p u.w (HHB.out.below u.h) (by rw [HCK.out]; omega) hxp hp7 HCP.out (fun b hb => by have := sBlk_some hb; have := HBV.out; have := u.h.size; omega)
              refine callsIn_wide.2 (hv.mono ?_)
              rintro e W' ⟨he, hb⟩
              exact ⟨he, ⟨W', u.h.trans (hb.mono u.h.size)⟩, rfl⟩
            obtain ⟨y, hy⟩ : ∃ y, y = evN p x c := ⟨_, rfl⟩
            have hy7 : y < p := by rw [hy]; exact evN_lt (by omega) x c
            rw [← hy] at hcl
            obtain ⟨M, hM⟩ : ∃ M, M = a * p := ⟨_, rfl⟩
            have hMb : M ≤ 2401 * 7 := by rw [hM]; exact Nat.mul_le_mul hab hp7
            have hmul : IntKind.u64.wrap ((a : Int) * (p : Int)) = (M : Int) := by rw [show ((a : Int) * (p : Int)) = (M : Int) by rw [hM]; simp, IntKind.wrap_u64]; omega
            have hnew : M + y = valN p 0 ((xs.take (q + 1)).map fun y => evN p y c) := by
              rw [List.take_add_one, List.getElem?_eq_getElem hqx, List.map_append, hgx]
              unfold valN
              rw [List.foldl_append]
              have := HA.out
              unfold valN at this
              rw [← this, hM, hy]
              rfl
            have hMy : M + y ≤ 2401 := by
              have h1 := valN_lt (p := p) (by omega) ((xs.take (q + 1)).map fun y => evN p y c) (by
                intro z hz
                obtain ⟨z', _, rfl⟩ := List.mem_map.1 hz
                exact evN_lt (by omega) z' c)
              rw [← hnew, List.length_map, List.length_take] at h1
              have h2 : p ^ min (q + 1) xs.length ≤ 2401 := Nat.le_trans (Nat.pow_le_pow_left hp7 _) (Nat.pow_le_pow_right (n := 7) (j := 4) (by omega) (by have := HNN.out; omega))
              omega
            have HNEW := Lib.hid hnew
            have hmx : Try.prog.follows .mixedOrders = true := by kernel_rfl
            clear hcell hrdx hx hgx hy hM hnew HA cp hqx
            gi_wp2
            refine wpIn_region_class_round (fun w' => ∃ u : LaterW V, w' = u.w) l' hmx (by kernel_rfl) (by kernel_rfl) ⟨⟨wr.drew, HW.out.drew⟩, rfl⟩ ?_
            repeat (gi_big_quiet_step ((refine ⟨rfl, ?_⟩; with_reducible exact hcl _ _)))
            refine wpQuietIn_nil ?_
            rintro _ ⟨u, rfl⟩
            gi_wp2
            exact ⟨⟨q + 1, by omega, by go_num, M + y, hMy, by go_num, HNEW.out, u.h⟩, by simp [intOf]; omega⟩
          · obtain rfl : q = j := by omega
            obtain ⟨L, hL⟩ : ∃ L, L = pre.map fun l => idxP p xs (l.map Int.toNat) := ⟨_, rfl⟩
            have hII := HII.out
            rw [← hL] at hII
            have ha : a = idxP p xs c := by
              have h1 := HA.out
              rw [List.take_of_length_le (by have := HNN.out; omega)] at h1
              exact h1
            have hax : a < z := by
              rw [ha, HZN.out, HNN.out]
              exact idxP_lt (by omega) xs c
            have hLl : L.length ≤ 2401 := by rw [hL, List.length_map]; have := HLP.out; omega
            obtain ⟨d, hd⟩ : ∃ d, d = L.count a := ⟨_, rfl⟩
            have hdb : d ≤ 2401 := by rw [hd]; exact Nat.le_trans List.count_le_length hLl
            have hdv := cnt_at z L hax
            rw [← hd] at hdv
            have i3 := (HW.out.block _ (block_lt hII.i3)).trans hII.i3
            have c4 := cell0_of ((HW.out.block _ (block_lt hII.i4)).trans hII.i4)
            have cv : wr.cell? ⟨w.heap.size + 1 + 1 + 1, a, none⟩ = some (.int .u64 d) := by
              refine cell_of i3 a ?_
              have := u64s_at (cnt z L) a (by rw [cnt_len]; exact hax)
              rw [hdv] at this
              simpa using this
            have fv := frozen_of i3 a
            have hfin : (pre ++ [castL c]).map (fun l => idxP p xs (l.map Int.toNat)) = L ++ [a] := by
              rw [List.map_append, ← hL, List.map_cons, List.map_nil, castL_toNat, ← ha]
            have hsn : cnt z ((pre ++ [castL c]).map (fun l => idxP p xs (l.map Int.toNat))) = (cnt z L).set a ((d : Int) + 1) := by
              rw [hfin, cnt_snoc z L hax, hdv]
            have HSN := Lib.hid hsn
            have HI2 := Lib.hid hII
            clear hsn hfin hdv hd hLl ha hII hL i3 HA cp HII
            gi_wp2
            exact poly_round (pre' := pre ++ [castL c]) (f := fun l => idxP p xs (l.map Int.toNat)) _ HI2.out HSN.out _ (fun k hk => by have := hk.imp id (fun h => h.imp id sBlk_some); omega) HW.out rfl
      case done =>
        rintro V HI hK
        have hm : (allL (List.replicate k (p : Int))).map (fun l => idxP p xs (l.map Int.toNat)) = polyL p k xs := rfl
        rw [hm] at HI
        have c4 := cell0_of HI.i4
        have i3 := Lib.hid HI.i3
        have i5 := Lib.hid HI.i5
        clear hg HI hI8 hm
        gi_wp2
        refine ⟨by simp, .inl ⟨_, _, rfl, run_takeDeferred (w := V) hK, ?_⟩⟩
        refine ⟨_, results_tmp2 rfl _ _ _, _, rfl, ?_, ?_⟩
        · have h4 : (V.putObj W8.heap.size (.deferred none)).heap[w.heap.size + 1 + 1 + 1]? = some (.cells (u64s (cnt z (polyL p k xs))).toArray 22 (0, 0)) := (World.putObj_heap_other (by omega)).trans i3.out
          exact ⟨by rw [u64s_len, cnt_len, Nat.mul_one], by unfold maxLen; omega, _, _, rfl, Nat.le_refl _, .inr ⟨_, 0, rfl, fun i u hu => cell_of h4 _ (by simpa using hu)⟩⟩
        · exact i5.out.trans ((chg_putObj (S := fun k => k = W8.heap.size) V W8.heap.size (.deferred none) rfl).below i5.out.size (fun k hk => by omega))

end Go.Proofs.Ytnnaijbdimdhpaa
