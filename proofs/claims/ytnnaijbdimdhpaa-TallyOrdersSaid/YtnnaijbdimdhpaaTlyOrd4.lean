/-
  tally.Orders.
-/
import Derived.Test.YtnnaijbdimdhpaaTlyOrd3
import Derived.Test.YtnnaijbdimdhpaaTly19
import Derived.Maps.OwnIn
namespace Go.Proofs.Ytnnaijbdimdhpaa
open Go.RowKit Go.Shelf
set_option linter.unusedVariables false
set_option linter.unusedSimpArgs false
attribute [local go_sem] Oper.semAt_some wide_fn

theorem info_ints : (Try.prog.info? 66).map (fun i => (i.zero, i.size, i.bytes)) = some (some (.slice none 0 0), 1, 24) := by kernel_rfl

/-- what stands in the box of what was found -/
structure OrI (w : World) (B : Nat) (L : List (List Int)) (V : World) : Prop where
  box : ∃ v vs, V.heap[w.heap.size]? = some (.cells #[v] 108 (0, 0)) ∧ V.ownsRow B 66 1 v L.length vs ∧ Lists B V v.ownBlock vs L
  low : Below w.heap.size w V

/-- one more -/
theorem orI_more {w V V2 V4 : World} {B : Nat} {L : List (List Int)} {x : List Int} {v v' sv : Value} {vs : List Value} (hw : w.heap.size < B) (h1 : V.ownsRow B 66 1 v L.length vs) (h2 : Lists B V v.ownBlock vs L) (hbl : Below w.heap.size w V)
    (hb : Below V.heap.size V V2) (hB : B ≤ V.heap.size) (hs : Rd V2 1 sv x.length (i64s x)) (hsv : ∀ b, sBlk sv = some b → V.heap.size ≤ b ∧ b < V2.heap.size) (hbx : V2.heap[w.heap.size]? = some (.cells #[v] 108 (0, 0)))
    (ho : V4.ownsRow B 66 1 v' (L.length + 1) (vs ++ [sv])) (hg : (V2.alloc (.cells #[sv] 66)).grownBy V4 v.ownBlock) (hf : v'.ownBlock = v.ownBlock ∨ v'.ownBlock = some (V2.alloc (.cells #[sv] 66)).heap.size) :
    OrI w B (L ++ [x]) (V4.setCell ⟨w.heap.size, 0, none⟩ v') := by
  have hz : (V2.alloc (.cells #[sv] 66)).heap.size = V2.heap.size + 1 := by simp
  have hown : ∀ g, v.ownBlock = some g → B ≤ g ∧ g < V.heap.size := fun g hg => h1.lt g hg
  have hk : ∀ b, b < V2.heap.size → v.ownBlock ≠ some b → b ≠ w.heap.size → (V4.setCell ⟨w.heap.size, 0, none⟩ v').heap[b]? = V2.heap[b]? := fun b hb1 hb2 hb3 =>
    (Below.heap_setCell _ _ _ _ hb3).trans ((hg.block b (by omega) fun e => hb2 e.symm).trans (Below.heap_alloc _ _ _ hb1))
  have hsz : V2.heap.size ≤ (V4.setCell ⟨w.heap.size, 0, none⟩ v').heap.size := by have := hg.size; simp [World.setCell]; omega
  have hbx4 : V4.heap[w.heap.size]? = some (.cells #[v] 108 (0, 0)) := (hg.block _ (by have := block_lt hbx; omega) fun e => by have := (hown _ e.symm).1; omega).trans ((Below.heap_alloc _ _ _ (block_lt hbx)).trans hbx)
  refine ⟨⟨v', vs ++ [sv], set_of hbx4 0 _, ?_, ?_⟩, ?_⟩
  · rw [List.length_append, List.length_singleton]
    exact row_kept ho fun g hg2 => Below.heap_setCell _ _ _ _ (by show g ≠ w.heap.size; have := (ho.lt g hg2).1; omega)
  · refine ⟨by simp [h2.len], fun i y hy => ?_⟩
    by_cases hi : i < L.length
    · rw [List.getElem?_append_left hi] at hy
      obtain ⟨su, e1, e2, e3⟩ := h2.at' i y hy
      refine ⟨su, by rw [List.getElem?_append_left (by rw [h2.len]; exact hi)]; exact e1, e2.keep fun b hb1 hb2 => ?_, fun b hb1 => ?_⟩
      · have := e3 b hb1
        exact (hk b (by have := hb.size; omega) this.2.2 (by omega)).trans (hb.block _ hb2)
      · have h3 := e3 b hb1
        have := hb.size
        refine ⟨h3.1, by omega, ?_⟩
        rcases hf with hf | hf
        · rw [hf]; exact h3.2.2
        · rw [hf, hz]; intro e; cases e; omega
    · rw [List.getElem?_append_right (by omega)] at hy
      obtain ⟨hi2, rfl⟩ : i - L.length = 0 ∧ x = y := by
        cases hd : i - L.length with
        | zero => rw [hd] at hy; simpa using hy
        | succ m => rw [hd] at hy; simp at hy
      refine ⟨sv, by rw [List.getElem?_append_right (by rw [h2.len]; omega), h2.len, hi2]; rfl, hs.keep fun b hb1 hb2 => ?_, fun b hb1 => ?_⟩
      · have := hsv b hb1
        exact hk b hb2 (fun e => by have := hown _ e; omega) (by omega)
      · have h3 := hsv b hb1
        refine ⟨by omega, by omega, ?_⟩
        rcases hf with hf | hf
        · rw [hf]; intro e; have := hown _ e; omega
        · rw [hf, hz]; intro e; cases e; omega
  · refine (hbl.trans (hb.mono hbl.size)).trans ?_
    have hw2 : w.heap.size ≤ V2.heap.size := Nat.le_of_lt (block_lt hbx)
    have ha : Below w.heap.size V2 (V2.alloc (.cells #[sv] 66)) := (Below.refl _ V2).alloc hw2 _
    have h4 : Below w.heap.size (V2.alloc (.cells #[sv] 66)) V4 := ⟨hg.os, hg.tape, hg.output, hg.size, fun k hk => hg.block k (by omega) fun e => by have := (hown _ e.symm).1; omega⟩
    exact (ha.trans h4).setCell (Nat.le_refl _) _

/-- between the rounds of the second range -/
structure OrJ (w V1 : World) (D2 B8 rb m cap j : Nat) (X : World) : Prop where
  box : ∃ ad r c, X.heap[w.heap.size]? = some (.cells #[.slice ad r c] 108 (0, 0)) ∧ j + r = m ∧ j + c = cap ∧ (0 < r → ad = some ⟨rb, j, none⟩)
  out : ∃ v2, X.heap[D2]? = some (.cells #[v2] 24 (0, 0)) ∧ X.ownsRow B8 22 1 v2 j (u64s (List.replicate j 1))
  kk : ∀ b, b < D2 → b ≠ w.heap.size → X.heap[b]? = V1.heap[b]?
  low : Below w.heap.size w X

theorem OrJ.later {w V1 X Y : World} {D2 B8 rb m cap j : Nat} (h : OrJ w V1 D2 B8 rb m cap j X) (hb : Below X.heap.size X Y) : OrJ w V1 D2 B8 rb m cap j Y := by
  obtain ⟨⟨ad, r, c, j1, j2, j3, j4⟩, ⟨v2, o1, o2⟩, j5, j6⟩ := h
  have := block_lt o1
  exact ⟨⟨ad, r, c, (hb.block _ (block_lt j1)).trans j1, j2, j3, j4⟩, ⟨v2, (hb.block _ (block_lt o1)).trans o1, row_kept o2 fun g hg => hb.block g (o2.lt g hg).2⟩, fun b h1 h2 => (hb.block _ (by omega)).trans (j5 b h1 h2), j6.trans (hb.mono j6.size)⟩

/-- one order more -/
theorem orJ_more {w V1 X w3 W W5 : World} {D2 B8 rb m cap j r c : Nat} {ad : Option Addr} {v2 v' u : Value} {e : TypeId} (h : OrJ w V1 D2 B8 rb m cap j X) (hD : D2 < B8) (hw : w.heap.size < D2) (hb : Below X.heap.size X w3) (hch : Chg (fun k => k = w.heap.size) w3 W)
    (hbx : W.heap[w.heap.size]? = some (.cells #[.slice ad r c] 108 (0, 0))) (hr : r + (j + 1) = m) (hc : c + (j + 1) = cap) (had : 0 < r → ad = some ⟨rb, j + 1, none⟩)
    (o1 : X.heap[D2]? = some (.cells #[v2] 24 (0, 0))) (o2 : X.ownsRow B8 22 1 v2 j (u64s (List.replicate j 1)))
    (ho : W5.ownsRow B8 22 1 v' (j + 1) (u64s (List.replicate j 1) ++ [.int .u64 1])) (hg : (W.alloc (.cells #[u] e)).grownBy W5 v2.ownBlock) :
    OrJ w V1 D2 B8 rb m cap (j + 1) (W5.setCell ⟨D2, 0, none⟩ v') ∧ X.heap.size ≤ (W5.setCell ⟨D2, 0, none⟩ v').heap.size ∧ ∀ b, b < X.heap.size → b < B8 → b ≠ w.heap.size → b ≠ D2 → (W5.setCell ⟨D2, 0, none⟩ v').heap[b]? = X.heap[b]? := by
  have hD2 := block_lt o1
  have s1 := hb.size
  have s2 := hch.size
  have s3 := hg.size
  simp at s3
  have hown : ∀ g, v2.ownBlock = some g → B8 ≤ g := fun g hg => (o2.lt g hg).1
  have k5 : ∀ b, b < W.heap.size → b < B8 → b ≠ D2 → (W5.setCell ⟨D2, 0, none⟩ v').heap[b]? = W.heap[b]? := fun b h1 h2 h3 =>
    (Below.heap_setCell _ _ _ _ h3).trans ((hg.block b (by simp; omega) fun e => by have := hown b e.symm; omega).trans (Below.heap_alloc _ _ _ h1))
  have k6 : ∀ b, b < X.heap.size → b < B8 → b ≠ w.heap.size → b ≠ D2 → (W5.setCell ⟨D2, 0, none⟩ v').heap[b]? = X.heap[b]? := fun b h1 h2 h3 h4 =>
    (k5 b (by omega) h2 h4).trans ((hch.block b (by omega) h3).trans (hb.block b h1))
  have hD5 : W5.heap[D2]? = some (.cells #[v2] 24 (0, 0)) := (hg.block D2 (by simp; omega) fun e => by have := hown D2 e.symm; omega).trans ((Below.heap_alloc _ _ _ (by omega)).trans ((hch.block D2 (by omega) (by omega)).trans ((hb.block _ hD2).trans o1)))
  refine ⟨⟨⟨ad, r, c, (k5 _ (by omega) (by omega) (by omega)).trans hbx, by omega, by omega, had⟩, ⟨v', set_of hD5 0 _, ?_⟩, fun b h1 h2 => (k6 b (by omega) (by omega) h2 (by omega)).trans (h.kk b h1 h2), ?_⟩, by simp [World.setCell]; omega, k6⟩
  · rw [List.replicate_succ', u64s_snoc]
    exact row_kept ho fun g hg2 => Below.heap_setCell _ _ _ _ (by show g ≠ D2; have := (ho.lt g hg2).1; omega)
  · have hsz := h.low.size
    have a1 : Below w.heap.size w w3 := h.low.trans (hb.mono hsz)
    have a2 : Below w.heap.size w W := a1.trans (hch.below (by omega) fun k hk => by omega)
    have a3 : Below w.heap.size w (W.alloc (.cells #[u] e)) := a2.alloc (by omega) _
    have a4 : Below w.heap.size w W5 := a3.trans ⟨hg.os, hg.tape, hg.output, hg.size, fun k hk => hg.block k (by simp; omega) fun e => by have := hown k e.symm; omega⟩
    exact a4.setCell (by show w.heap.size ≤ D2; omega) _

/-- the lists that the sorted row reads, in every later world -/
theorem lists_at {V1 W : World} {B D rb cap m : Nat} {L : List (List Int)} {vs : List Value} (own : V1.ownsRow B 66 1 (.slice (some ⟨rb, 0, none⟩) m cap) m vs) (hL : Lists B V1 (some rb) vs L) (hD : D < B) (hk : ∀ b, b < V1.heap.size → b ≠ D → W.heap[b]? = V1.heap[b]?) (j : Nat) (x : List Int) (hx : L[j]? = some x) :
    ∃ a cp, W.cell? ⟨rb, j, none⟩ = some (.slice a x.length cp) ∧ Rd W 1 (.slice a x.length cp) x.length (i64s x) := by
  obtain ⟨sv, h1, h2, h3⟩ := hL.at' j x hx
  obtain ⟨a, cp, rfl⟩ := h2.form
  have hpos : 0 < m := by
    have hlen := own.1
    rw [hL.len] at hlen
    have := (List.getElem?_eq_some_iff.1 hx).1
    omega
  obtain ⟨g, e, hg1, hg2, hg3, hcell, hfz⟩ := row_ptr own hpos
  cases e
  exact ⟨a, cp, cell_same (hcell j _ h1) (hk _ hg2 (by omega)), h2.keep fun b hb hlt => hk b hlt (by have := h3 b hb; omega)⟩
theorem ords_pre {n : Nat} {pre : List (List Int)} {l : List Int} (h : pre ++ [l] <+: allL (List.replicate n (n : Int))) (hl : isPB l = true) : (ords n)[(pre.filter isPB).length]? = some l ∧ ∀ x, (ords n)[(pre.filter isPB).length + 1]? = some x → x ≠ l := by
  have h1 : (pre.filter isPB) ++ [l] <+: ords n := by
    have := h.filter isPB
    rwa [List.filter_append, List.filter_cons_of_pos hl, List.filter_nil] at this
  have h2 : (ords n)[(pre.filter isPB).length]? = some l := by
    obtain ⟨t, ht⟩ := h1
    rw [← ht, List.append_assoc, List.getElem?_append_right (by omega)]
    simp
  refine ⟨h2, fun x hx e => ?_⟩
  subst e
  obtain ⟨i1, e1⟩ := List.getElem?_eq_some_iff.1 h2
  obtain ⟨i2, e2⟩ := List.getElem?_eq_some_iff.1 hx
  have := List.pairwise_iff_getElem.1 (ords_up n) _ _ i1 i2 (by omega)
  rw [e1, e2, cmpL_self] at this
  omega

theorem chcs_len_le {n : Nat} (hn : n ≤ 6) : (chcs n).length ≤ 46656 := by
  refine Nat.le_trans (allL_len_le (b := 6) _ fun x hx => by have := upI_le x hx; omega) ?_
  exact Nat.le_trans (Nat.pow_le_pow_right (n := 6) (j := 6) (by omega) (by rw [upI_len]; omega)) (by decide)

set_option maxRecDepth 100000 in
set_option maxHeartbeats 2000000 in
theorem orders_ok51 (n : Nat) (w : World) (hn : n ≤ 6) :
    Calls Try.prog 40 #[.int .i64 n] w fun e w' => ∃ v2, e = .returned (.tuple #[v2, .int .i64 0]) ∧ Rd w' 1 v2 (ords n).length (u64s (List.replicate (ords n).length 1)) ∧ Below w.heap.size w w' := by
  have hU := fun W => up_any 1 n W (by omega) (by omega)
  rw [show n + 1 - 1 = n by omega] at hU
  obtain ⟨W1, e1, s1, n1, k1⟩ := alloc_facts w (.cells #[.slice none 0 0] 108)
  have hb1 : Below w.heap.size w W1 := by rw [e1]; exact (Below.refl _ w).alloc (Nat.le_refl _) _
  have HE : Hid (W1 = w.alloc (.cells #[.slice none 0 0] 108)) := e1
  have HN1 := Lib.hid n1; have HBW1 := Lib.hid hb1
  clear e1 n1 k1 hb1
  refine (callsIn_wide (n := 0)).1 ?_
  refine callsIn_of_wp_marks Try.func40 rfl trivial ?_ rfl
  simp only [Try.ntmps40, List.size_toArray, List.length_cons, List.length_nil, Nat.reduceAdd, Nat.reduceSub, Array.replicate_succ, Array.replicate_zero, List.push_toArray, List.append_toArray, List.nil_append, List.cons_append]
  gi_wp2_with ((try rw [← HE.out]); (try refine ⟨trivial, ?_⟩); (try refine ⟨rfl, ?_⟩); first | (refine (callsIn_wide.2 (hU _)).mono ?_; rintro e w1 ⟨su, cu, rfl, hown, hb1⟩; have HO1 := Lib.hid hown; have HB1 := Lib.hid hb1; clear hown hb1) | (refine (callsIn_wide.2 (lists_any _ _ _ _)).mono ?_; rintro e w' ⟨rfl, rfl⟩))
  obtain ⟨W4, e4, s4, n4, k4⟩ := alloc_facts w1 (.cells #[.slice su n cu] 24)
  rw [← e4]
  have hs1 : w.heap.size + 1 ≤ w1.heap.size := by have := HB1.out.size; omega
  have hblk := row_blk HO1.out
  have hb14 : Below W1.heap.size W1 W4 := by rw [e4]; exact HB1.out.alloc HB1.out.size _
  have hI4 : OrI w (W4.heap.size + (2 + 4)) [] W4 := ⟨⟨_, [], (hb14.block _ (by omega)).trans HN1.out, World.ownsRow_nil _ _ _ _, Lists.nil _ _ _⟩, HBW1.out.trans (hb14.mono HBW1.out.size)⟩
  have hrd4 : Rd W4 1 (.slice su n cu) n (u64s (upI 1 n)) := (rd_of_row HO1.out).keep fun b hb _ => k4 _ (hblk b hb).2
  have hg := lists_gives2 w1.heap.size n (.slice su n cu) (upI 1 n) W4 (by rw [upI_len]; omega) (by omega) (by intro x hx; have h1 := upI_le x hx; obtain ⟨i, _, rfl⟩ := List.mem_map.1 hx; omega) (cell0_of n4) hrd4 (fun b hb => by have := hblk b hb; omega)
  have hu : ∀ b, sBlk (.slice su n cu) = some b → w.heap.size < b ∧ b < w1.heap.size := fun b hb => by have := hblk b hb; omega
  clear e4 n4 k4 hb14 hrd4 hblk hU HE
  refine wp_range_own (gf := 77) (lb := #[.pointer (some ⟨w1.heap.size, 0, none⟩)]) rfl (enters_of Try.func77 (by kernel_rfl) rfl)
    (fun b hb => by rcases hb with hb | hb; omega; have := hu b hb; omega) hg rfl
    (fun x s A B' h hk => ⟨h.1.keep fun b hb _ => by have := sBlk_some hb; exact hk _ (by omega) (by omega), by
      have h1 := hk (s + 3) (by omega) (by omega)
      have h0 := h.2
      rw [Array.getElem?_eq_getElem (xs := A.heap) (i := s + 3) (by omega)] at h1
      have := block_lt h1
      omega⟩)
    (fun pre V => OrI w (W4.heap.size + (2 + 4)) (pre.map permL) V)
    ?hI ?h0 ?a1 ?assign ?body ?done
  case assign =>
    intro l' x V K hK
    gi_wp2
    exact hK
  case hI =>
    rintro pre A B ⟨⟨v, vs, i1, i2, i3⟩, i4⟩ hc
    have hkk : ∀ b, W4.heap.size + (2 + 4) ≤ b → b < A.heap.size → B.heap[b]? = A.heap[b]? := fun b h1 h2 => hc.block b h2 (by omega)
    exact ⟨⟨v, vs, (hc.block _ (block_lt i1) (by omega)).trans i1, row_kept i2 (fun g hg => hkk g (i2.lt g hg).1 (i2.lt g hg).2), i3.keep hc.size fun b h1 h2 _ => hkk b h1 h2⟩, i4.trans (hc.below i4.size fun k hk => by omega)⟩
  case h0 => exact hI4
  case body =>
    rintro l' pre c V HI hpre ⟨hh, hh2⟩ hsV
    have hc : c ∈ chcs n := hpre.subset (by simp)
    obtain ⟨hcl, hright⟩ := chcs_right.1 hc
    have hlenp : pre.length + 1 ≤ 46656 := by
      have h1 := hpre.length_le
      have h2 := chcs_len_le hn
      unfold chcs at h2
      simp at h1
      omega
    have hcpos : ∀ x ∈ c, 0 ≤ x ∧ x < 9223372036854775808 := by
      intro x hx
      obtain ⟨i, hi, he⟩ := List.mem_iff_getElem.1 hx
      have h1 := hright i hi
      rw [show c.getD i 0 = x by simp [List.getD, List.getElem?_eq_getElem hi, he]] at h1
      omega
    obtain ⟨i0, hi, hz0, hz1, hz2⟩ := info_parts info_ints
    obtain ⟨v, vs, i1, i2, i3⟩ := HI.box
    have i4 := HI.low
    have hIn := tints_any c (.slice (some ⟨w1.heap.size + 1 + 1 + 1 + 1, 0, none⟩) n n) n V (by rw [s4] at hh; exact hh) (by omega) hcpos
    have hPm := fun (va : Value) (W : World) (h : Rd W 1 va n (i64s c)) => perm_ok W va n c h (by omega) hright
    obtain ⟨sv0, cv0, rfl⟩ : ∃ sv0 cv0, v = .slice sv0 pre.length cv0 := by
      obtain ⟨a, b, e⟩ := (rd_of_row i2).form
      rw [List.length_map] at e
      exact ⟨a, b, e⟩
    have cbox := cell0_of i1
    have HIN := Lib.hid hIn; have HPM := Lib.hid hPm; have HI1 := Lib.hid i1; have HI2 := Lib.hid i2; have HI3 := Lib.hid i3; have HI4 := Lib.hid i4; have HLP := Lib.hid hlenp
    have HCL := Lib.hid hcl
    have hsx : w.heap.size < V.heap.size := block_lt i1
    clear hpre hh hc hright hcpos hIn hPm hg hI4 HI i1 i2 i3 i4 hlenp hcl
    gi_wp2_with (first
      | ((try refine ⟨trivial, ?_⟩); (try refine ⟨rfl, ?_⟩); refine (CallsIn.inRound l' (callsIn_wide.2 HIN.out)).mono ?_; rintro e w2 ⟨sa, ca, rfl, hown, hb⟩; have HO2 := Lib.hid hown; have HB2 := Lib.hid hb; clear hown hb)
      | ((try refine ⟨trivial, ?_⟩); (try refine ⟨rfl, ?_⟩); refine (CallsIn.inRound l' (callsIn_wide.2 (HPM.out _ _ (rd_of_row HO2.out)))).mono ?_; rintro e w3 ⟨sb, cb, rfl, hown, hb⟩; have hb3 : Below V.heap.size V w3 := HB2.out.trans (hb.mono HB2.out.size); have HO3 := Lib.hid hown; have HB3 := Lib.hid hb3; have hbx := (hb3.block _ hsx).trans HI1.out; have HBX := Lib.hid hbx; have cbox3 := cell0_of hbx; have HS23 := Lib.hid HB2.out.size; have fbox3 := frozen_of hbx 0; clear hown hb hb3 hbx)
      | (gi_at_builtin; refine wpListIn_append_own_at _ rfl _ _ 108 rfl (W4.heap.size + (2 + 4)) 66 i0 _ 1 24 Try.underlying108 hi hz0 hz1 hz2 rfl (by decide) _ _ vs rfl ((row_kept HI2.out fun g hg => HB3.out.block g (HI2.out.lt g hg).2).alloc _) ⟨w3.heap.size, 0, none⟩ 1 1 [.slice sb n cb] rfl rfl (cell_one_at _ _ _ _ rfl) (by simp [Value.oneCell']) ?q1 ?q2 ?q3 ?_))
    case q1 => have := HLP.out; rw [List.length_map]; unfold maxLen; omega
    case q2 => have := HLP.out; rw [List.length_map]; omega
    case q3 => have := HB3.out.size; simp; omega
    intro v' w4 hown hgrow hnil hfr
    obtain ⟨sa', cap', rfl⟩ := (rd_of_row hown).form
    have hown' : w4.ownsRow (W4.heap.size + (2 + 4)) 66 1 (.slice sa' ((pre.map permL).length + 1) cap') ((pre.map permL).length + 1) (vs ++ [.slice sb n cb]) := by rw [List.length_map, s4]; exact hown
    have hres := orI_more (x := permL c) (B := W4.heap.size + (2 + 4)) (by omega) HI2.out HI3.out HI4.out HB3.out (by omega) (by rw [permL_len, HCL.out]; exact rd_of_row HO3.out) (fun b hb => by
      have := row_blk HO3.out b hb
      have := HS23.out
      omega) HBX.out hown' hgrow (by rw [List.length_map, World.size_alloc]; exact hfr)
    rw [List.length_map] at hres
    have hown2 : ∀ g, (Value.slice sv0 pre.length cv0).ownBlock = some g → W4.heap.size + (2 + 4) ≤ g := fun g hg => (HI2.out.lt g hg).1
    have hbx4 : w4.heap[w.heap.size]? = some (.cells #[.slice sv0 pre.length cv0] 108 (0, 0)) := (hgrow.block _ (by have := block_lt HBX.out; simp; omega) fun e => by have := hown2 _ e.symm; omega).trans ((Below.heap_alloc _ _ _ (block_lt HBX.out)).trans HBX.out)
    have c4 := cell0_of hbx4
    have f4 := frozen_of hbx4 0
    have hkk : ∀ b, b < V.heap.size → b < W4.heap.size + (2 + 4) → w4.heap[b]? = V.heap[b]? := fun b h1 h2 => by
      have hs3 := HB3.out.size
      rw [hgrow.block b (by simp; omega) (fun e => by have := hown2 _ e.symm; omega), Below.heap_alloc _ _ _ (by omega), HB3.out.block b h1]
    have hs4 : V.heap.size ≤ w4.heap.size := by have := hgrow.size; have := HB3.out.size; simp at *; omega
    have HRES := Lib.hid hres; have HKK := Lib.hid hkk
    clear hres hown hown' hgrow hnil hfr hbx4 hkk hown2
    gi_wp2
    refine ⟨by show OrI w _ (List.map permL (pre ++ [c])) _; rw [List.map_append]; exact HRES.out, by simp [World.setCell]; exact hs4, fun b hb1 hb2 => ?_⟩
    have hbb : b ≠ w.heap.size ∧ b < W4.heap.size + (2 + 4) := by
      rcases hb1 with h | h | h
      · omega
      · omega
      · have := hu b h; omega
    exact (Below.heap_setCell _ _ _ _ hbb.1).trans (HKK.out b hb2 hbb.2)
  case done =>
    rintro V HI hK
    have hm : (allL (upI 1 n)).map permL = (chcs n).map permL := rfl
    rw [hm] at HI
    have hkV : W4.heap.size < V.heap.size := block_lt hK
    obtain ⟨v, vs, i1, i2, i3⟩ := HI.box
    have i4 := HI.low
    have hlen : ((chcs n).map permL).length = (ords n).length := (perms_ords n).length_eq
    have hlenle : (ords n).length ≤ 46656 := by rw [← hlen, List.length_map]; exact chcs_len_le hn
    have hlenpos : 0 < ((chcs n).map permL).length := List.length_pos_of_mem (perms_mem.2 ⟨rowL_len n, isP_row n⟩)
    have hS := sort_lists V _ v _ vs i2 i3 (fun x hx => by have := (perms_mem.1 hx).1; omega) hlenpos (by omega)
    obtain ⟨rb, hv⟩ : ∃ rb, ∃ cap, v = .slice (some ⟨rb, 0, none⟩) (ords n).length cap := by
      obtain ⟨sa, cap, rfl⟩ := (rd_of_row i2).form
      obtain ⟨g, rfl, _⟩ := row_ptr i2 hlenpos
      exact ⟨g, cap, by rw [hlen]⟩
    obtain ⟨cap, rfl⟩ := hv
    have hS2 : Calls Try.prog 72 #[.slice (some ⟨rb, 0, none⟩) (ords n).length cap, .func (.func 73) #[] #[]] V fun e W => e = .returned (.tuple #[]) ∧ ∃ vs', W.ownsRow (W4.heap.size + (2 + 4)) 66 1 (.slice (some ⟨rb, 0, none⟩) (ords n).length cap) (ords n).length vs' ∧ Lists (W4.heap.size + (2 + 4)) W (some rb) vs' (ords n) ∧ Chg (fun k => k = rb) V W := by
      refine hS.mono ?_
      rintro e W ⟨rfl, vs', L', h1, h2, h3, h4, h5⟩
      obtain rfl := sorted_ords h1 h2
      exact ⟨rfl, vs', h3, h4, h5.mono fun k hk => by cases hk; rfl⟩
    have hrbB : W4.heap.size + (2 + 4) ≤ rb := (i2.lt rb rfl).1
    have hdl : 0 < (ords n).length := by omega
    obtain ⟨m, hmm⟩ : ∃ m, m = (ords n).length := ⟨_, rfl⟩
    rw [← hmm] at hS2 hlenle hdl i1
    have HMM := Lib.hid hmm
    have cbox := cell0_of i1
    have HI1 := Lib.hid i1; have HI4 := Lib.hid i4; have HKV := Lib.hid hK
    have hsx : w.heap.size < V.heap.size := block_lt i1
    clear hg hI4 HO1 HB1 HI i1 i2 i3 i4 hm hlen hlenpos hS hK hmm
    gi_wp2_with (first
      | ((try refine ⟨trivial, ?_⟩); (try refine ⟨rfl, ?_⟩); refine (callsIn_wide.2 hS2).mono ?_; rintro e V1 ⟨rfl, vs', hown, hls, hch⟩; have HOW := Lib.hid hown; have HLS := Lib.hid hls; have HCH := Lib.hid hch; (obtain ⟨V2, e1, z1, n1, k1⟩ := alloc_facts V1 (.cells #[.slice none 0 0] 24)); (obtain ⟨V3, e2, z2, n2, k2⟩ := alloc_facts V2 (.cells #[.int .u64 n] 22)); rw [z1] at n2 z2;
          have hrd3 : Rd V3 1 (.slice (some ⟨V1.heap.size + 1, 0, none⟩) 1 1) 1 (u64s [((n : Nat) : Int)]) := (by
            refine ⟨rfl, by unfold maxLen; omega, _, _, rfl, Nat.le_refl _, .inr ⟨_, 0, rfl, fun i u hu => ?_⟩⟩
            exact cell_of n2 _ (by simpa [u64s] using hu));
          have hRep := repeat_any n ((n : Nat) : Int) _ V3 (by omega) hrd3;
          rw [z2] at hRep;
          have HE3 : Hid (V3 = (V1.alloc (.cells #[.slice none 0 0] 24)).alloc (.cells #[.int .u64 n] 22)) := (by show V3 = _; rw [e2, e1]);
          have HB3 := Lib.hid (show V3.heap[V1.heap.size]? = some (.cells #[.slice none 0 0] 24 (0, 0)) from (k2 _ (by omega)).trans n1);
          have HK3 := Lib.hid (show ∀ b, b < V1.heap.size → V3.heap[b]? = V1.heap[b]? from fun b hb => (k2 _ (by omega)).trans (k1 _ hb));
          have HL3 := Lib.hid (show Below w.heap.size V1 V3 from (by have := hch.size; rw [e2, e1]; exact ((Below.refl _ V1).alloc (by omega) _).alloc (by simp; omega) _));
          clear e1 e2 n1 n2 k1 k2 hrd3 hown hls hch z1)
      | (rw [← HE3.out]; (try refine ⟨trivial, ?_⟩); (try refine ⟨rfl, ?_⟩); refine (callsIn_wide.2 hRep).mono ?_; rintro e Wr ⟨rfl, nr, br⟩)
      | ((try refine ⟨trivial, ?_⟩); (try refine ⟨rfl, ?_⟩); refine (callsIn_wide.2 (lists_any _ _ _ _)).mono ?_; rintro e w' ⟨rfl, rfl⟩))
    have hkS : V1.heap.size + 1 + 1 < Wr.heap.size := block_lt nr
    obtain ⟨W8, e8, s8, n8, k8⟩ := alloc_facts Wr (.cells #[.slice (some ⟨V1.heap.size + 1 + 1, 0, none⟩) n n] 24)
    rw [← e8]
    have hV1 : V.heap.size ≤ V1.heap.size := HCH.out.size
    have kk : ∀ b, b < V1.heap.size + 1 + 1 → W8.heap[b]? = V3.heap[b]? := fun b hb => (k8 _ (by omega)).trans (br.block _ hb)
    have hb8 : Below w.heap.size V1 W8 := by rw [e8]; exact HL3.out.trans ((br.mono (by omega)).alloc (by omega) _)
    have hlowV1 : Below w.heap.size w V1 := HI4.out.trans (HCH.out.below (by omega) fun k hk => by omega)
    have hbx1 : V1.heap[w.heap.size]? = some (.cells #[.slice (some ⟨rb, 0, none⟩) m cap] 108 (0, 0)) := (HCH.out.block _ hsx (by omega)).trans HI1.out
    have hJ8 : OrJ w V1 V1.heap.size (W8.heap.size + (2 + 4)) rb m cap 0 W8 :=
      ⟨⟨_, m, cap, (kk _ (by omega)).trans ((HK3.out _ (by omega)).trans hbx1), by omega, by omega, fun _ => rfl⟩, ⟨_, (kk _ (by omega)).trans HB3.out, World.ownsRow_nil _ _ _ _⟩, fun b hb _ => (kk _ (by omega)).trans (HK3.out _ hb), hlowV1.trans hb8⟩
    have hrd8 : Rd W8 1 (.slice (some ⟨V1.heap.size + 1 + 1, 0, none⟩) n n) n (u64s (List.replicate n ((n : Nat) : Int))) := by
      refine ⟨by simp [u64s], by unfold maxLen; omega, _, _, rfl, Nat.le_refl _, .inr ⟨_, 0, rfl, fun i u hu => ?_⟩⟩
      exact cell_of ((k8 _ hkS).trans nr) _ (by simpa using hu)
    have hg := lists_gives2 Wr.heap.size n (.slice (some ⟨V1.heap.size + 1 + 1, 0, none⟩) n n) (List.replicate n ((n : Nat) : Int)) W8 (by simp) (by omega) (by intro x hx; have := List.eq_of_mem_replicate hx; omega) (cell0_of n8) hrd8 (fun b hb => by have := sBlk_some hb; omega)
    have HKD := Lib.hid (show V1.heap[W4.heap.size]? = some (.deferred (some [])) from (HCH.out.block _ hkV (by omega)).trans HKV.out)
    clear HE3 hRep e8 n8 k8 kk hb8 hrd8 nr br HB3 HK3 HL3 hlowV1 hbx1 cbox hS2
    refine wp_range_own (gf := 77) (lb := #[.pointer (some ⟨Wr.heap.size, 0, none⟩)]) rfl (enters_of Try.func77 (by kernel_rfl) rfl)
      (fun b hb => by have := hb.imp id sBlk_some; omega) hg rfl
      (fun x s A B' h hk => ⟨h.1.keep fun b hb _ => by have := sBlk_some hb; exact hk _ (by omega) (by omega), by
        have h1 := hk (s + 3) (by omega) (by omega)
        have h0 := h.2
        rw [Array.getElem?_eq_getElem (xs := A.heap) (i := s + 3) (by omega)] at h1
        have := block_lt h1
        omega⟩)
      (fun pre X => OrJ w V1 V1.heap.size (W8.heap.size + (2 + 4)) rb m cap (pre.filter isPB).length X)
      ?hI2 ?h02 ?a2 ?assign2 ?body2 ?done2
    case assign2 =>
      intro l' x V K hK
      gi_wp2
      exact hK
    case hI2 =>
      rintro pre A B' ⟨⟨ad, r, c, j1, j2, j3, j4⟩, ⟨v2, o1, o2⟩, j5, j6⟩ hc
      exact ⟨⟨ad, r, c, (hc.block _ (block_lt j1) (by omega)).trans j1, j2, j3, j4⟩, ⟨v2, (hc.block _ (block_lt o1) (by omega)).trans o1, row_kept o2 fun g hg => hc.block g (o2.lt g hg).2 (by have := (o2.lt g hg).1; omega)⟩, fun b h1 h2 => (hc.block _ (by have := block_lt o1; omega) (by omega)).trans (j5 b h1 h2), j6.trans (hc.below j6.size fun k hk => by omega)⟩
    case h02 => exact hJ8
    case body2 =>
      rintro l' pre l X HJ hpre hh hsV
      have hl1 := hpre.subset (show l ∈ pre ++ [l] by simp)
      obtain ⟨hll, hlb⟩ := mem_allL.1 hl1
      rw [List.length_replicate] at hll
      have hXB : W8.heap.size + (2 + 4) ≤ X.heap.size := by have := hh.2; omega
      have hhB : Rd X 1 (.slice (some ⟨Wr.heap.size + 1 + 1 + 1 + 1, 0, none⟩) n n) n (u64s l) := by rw [← s8]; exact hh.1
      have hlpos : ∀ x ∈ l, 0 ≤ x ∧ x < 9223372036854775808 := by
        intro x hx
        obtain ⟨i, hi, he⟩ := List.mem_iff_getElem.1 hx
        have h1 := hlb i hi
        rw [show l.getD i 0 = x by simp [List.getD, List.getElem?_eq_getElem hi, he], show (List.replicate n (n : Int)).getD i 0 = (n : Int) by simp [List.getD, show i < n by omega]] at h1
        omega
      have hIn := tints_any l (.slice (some ⟨Wr.heap.size + 1 + 1 + 1 + 1, 0, none⟩) n n) n X hhB (by omega) hlpos
      have hIs := fun (va : Value) (W : World) (h : Rd W 1 va n (i64s l)) => is_any W va n l h (by omega)
      obtain ⟨j, hj⟩ : ∃ j, j = (pre.filter isPB).length := ⟨_, rfl⟩
      have HIN := Lib.hid hIn; have HIS := Lib.hid hIs
      have HJJ : Hid (OrJ w V1 V1.heap.size (W8.heap.size + (2 + 4)) rb m cap j X) := by rw [hj]; exact HJ
      have HPRE := Lib.hid hpre; have HJE := Lib.hid hj
      clear hpre hh hhB hg hJ8 HJ hl1 hll hlb hlpos hIn hIs hj
      cases hP : isPB l
      · rw [hP] at HIS
        have hend : pre.filter isPB = (pre ++ [l]).filter isPB := by rw [List.filter_append, List.filter_cons_of_neg (by simp [hP]), List.filter_nil, List.append_nil]
        have HEND := Lib.hid hend
        clear hP hend
        gi_wp2_with (first
          | ((try refine ⟨trivial, ?_⟩); (try refine ⟨rfl, ?_⟩); refine (CallsIn.inRound l' (callsIn_wide.2 HIN.out)).mono ?_; rintro e w2 ⟨sa, ca, rfl, hown, hb⟩; have HO2 := Lib.hid hown; have HB2 := Lib.hid hb; clear hown hb)
          | ((try refine ⟨trivial, ?_⟩); (try refine ⟨rfl, ?_⟩); refine (CallsIn.inRound l' (callsIn_wide.2 (HIS.out _ _ (rd_of_row HO2.out)))).mono ?_; rintro e w3 ⟨rfl, hb⟩; have hb3 : Below X.heap.size X w3 := HB2.out.trans (hb.mono HB2.out.size); have HB3 := Lib.hid hb3; clear hb hb3))
        refine ⟨?_, HB3.out.size, fun b hb1 hb2 => HB3.out.block b hb2⟩
        show OrJ w V1 V1.heap.size (W8.heap.size + (2 + 4)) rb m cap ((pre ++ [l]).filter isPB).length w3
        rw [← HEND.out, ← HJE.out]
        exact HJJ.out.later HB3.out
      · rw [hP] at HIS
        obtain ⟨hat, hnx⟩ := ords_pre HPRE.out hP
        rw [← HJE.out] at hat hnx
        have hend : ((pre ++ [l]).filter isPB).length = j + 1 := by rw [List.filter_append, List.filter_cons_of_pos hP, List.filter_nil, List.length_append, ← HJE.out]; rfl
        have hjm : j < m := by rw [HMM.out]; exact (List.getElem?_eq_some_iff.1 hat).1
        obtain ⟨ad, r, c, j1, j2, j3, j4⟩ := HJJ.out.box
        obtain ⟨v2, o1, o2⟩ := HJJ.out.out
        obtain ⟨so, co, rfl⟩ := (rd_of_row o2).form
        have hrp : 0 < r := by omega
        have hcap : m ≤ cap := by
          rcases HOW.out.2 with ⟨h, _⟩ | ⟨g, c', cur, h, _, _, h2, _⟩
          · cases h
          · cases h; exact h2
        have hLA : ∀ (W : World), (∀ b, b < V1.heap.size → b ≠ w.heap.size → W.heap[b]? = V1.heap[b]?) → ∀ i x, (ords n)[i]? = some x → ∃ a cp, W.cell? ⟨rb, i, none⟩ = some (.slice a x.length cp) ∧ Rd W 1 (.slice a x.length cp) x.length (i64s x) := fun W hW i x hx => lists_at HOW.out HLS.out (by omega) hW i x hx
        have HAT := Lib.hid hat; have HNX := Lib.hid hnx; have HEND := Lib.hid hend; have HLA := Lib.hid hLA; have HJ1 := Lib.hid j1; have HJ4 := Lib.hid j4; have HO1' := Lib.hid o1; have HO2' := Lib.hid o2
        have hXV : w.heap.size < X.heap.size ∧ V1.heap.size < X.heap.size := ⟨block_lt j1, block_lt o1⟩
        clear hP hat hnx hend hLA j1 j4 o1 o2
        gi_wp2_with (first
          | ((try refine ⟨trivial, ?_⟩); (try refine ⟨rfl, ?_⟩); refine (CallsIn.inRound l' (callsIn_wide.2 HIN.out)).mono ?_; rintro e w2 ⟨sa, ca, rfl, hown, hb⟩; have HOX := Lib.hid hown; have HB2 := Lib.hid hb; clear hown hb)
          | ((try refine ⟨trivial, ?_⟩); (try refine ⟨rfl, ?_⟩); refine (CallsIn.inRound l' (callsIn_wide.2 (HIS.out _ _ (rd_of_row HOX.out)))).mono ?_; rintro e w3 ⟨rfl, hb⟩; have hb3 : Below X.heap.size X w3 := HB2.out.trans (hb.mono HB2.out.size); have HB3 := Lib.hid hb3; have HRP := Lib.hid ((rd_of_row HOX.out).keep (W' := w3) fun b hb' hlt => hb.block b hlt); clear hb hb3))
        gi_loopw [11] (fun k wr => ∃ i : Nat, i ≤ 1 ∧ k = .int .u64 i ∧ ∃ ad r c, r + (j + i) = m ∧ c + (j + i) = cap ∧ Hid (0 < r → ad = some ⟨rb, j + i, none⟩) ∧ Hid (wr.heap[w.heap.size]? = some (.cells #[.slice ad r c] 108 (0, 0))) ∧ Hid (Chg (fun k => k = w.heap.size) w3 wr)) (fun k _ => 1 - (intOf k).toNat)
        case atStart => exact ⟨0, by omega, rfl, ad, r, c, by omega, by omega, HJ4.out, (HB3.out.block _ hXV.1).trans HJ1.out, Chg.refl _ _⟩
        case round =>
          obtain ⟨i, hi, rfl, ad, r, c, hr, hc, HAD, HBX, HCH⟩ := hrel
          have hwr : ∀ b, b < V1.heap.size → b ≠ w.heap.size → wr.heap[b]? = V1.heap[b]? := fun b h1 h2 => (HCH.out.block b (by have := HB3.out.size; omega) h2).trans ((HB3.out.block b (by omega)).trans (HJJ.out.kk b h1 h2))
          have hrp : Rd wr 1 (.slice sa n ca) n (i64s l) := HRP.out.keep fun b hb hlt => HCH.out.block b hlt (by have := (row_blk HOX.out b hb).1; omega)
          have cbx := cell0_of HBX.out
          have fbx := frozen_of HBX.out 0
          rcases (show i = 0 ∨ i = 1 by omega) with rfl | rfl
          · obtain rfl := HAD.out (by omega)
            obtain ⟨a1, cp1, e1, e2⟩ := HLA.out wr hwr j l HAT.out
            have hEq := equal_rd wr _ _ _ _ l l e2 hrp
            rw [eqL_iff.2 rfl] at hEq
            obtain ⟨sx, hx⟩ : ∃ sx, (if c = 1 then (some ⟨rb, j, none⟩ : Option Addr) else (some (⟨rb, j, none⟩ : Addr)).map (·.add 1)) = sx := ⟨_, rfl⟩
            have hsx2 : 0 < r - 1 → sx = some ⟨rb, j + 1, none⟩ := fun h => by rw [← hx, if_neg (by omega)]; rfl
            have hr0 : 0 < r := by omega
            have hc0 : r ≤ c := by omega
            have HEQ := Lib.hid hEq; have HSX := Lib.hid hsx2
            clear hwr hrp e2 hEq hsx2
            gi_wp2_with ((try refine ⟨trivial, ?_⟩); (try refine ⟨rfl, ?_⟩); refine (CallsIn.inRound l' (callsIn_wide.2 HEQ.out)).mono ?_; rintro e w5 ⟨rfl, q5, rfl⟩)
            have hz : (wr.drewN q5).heap = wr.heap := by simp
            exact ⟨⟨1, by omega, rfl, (if c = 1 then some ⟨rb, j, none⟩ else some ⟨rb, j + 1, none⟩), r - 1, c - 1, by omega, by omega, fun h => by rw [if_neg (by omega)], by have := set_of (w := wr.drewN q5) (by rw [hz]; exact HBX.out) 0 (.slice (if c = 1 then some ⟨rb, j, none⟩ else some ⟨rb, j + 1, none⟩) (r - 1) (c - 1)); exact this, (HCH.out.drewN q5).setCell (.inl rfl) _⟩, by simp [intOf]⟩
          · obtain ⟨i0, hi, hz0, hz1, hz2⟩ := info_parts info_u64
            have hjl : j + 1 ≤ 46656 := by omega
            rcases Nat.eq_zero_or_pos r with hr0 | hr0
            · subst hr0
              have HCW := Lib.hid HCH.out; have HBW := Lib.hid HBX.out
              have HWD := Lib.hid (show wr.heap[V1.heap.size]? = some (.cells #[.slice so j co] 24 (0, 0)) from (HCH.out.block _ (by have := HB3.out.size; omega) (by omega)).trans ((HB3.out.block _ hXV.2).trans HO1'.out))
              have HW2 := Lib.hid (show wr.ownsRow (W8.heap.size + (2 + 4)) 22 1 (.slice so j co) j (u64s (List.replicate j 1)) from row_kept HO2'.out fun g hg => (HCH.out.block _ (by have := (HO2'.out.lt g hg).2; have := HB3.out.size; omega) (by have := (HO2'.out.lt g hg).1; omega)).trans (HB3.out.block _ (HO2'.out.lt g hg).2))
              have HWS := Lib.hid (show W8.heap.size + (2 + 4) ≤ wr.heap.size from by have := HB3.out.size; have := HCH.out.size; omega)
              clear hwr hrp
              have cD2 : wr.cell? ⟨V1.heap.size, 0, none⟩ = some (.slice so j co) := cell0_of HWD.out
              gi_wp2_with (first
                | (gi_at_builtin; refine wpListIn_append_own_at _ rfl _ _ 24 rfl (W8.heap.size + (2 + 4)) 22 i0 _ 1 8 Try.underlying24 hi hz0 hz1 hz2 rfl (by decide) _ _ (u64s (List.replicate j 1)) rfl (HW2.out.alloc _) ⟨wr.heap.size, 0, none⟩ 1 1 [.int .u64 1] rfl rfl (cell_one_at _ _ _ _ rfl) (by simp [Value.oneCell']) ?q1 ?q2 ?q3 ?_))
              case q1 => unfold maxLen; omega
              case q2 => omega
              case q3 => have := HWS.out; simp; omega
              intro v' w5 hown hgrow hnil hfr
              obtain ⟨so', co', rfl⟩ := (rd_of_row hown).form
              have hD5 : w5.heap[V1.heap.size]? = some (.cells #[.slice so j co] 24 (0, 0)) := (hgrow.block _ (by have := block_lt HWD.out; simp; omega) fun e => by have := (HW2.out.lt _ e.symm).1; omega).trans ((Below.heap_alloc _ _ _ (block_lt HWD.out)).trans HWD.out)
              have hres := orJ_more (v' := .slice so' (j + 1) co') (u := .int .u64 1) (e := 22) HJJ.out (by omega) (by omega) HB3.out HCW.out HBW.out (by omega) (by omega) HAD.out HO1'.out HO2'.out (by rw [s8]; exact hown) hgrow
              have c5 := cell0_of hD5
              have f5 := frozen_of hD5 0
              have HRES := Lib.hid hres
              clear hres hown hgrow hnil hfr hD5 HW2 HWD
              gi_wp2
              refine ⟨?_, HRES.out.2.1, fun b hb1 hb2 => ?_⟩
              · show OrJ w V1 V1.heap.size (W8.heap.size + (2 + 4)) rb m cap ((pre ++ [l]).filter isPB).length _
                rw [HEND.out]
                exact HRES.out.1
              · have hbb : b < W8.heap.size + (2 + 4) ∧ b ≠ w.heap.size ∧ b ≠ V1.heap.size := by
                  rcases hb1 with h | h | h
                  · omega
                  · omega
                  · have := sBlk_some h; omega
                exact HRES.out.2.2 b hb2 hbb.1 hbb.2.1 hbb.2.2
            · obtain rfl := HAD.out hr0
              obtain ⟨x, hx⟩ : ∃ x, (ords n)[j + 1]? = some x := ⟨_, List.getElem?_eq_getElem (by rw [← HMM.out]; omega)⟩
              obtain ⟨a1, cp1, e1, e2⟩ := HLA.out wr hwr (j + 1) x hx
              have hEq := equal_rd wr _ _ _ _ x l e2 hrp
              rw [show eqL x l = false by rw [Bool.eq_false_iff]; intro h; exact HNX.out x hx (eqL_iff.1 h)] at hEq
              have HEQ := Lib.hid hEq
              clear e2 hEq hx
              have HCW := Lib.hid HCH.out; have HBW := Lib.hid HBX.out
              have HWD := Lib.hid (show wr.heap[V1.heap.size]? = some (.cells #[.slice so j co] 24 (0, 0)) from (HCH.out.block _ (by have := HB3.out.size; omega) (by omega)).trans ((HB3.out.block _ hXV.2).trans HO1'.out))
              have HW2 := Lib.hid (show wr.ownsRow (W8.heap.size + (2 + 4)) 22 1 (.slice so j co) j (u64s (List.replicate j 1)) from row_kept HO2'.out fun g hg => (HCH.out.block _ (by have := (HO2'.out.lt g hg).2; have := HB3.out.size; omega) (by have := (HO2'.out.lt g hg).1; omega)).trans (HB3.out.block _ (HO2'.out.lt g hg).2))
              have HWS := Lib.hid (show W8.heap.size + (2 + 4) ≤ wr.heap.size from by have := HB3.out.size; have := HCH.out.size; omega)
              clear hwr hrp
              have cD2 : wr.cell? ⟨V1.heap.size, 0, none⟩ = some (.slice so j co) := cell0_of HWD.out
              have HQ : ∀ q, Hid ((wr.drewN q).heap = wr.heap) := fun q => drewN_heap _ _
              have HCWq : ∀ q, Hid (Chg (fun k => k = w.heap.size) w3 (wr.drewN q)) := fun q => HCW.out.drewN q
              have HBWq : ∀ q, Hid ((wr.drewN q).heap[w.heap.size]? = some (.cells #[.slice (some ⟨rb, j + 1, none⟩) r c] 108 (0, 0))) := fun q => by show _ = _; rw [(HQ q).out]; exact HBW.out
              have HWDq : ∀ q, Hid ((wr.drewN q).heap[V1.heap.size]? = some (.cells #[.slice so j co] 24 (0, 0))) := fun q => by show _ = _; rw [(HQ q).out]; exact HWD.out
              have HW2q : ∀ q, Hid ((wr.drewN q).ownsRow (W8.heap.size + (2 + 4)) 22 1 (.slice so j co) j (u64s (List.replicate j 1))) := fun q => row_kept HW2.out fun g hg => by rw [(HQ q).out]
              have HWSq : ∀ q, Hid (W8.heap.size + (2 + 4) ≤ (wr.drewN q).heap.size) := fun q => by show _ ≤ _; rw [(HQ q).out]; exact HWS.out
              gi_wp2_with (first
                | ((try refine ⟨trivial, ?_⟩); (try refine ⟨rfl, ?_⟩); refine (CallsIn.inRound l' (callsIn_wide.2 HEQ.out)).mono ?_; rintro e w5 ⟨rfl, q5, rfl⟩)
                | (gi_at_builtin; refine wpListIn_append_own_at _ rfl _ _ 24 rfl (W8.heap.size + (2 + 4)) 22 i0 _ 1 8 Try.underlying24 hi hz0 hz1 hz2 rfl (by decide) _ _ (u64s (List.replicate j 1)) rfl ((HW2q q5).out.alloc _) ⟨wr.heap.size, 0, none⟩ 1 1 [.int .u64 1] rfl rfl (cell_one_at _ _ _ _ (by simp)) (by simp [Value.oneCell']) ?q1 ?q2 ?q3 ?_))
              case q1 => unfold maxLen; omega
              case q2 => omega
              case q3 => have := HWS.out; simp; omega
              intro v' w5 hown hgrow hnil hfr
              obtain ⟨so', co', rfl⟩ := (rd_of_row hown).form
              have hD5 : w5.heap[V1.heap.size]? = some (.cells #[.slice so j co] 24 (0, 0)) := (hgrow.block _ (by have := block_lt HWD.out; simp; omega) fun e => by have := ((HW2q q5).out.lt _ e.symm).1; omega).trans ((Below.heap_alloc _ _ _ (block_lt (HWDq q5).out)).trans (HWDq q5).out)
              have hres := orJ_more (v' := .slice so' (j + 1) co') (u := .int .u64 1) (e := 22) HJJ.out (by omega) (by omega) HB3.out (HCWq q5).out (HBWq q5).out (by omega) (by omega) (fun _ => rfl) HO1'.out HO2'.out (by rw [s8]; exact hown) hgrow
              have c5 := cell0_of hD5
              have f5 := frozen_of hD5 0
              have HRES := Lib.hid hres
              clear hres hown hgrow hnil hfr hD5
              gi_wp2
              refine ⟨?_, HRES.out.2.1, fun b hb1 hb2 => ?_⟩
              · show OrJ w V1 V1.heap.size (W8.heap.size + (2 + 4)) rb m cap ((pre ++ [l]).filter isPB).length _
                rw [HEND.out]
                exact HRES.out.1
              · have hbb : b < W8.heap.size + (2 + 4) ∧ b ≠ w.heap.size ∧ b ≠ V1.heap.size := by
                  rcases hb1 with h | h | h
                  · omega
                  · omega
                  · have := sBlk_some h; omega
                exact HRES.out.2.2 b hb2 hbb.1 hbb.2.1 hbb.2.2
    case done2 =>
      rintro Y HJ hK2
      have hS : ((allL (List.replicate n ((n : Nat) : Int))).filter isPB).length = m := HMM.out.symm
      rw [hS] at HJ
      obtain ⟨v2, o1, o2⟩ := HJ.out
      obtain ⟨sb, cb, rfl⟩ := (rd_of_row o2).form
      have c2 := cell0_of o1
      have HR2 := Lib.hid (rd_of_row o2)
      have HB2 := Lib.hid (row_blk o2)
      have HB0 := Lib.hid HJ.low
      have HK1 := Lib.hid (show Y.heap[w1.heap.size + 1]? = some (.deferred (some [])) by rw [← s4]; exact (HJ.kk _ (by omega) (by omega)).trans HKD.out)
      have HK2 := Lib.hid hK2
      have hws : w.heap.size ≤ Y.heap.size := HJ.low.size
      clear hg hJ8 o1 o2 HJ hK2 hS
      gi_wp2
      have hk1 : (Y.putObj W8.heap.size (.deferred none)).heap[(w1.heap.size + 1)]? = some (.deferred (some [])) := (World.putObj_heap_other (by omega)).trans HK1.out
      have hkk : ∀ b, W8.heap.size + (2 + 4) ≤ b → ((Y.putObj W8.heap.size (.deferred none)).putObj (w1.heap.size + 1) (.deferred none)).heap[b]? = Y.heap[b]? := fun b hb => (World.putObj_heap_other (by omega)).trans (World.putObj_heap_other (by omega))
      refine ⟨by simp, .inl ⟨_, _, rfl, run_takeDeferred (w := Y) HK2.out, by simp, .inl ⟨_, _, rfl, run_takeDeferred hk1, _, results_tmp2 rfl _ _ _, _, rfl, ?_, ?_⟩⟩⟩
      · rw [← HMM.out]
        exact HR2.out.keep fun b hb _ => hkk b (HB2.out b hb).1
      · exact HB0.out.trans (((chg_putObj (S := fun k => k = W8.heap.size) Y W8.heap.size (.deferred none) rfl).below hws (fun k hk => by omega)).trans ((chg_putObj (S := fun k => k = (w1.heap.size + 1)) _ (w1.heap.size + 1) (.deferred none) rfl).below (Nat.le_trans hws (chg_putObj (S := fun k => k = W8.heap.size) Y W8.heap.size (.deferred none) rfl).size) (fun k hk => by omega)))

end Go.Proofs.Ytnnaijbdimdhpaa
