/-
  tally.Slots: the first range: of all decisions, how many leave each set.
-/
import Derived.Test.YtnnaijbdimdhpaaTlySlJ
import Derived.Test.YtnnaijbdimdhpaaTlyL2
import Derived.Test.YtnnaijbdimdhpaaTly19
namespace Go.Proofs.Ytnnaijbdimdhpaa
open Go.RowKit Go.Shelf
set_option linter.unusedVariables false
attribute [local go_sem] Oper.semAt_some wide_fn

theorem bits_or_i64_nat (a b : Nat) (ha : a < 4611686018427387904) (hb : b < 4611686018427387904) : bits .or .i64 (a : Int) (b : Int) = ((a ||| b : Nat) : Int) := by
  have hx : a ||| b < 2 ^ 62 := Nat.or_lt_two_pow (by omega) (by omega)
  have h1 : (BitVec.ofInt 64 (a : Int)).toNat = a := by
    rw [BitVec.ofInt_natCast, BitVec.toNat_ofNat]; exact Nat.mod_eq_of_lt (by omega)
  have h2 : (BitVec.ofInt 64 (b : Int)).toNat = b := by
    rw [BitVec.ofInt_natCast, BitVec.toNat_ofNat]; exact Nat.mod_eq_of_lt (by omega)
  show IntKind.i64.wrap ((BitVec.ofInt 64 (a : Int) ||| BitVec.ofInt 64 (b : Int)).toNat : Int) = _
  rw [BitVec.toNat_or, h1, h2, IntKind.wrap_i64]
  omega

theorem allL_get : ∀ (lims : List Int) {l : List Int}, l ∈ allL lims → l.length = lims.length ∧ ∀ i, i < l.length → 0 ≤ l.getD i 0 ∧ l.getD i 0 < lims.getD i 0
  | [], l, h => by
    obtain rfl : l = [] := by simpa [allL] using h
    exact ⟨rfl, fun i hi => by simp at hi⟩
  | n :: ns, l, h => by
    simp only [allL] at h
    obtain ⟨a, ha, h⟩ := List.mem_flatMap.1 h
    obtain ⟨l', hl', rfl⟩ := List.mem_map.1 h
    obtain ⟨h1, h2⟩ := allL_get ns hl'
    have ha' := List.mem_range.1 ha
    refine ⟨by simp [h1], fun i hi => ?_⟩
    cases i with
    | zero => simp only [List.getD_cons_zero]; omega
    | succ i => simpa using h2 i (by simpa using hi)
theorem upI_get {k n i : Nat} (h : i < n + 1 - k) : (upI k n).getD i 0 = ((k + i : Nat) : Int) := by
  simp [upI, List.getD, h]
theorem decs_right {n k : Nat} {d : List Int} (hk : k ≤ n) (h : d ∈ decs n k) : resRight n k d := by
  obtain ⟨h1, h2⟩ := allL_get _ h
  rw [upI_len] at h1
  refine ⟨by omega, fun i hi => ?_⟩
  have := h2 i hi
  rw [upI_get (by omega)] at this
  omega
theorem orB_snoc (l : List Int) (x : Int) : orB (l ++ [x]) = orB l ||| (1 <<< x.toNat) := by simp [orB, List.foldl_append]
theorem orB_lt : ∀ (q : Nat) (l : List Int), l.length = q → (∀ x ∈ l, x.toNat < 6) → orB l < 64 := by
  intro q
  induction q with
  | zero => intro l h _; rw [List.length_eq_zero_iff.1 h]; decide
  | succ q ih =>
    intro l h hb
    have hne : l ≠ [] := by rintro rfl; simp at h
    have hl := List.dropLast_concat_getLast hne
    rw [← hl, orB_snoc]
    have h1 := ih l.dropLast (by rw [List.length_dropLast]; omega) fun x hx => hb x (List.dropLast_subset _ hx)
    have h2 : 1 <<< (l.getLast hne).toNat < 2 ^ 6 := by rw [Nat.shiftLeft_eq, Nat.one_mul]; exact Nat.pow_lt_pow_right (by omega) (hb _ (List.getLast_mem hne))
    exact Nat.or_lt_two_pow (n := 6) h1 h2

/-- a round's end: one count more -/
theorem slI_round {w V X : World} {n k idx d s8 : Nat} {L : List Nat} {f : List Int → Nat} {pre' : List (List Int)} (A : Act) (h : SlI w n k L V) (hL : cnt 64 (pre'.map f) = (cnt 64 L).set idx ((d : Int) + 1)) (kp : Nat → Prop) {u : Value} (hkp : ∀ k, (s8 ≤ k ∧ k < s8 + (2 + 4)) ∨ kp k → k ≠ w.heap.size + 1 + 1) (hb : Below V.heap.size V X) (hu : u = .int .u64 ((d : Int) + 1)) :
    gPost s8 (2 + 4) kp (fun pre V => SlI w n k (pre.map f) V) pre' V .normal A (X.setCell ⟨w.heap.size + 1 + 1, idx, none⟩ u) := by
  subst hu
  have hk : ∀ k, k ≠ w.heap.size + 1 + 1 → k < V.heap.size → (X.setCell ⟨w.heap.size + 1 + 1, idx, none⟩ (.int .u64 ((d : Int) + 1))).heap[k]? = V.heap[k]? := fun k hk hl => (Below.heap_setCell _ _ _ _ hk).trans (hb.block _ hl)
  have hs : (X.setCell ⟨w.heap.size + 1 + 1, idx, none⟩ (.int .u64 ((d : Int) + 1))).heap.size = X.heap.size := by simp [World.setCell]
  refine ⟨?_, by rw [hs]; exact hb.size, fun k hk1 hl => hk k (hkp k hk1) hl⟩
  show SlI w n k (pre'.map f) _
  refine ⟨(hk _ (by omega) (block_lt h.i1)).trans h.i1, (hk _ (by omega) (block_lt h.i2)).trans h.i2, ?_, (h.i4.trans (hb.mono h.i4.size)).setCell (by show w.heap.size ≤ w.heap.size + 1 + 1; omega) _⟩
  have h3 := (hb.block _ (block_lt h.i3)).trans h.i3
  rw [set_of h3 idx _, hL, u64s_set]
  simp
theorem row_blk {w : World} {B : Nat} {e : TypeId} {sa : Option Addr} {n cap m : Nat} {xs : List Value} (h : w.ownsRow B e 1 (.slice sa n cap) m xs) : ∀ b, sBlk (.slice sa n cap) = some b → B ≤ b ∧ b < w.heap.size := by
  intro b hb
  rcases h.2 with ⟨h1, _⟩ | ⟨g, c, cur, h1, h2, h3, _⟩
  · rw [h1] at hb; cases hb
  · rw [h1] at hb
    cases hb
    exact ⟨h2, block_lt h3⟩

set_option maxRecDepth 100000 in
set_option maxHeartbeats 2000000 in
theorem slots_ok51 (n k : Nat) (w : World) (hn : n ≤ 6) (hk : k ≤ n) :
    Calls Try.prog 27 #[.int .i64 n, .int .i64 k] w fun e w' => ∃ v1 v2, e = .returned (.tuple #[v1, v2, .int .i64 0]) ∧ Rd w' 1 v1 (setsC n k).length (u64s (castL (setsC n k))) ∧ Rd w' 1 v2 (setsC n k).length (u64s (castL ((setsC n k).map fun s => ((decs n k).map fun d => orB (slotsL k d)).count s))) ∧ Below w.heap.size w w' := by
  have hU := fun W => up_any (k + 1) n W (by omega) (by omega)
  rw [show ((k + 1 : Nat) : Int) = (k : Int) + 1 by omega, show n + 1 - (k + 1) = n - k by omega] at hU
  obtain ⟨W1, e1, s1, n1, k1⟩ := alloc_facts w (.cells #[.int .i64 n] 3)
  obtain ⟨W2, e2, s2, n2, k2⟩ := alloc_facts W1 (.cells #[.int .i64 k] 3)
  obtain ⟨W3, e3, s3, n3, k3⟩ := alloc_facts W2 (.cells (u64s (cnt 64 [])).toArray 87)
  have hz : (u64s (cnt 64 [])).toArray = #[.int .u64 0, .int .u64 0, .int .u64 0, .int .u64 0, .int .u64 0, .int .u64 0, .int .u64 0, .int .u64 0, .int .u64 0, .int .u64 0, .int .u64 0, .int .u64 0, .int .u64 0, .int .u64 0, .int .u64 0, .int .u64 0, .int .u64 0, .int .u64 0, .int .u64 0, .int .u64 0, .int .u64 0, .int .u64 0, .int .u64 0, .int .u64 0, .int .u64 0, .int .u64 0, .int .u64 0, .int .u64 0, .int .u64 0, .int .u64 0, .int .u64 0, .int .u64 0, .int .u64 0, .int .u64 0, .int .u64 0, .int .u64 0, .int .u64 0, .int .u64 0, .int .u64 0, .int .u64 0, .int .u64 0, .int .u64 0, .int .u64 0, .int .u64 0, .int .u64 0, .int .u64 0, .int .u64 0, .int .u64 0, .int .u64 0, .int .u64 0, .int .u64 0, .int .u64 0, .int .u64 0, .int .u64 0, .int .u64 0, .int .u64 0, .int .u64 0, .int .u64 0, .int .u64 0, .int .u64 0, .int .u64 0, .int .u64 0, .int .u64 0, .int .u64 0] := by kernel_rfl
  have hI3 : SlI w n k [] W3 := by
    rw [s1] at n2 s2
    rw [s2] at n3 s3
    refine ⟨(k3 _ (by omega)).trans ((k2 _ (by omega)).trans n1), (k3 _ (by omega)).trans n2, n3, ?_⟩
    rw [e3, e2, e1]
    exact (((Below.refl _ w).alloc (Nat.le_refl _) _).alloc (by simp) _).alloc (by simp; omega) _
  rw [hz] at e3
  have hs3 : W3.heap.size = w.heap.size + 1 + 1 + 1 := by rw [s3, s2, s1]
  have HE : Hid (W3 = ((w.alloc (.cells #[.int .i64 n] 3)).alloc (.cells #[.int .i64 k] 3)).alloc (.cells #[.int .u64 0, .int .u64 0, .int .u64 0, .int .u64 0, .int .u64 0, .int .u64 0, .int .u64 0, .int .u64 0, .int .u64 0, .int .u64 0, .int .u64 0, .int .u64 0, .int .u64 0, .int .u64 0, .int .u64 0, .int .u64 0, .int .u64 0, .int .u64 0, .int .u64 0, .int .u64 0, .int .u64 0, .int .u64 0, .int .u64 0, .int .u64 0, .int .u64 0, .int .u64 0, .int .u64 0, .int .u64 0, .int .u64 0, .int .u64 0, .int .u64 0, .int .u64 0, .int .u64 0, .int .u64 0, .int .u64 0, .int .u64 0, .int .u64 0, .int .u64 0, .int .u64 0, .int .u64 0, .int .u64 0, .int .u64 0, .int .u64 0, .int .u64 0, .int .u64 0, .int .u64 0, .int .u64 0, .int .u64 0, .int .u64 0, .int .u64 0, .int .u64 0, .int .u64 0, .int .u64 0, .int .u64 0, .int .u64 0, .int .u64 0, .int .u64 0, .int .u64 0, .int .u64 0, .int .u64 0, .int .u64 0, .int .u64 0, .int .u64 0, .int .u64 0] 87)) := by show W3 = _; rw [e3, e2, e1]
  have HW3 := Lib.hid hI3
  clear e1 e2 e3 s1 s2 s3 n1 n2 n3 k1 k2 k3 hz hI3
  refine (callsIn_wide (n := 0)).1 ?_
  refine callsIn_of_wp_marks Try.func27 rfl trivial ?_ rfl
  simp only [Try.ntmps27, List.size_toArray, List.length_cons, List.length_nil, Nat.reduceAdd, Nat.reduceSub, Array.replicate_succ, Array.replicate_zero, List.push_toArray, List.append_toArray, List.nil_append, List.cons_append]
  gi_wp2_with ((try rw [← HE.out]); (try refine ⟨trivial, ?_⟩); (try refine ⟨rfl, ?_⟩); first | (refine (callsIn_wide.2 (hU _)).mono ?_; rintro e w1 ⟨su, cu, rfl, hown, hb1⟩; have HO1 := Lib.hid hown; have HB1 := Lib.hid hb1; clear hown hb1) | (refine (callsIn_wide.2 (lists_any _ _ _ _)).mono ?_; rintro e w' ⟨rfl, rfl⟩))
  obtain ⟨W4, e4, s4, n4, k4⟩ := alloc_facts w1 (.cells #[.slice su (n - k) cu] 24)
  rw [← e4]
  have hs1 : w.heap.size + 1 + 1 + 1 ≤ w1.heap.size := by have := HB1.out.size; omega
  have hblk := row_blk HO1.out
  have hb34 : Below W3.heap.size W3 W4 := by rw [e4]; exact HB1.out.alloc HB1.out.size _
  have hI4 : SlI w n k [] W4 := ⟨(hb34.block _ (by omega)).trans HW3.out.i1, (hb34.block _ (by omega)).trans HW3.out.i2, (hb34.block _ (by omega)).trans HW3.out.i3, HW3.out.i4.trans (hb34.mono HW3.out.i4.size)⟩
  have hrd4 : Rd W4 1 (.slice su (n - k) cu) (n - k) (u64s (upI (k + 1) n)) := (rd_of_row HO1.out).keep fun b hb _ => k4 _ (hblk b hb).2
  have hg := lists_gives w1.heap.size (n - k) (.slice su (n - k) cu) (upI (k + 1) n) W4 (by rw [upI_len]; omega) (by omega) (by intro x hx; have h1 := upI_le x hx; obtain ⟨i, _, rfl⟩ := List.mem_map.1 hx; omega) (cell0_of n4) hrd4 (fun b hb => by have := hblk b hb; omega)
  have hu : ∀ b, sBlk (.slice su (n - k) cu) = some b → w.heap.size + 1 + 1 < b ∧ b < w1.heap.size := fun b hb => by have := hblk b hb; omega
  clear e4 n4 k4 hb34 hrd4 hblk hU HE
  refine wp_range_own (gf := 77) (lb := #[.pointer (some ⟨w1.heap.size, 0, none⟩)]) rfl (enters_of Try.func77 (by kernel_rfl) rfl)
    (fun b hb => by rcases hb with hb | hb; omega; have := hu b hb; omega) hg rfl (fun x s A B h hk => h.keep fun b hb _ => by have := sBlk_some hb; exact hk _ (by omega) (by omega))
    (fun pre V => SlI w n k (pre.map fun d => orB (slotsL k d)) V)
    ?hI ?h0 ?a1 ?assign ?body ?done
  case assign =>
    intro l' x V K hK
    gi_wp2
    exact hK
  case hI =>
    rintro pre A B ⟨i1, i2, i3, i4⟩ hc
    exact ⟨(hc.block _ (block_lt i1) (by omega)).trans i1, (hc.block _ (block_lt i2) (by omega)).trans i2, (hc.block _ (block_lt i3) (by omega)).trans i3, i4.trans (hc.below i4.size fun k hk => by omega)⟩
  case h0 => exact hI4
  case body =>
    rintro l' pre d V HI hpre hh hsV
    have hd : d ∈ decs n k := hpre.subset (by simp)
    have hlenp : pre.length + 1 ≤ 46656 := by
      have h1 := hpre.length_le
      have h2 : (allL (upI (k + 1) n)).length ≤ 46656 := by
        refine Nat.le_trans (allL_len_le (b := 6) _ fun x hx => by have := upI_le x hx; omega) ?_
        exact Nat.le_trans (Nat.pow_le_pow_right (n := 6) (j := 6) (by omega) (by rw [upI_len]; omega)) (by decide)
      simp at h1
      omega
    have hright := decs_right hk hd
    have hfacts := (slot_facts hn hk).2.1 d hd
    have hSL : slotsL k d = slotsR k d := slotsL_eq k d fun i hi => (hright.2 i hi).1
    have hdpos : ∀ x ∈ d, 0 ≤ x ∧ x < 9223372036854775808 := by
      intro x hx
      obtain ⟨i, hi, he⟩ := List.mem_iff_getElem.1 hx
      have h1 := hright.2 i hi
      rw [show d.getD i 0 = x by simp [List.getD, List.getElem?_eq_getElem hi, he]] at h1
      have := hright.1
      omega
    have hbd : ∀ x ∈ slotsL k d, ∃ m : Nat, x = m ∧ m < 6 := by
      intro x hx
      rw [hSL] at hx
      obtain ⟨m, h1, h2⟩ := slotsR_bd hx
      exact ⟨m, h1, by have := hright.1; omega⟩
    have hlenSL : (slotsL k d).length = k := slotsL_len k d
    have hdl : d.length = n - k := hright.1
    have hV := HI.i4
    have hsx : w.heap.size + 1 + 1 < V.heap.size := block_lt HI.i3
    have hIn := tints_any d (.slice (some ⟨w1.heap.size + 1 + 1 + 1 + 1, 0, none⟩) (n - k) (n - k)) (n - k) V.drew (by rw [s4] at hh; exact hh.keep fun _ _ _ => rfl) (by omega) hdpos
    have hSl := fun (va : Value) (W : World) (h : Rd W 1 va (n - k) (i64s d)) => slots_ok W n k va (n - k) d h hk (by omega) (resRightB_iff.2 hright)
    have hcn : ∀ u : LaterW V, u.w.cell? ⟨w.heap.size, 0, none⟩ = some (.int .i64 n) := fun u => cell0_of ((u.h.block _ (block_lt HI.i1)).trans HI.i1)
    have hck : ∀ u : LaterW V, u.w.cell? ⟨w.heap.size + 1, 0, none⟩ = some (.int .i64 k) := fun u => cell0_of ((u.h.block _ (block_lt HI.i2)).trans HI.i2)
    have hSL2 := Lib.hid hSl
    have HSL := Lib.hid hSl; have HBD := Lib.hid hbd; have HF := Lib.hid hfacts; have HLS := Lib.hid hlenSL; have HII := Lib.hid HI; have HLP := Lib.hid hlenp
    have hmx : Try.prog.follows .mixedOrders = true := by kernel_rfl
    clear hpre hh hd hright hfacts hSL hdpos hbd hlenSL hdl hSl hg hI4 HI hlenp hV
    gi_wp2
    refine wpIn_region_mix_round (fun w' => ∃ u : LaterW V, w' = u.w) l' 9 0 hmx (by kernel_rfl) (by kernel_rfl) rfl ?_
    intro hT
    have hC0 : ∃ u : LaterW V, V.drew = u.w := ⟨⟨V.drew, (Below.refl _ V).drew⟩, rfl⟩
    refine wpAnyM_take 0 (v := .int .i64 n) hT (by omega) rfl (by kernel_rfl) hC0 (.inl ⟨by rfl, ?_⟩) ?_
    · rintro _ ⟨u, rfl⟩
      go_simp
    refine wpAnyM_take 1 (v := .int .i64 k) hT (by omega) rfl (by kernel_rfl) hC0 (.inl ⟨by rfl, ?_⟩) ?_
    · rintro _ ⟨u, rfl⟩
      go_simp
    refine wpAnyM_take 2 (v := .slice (some ⟨w1.heap.size + 1 + 1 + 1 + 1, 0, none⟩) (n - k) (n - k)) hT (by omega) rfl (by kernel_rfl) hC0 (.inl ⟨by rfl, ?_⟩) ?_
    · rintro _ ⟨u, rfl⟩
      go_simp
    refine wpAnyM_all [3] (by kernel_rfl) (by simp) (by kernel_rfl) ?_
    intro i hi
    rw [List.mem_singleton] at hi
    subst hi
    refine wpOpIn_step rfl fun K hK => ?_
    go_simp
    refine ⟨rfl, (callsIn_wide.2 hIn).mono ?_⟩
    rintro e V1 ⟨sa, ca, rfl, hown, hb⟩
    have hb1 : Below V.heap.size V V1 := (Below.refl _ V).drew.trans (hb.mono (Nat.le_refl _))
    have hC1 : ∃ u : LaterW V, V1 = u.w := ⟨⟨V1, hb1⟩, rfl⟩
    have hS := hSL2.out _ V1 (rd_of_row hown)
    clear hown hb hIn
    refine hK _ _ ⟨hC1, ?_⟩
    clear hK K
    refine wpAnyM_all [4] (by kernel_rfl) (by simp) (by kernel_rfl) ?_
    intro i hi
    rw [List.mem_singleton] at hi
    subst hi
    refine wpOpIn_step rfl fun K hK => ?_
    go_simp
    refine ⟨rfl, (callsIn_wide.2 hS).mono ?_⟩
    rintro e V2 ⟨sb, cb, rfl, hown, hb⟩
    have hb2 : Below V.heap.size V V2 := hb1.trans (hb.mono hb1.size)
    have hC2 : ∃ u : LaterW V, V2 = u.w := ⟨⟨V2, hb2⟩, rfl⟩
    have HR2 := Lib.hid (rd_of_row hown)
    clear hown hb hS
    refine hK _ _ ⟨hC2, ?_⟩
    clear hK K hC1 hb1
    refine wpAnyM_take 5 (v := .tuple #[.slice sb k cb, .int .i64 0]) hT (by omega) rfl (by kernel_rfl) hC2 (.inl ⟨by rfl, ?_⟩) ?_
    · rintro _ ⟨u, rfl⟩
      go_simp
    refine wpAnyM_take 6 (v := .slice sb k cb) hT (by omega) rfl (by kernel_rfl) hC2 (.inl ⟨by rfl, ?_⟩) ?_
    · rintro _ ⟨u, rfl⟩
      go_simp
    refine wpAnyM_take 7 (v := .int .i64 0) hT (by omega) rfl (by kernel_rfl) hC2 (.inl ⟨by rfl, ?_⟩) ?_
    · rintro _ ⟨u, rfl⟩
      go_simp
    refine wpAnyM_take 8 (v := .slice sb k cb) hT (by omega) rfl (by kernel_rfl) hC2 (.inl ⟨by rfl, ?_⟩) ?_
    · rintro _ ⟨u, rfl⟩
      go_simp
    refine wpAnyM_end (by kernel_rfl) ?_
    simp only [List.drop_succ_cons, List.drop_zero]
    clear hT hC2 hC0 hcn hck
    gi_wp2
    refine OnlyQ.normal ?_
    gi_wp2
    gi_loopw [11, 13, 52] (fun z u i wr => ∃ q : Nat, q ≤ k ∧ i = .int .i64 q ∧ ∃ y : Nat, y < 64 ∧ z = .int .i64 y ∧ Hid (y = orB ((slotsL k d).take q)) ∧ wr = V2) (fun _ _ i _ => k - (intOf i).toNat)
    case atStart => exact ⟨0, Nat.zero_le _, rfl, 0, by omega, rfl, rfl, rfl⟩
    case round =>
      obtain ⟨q, hq, rfl, y, hy, rfl, HY, rfl⟩ := hrel
      by_cases hlt : q < k
      · obtain ⟨b, off, rfl, hcell⟩ := HR2.out.at (by omega)
        have hqL : q < (slotsL k d).length := by rw [HLS.out]; exact hlt
        have hc := hcell q _ (i64s_at (slotsL k d) q hqL)
        obtain ⟨m, hm, hm6⟩ := HBD.out ((slotsL k d).getD q 0) (by simp [List.getD, List.getElem?_eq_getElem hqL])
        rw [hm] at hc
        have htk : (slotsL k d).take (q + 1) = (slotsL k d).take q ++ [(m : Int)] := by rw [List.take_add_one, List.getElem?_eq_getElem hqL, ← hm]; simp [List.getD, List.getElem?_eq_getElem hqL]
        have hsh : 1 <<< m = 2 ^ m := by rw [Nat.shiftLeft_eq, Nat.one_mul]
        have hnew : y ||| 2 ^ m = orB ((slotsL k d).take (q + 1)) := by rw [htk, orB_snoc, ← HY.out, Int.toNat_natCast, hsh]
        have hP : 2 ^ m < 2 ^ 6 := Nat.pow_lt_pow_right (by omega) hm6
        have hor64 : y ||| 2 ^ m < 2 ^ 6 := Nat.or_lt_two_pow (n := 6) hy hP
        obtain ⟨P, hPP⟩ : ∃ P, P = 2 ^ m := ⟨_, rfl⟩
        have hpw : (2 : Int) ^ m = (P : Int) := by rw [hPP]; simp
        rw [← hPP] at hnew hP hor64
        have hor := bits_or_i64_nat y P (by omega) (by omega)
        have hor64' : y ||| P < 64 := hor64
        generalize y ||| P = Z at *
        have HNEW := Lib.hid hnew
        clear hcell hm htk hsh hnew HY hPP hor64 hqL
        gi_wp2
        exact ⟨⟨q + 1, by omega, by go_num, Z, hor64', rfl, HNEW, by simp⟩, by simp [intOf]; omega⟩
      · obtain rfl : q = k := by omega
        have hyL : y = orB (slotsL q d) := by rw [HY.out, List.take_of_length_le (by rw [HLS.out]; exact Nat.le_refl _)]
        obtain ⟨L, hL⟩ : ∃ L, L = pre.map fun d => orB (slotsL q d) := ⟨_, rfl⟩
        have hII := HII.out
        rw [← hL] at hII
        have hLl : L.length ≤ 50000 := by rw [hL, List.length_map]; have := HLP.out; omega
        obtain ⟨c, hc⟩ : ∃ c, c = L.count y := ⟨_, rfl⟩
        have hcb : c ≤ 50000 := by rw [hc]; exact Nat.le_trans List.count_le_length hLl
        have hdv := cnt_at 64 L hy
        rw [← hc] at hdv
        have i3 := (hb2.block _ (block_lt hII.i3)).trans hII.i3
        have cv : wr.cell? ⟨w.heap.size + 1 + 1, y, none⟩ = some (.int .u64 c) := by
          refine cell_of i3 y ?_
          have := u64s_at (cnt 64 L) y (by rw [cnt_len]; exact hy)
          rw [hdv] at this
          simpa using this
        have fv := frozen_of i3 y
        have hsn : cnt 64 ((pre ++ [d]).map fun d => orB (slotsL q d)) = (cnt 64 L).set y ((c : Int) + 1) := by
          rw [List.map_append, ← hL, List.map_cons, List.map_nil, ← hyL, cnt_snoc 64 L hy, hdv]
        have HSN := Lib.hid hsn
        have HI2 := Lib.hid hII
        have HB2 := Lib.hid hb2
        clear hsn hdv hc hLl hyL hII hL i3 HY HII hb2
        gi_wp2
        exact slI_round (pre' := pre ++ [d]) (f := fun d => orB (slotsL q d)) _ HI2.out HSN.out _ (fun k hk => by rcases hk with hk | hk | hk; omega; omega; have := hu k hk; omega) HB2.out rfl
  case done =>
    rintro V HI hK
    have hsx : w.heap.size + 1 + 1 < W4.heap.size := by omega
    have hkV : W4.heap.size < V.heap.size := block_lt hK
    obtain ⟨V1, e1, s1, n1, k1⟩ := alloc_facts V (.cells #[.slice none 0 0] 24)
    obtain ⟨V2, e2, s2, n2, k2⟩ := alloc_facts V1 (.cells #[.slice none 0 0] 24)
    obtain ⟨V3, e3, s3, n3, k3⟩ := alloc_facts V2 (.cells #[.int .u64 2] 22)
    rw [s1] at n2 s2
    rw [s2] at n3 s3
    have hrd3 : Rd V3 1 (.slice (some ⟨V.heap.size + 1 + 1, 0, none⟩) 1 1) 1 (u64s [((2 : Nat) : Int)]) := by
      refine ⟨rfl, by unfold maxLen; omega, _, _, rfl, Nat.le_refl _, .inr ⟨_, 0, rfl, fun i u hu => ?_⟩⟩
      exact cell_of n3 _ (by simpa [u64s] using hu)
    have hRep := repeat_any n ((2 : Nat) : Int) _ V3 (by omega) hrd3
    rw [s3] at hRep
    have hb3 : Below V.heap.size V V3 := by rw [e3, e2, e1]; exact (((Below.refl _ V).alloc (Nat.le_refl _) _).alloc (by simp) _).alloc (by simp; omega) _
    have HE3 : Hid (V3 = ((V.alloc (.cells #[.slice none 0 0] 24)).alloc (.cells #[.slice none 0 0] 24)).alloc (.cells #[.int .u64 2] 22)) := by show V3 = _; rw [e3, e2, e1]
    have b1 : V3.heap[V.heap.size]? = some (.cells #[.slice none 0 0] 24 (0, 0)) := (k3 _ (by omega)).trans ((k2 _ (by omega)).trans n1)
    have b2 : V3.heap[V.heap.size + 1]? = some (.cells #[.slice none 0 0] 24 (0, 0)) := (k3 _ (by omega)).trans n2
    have B1 := Lib.hid b1; have B2 := Lib.hid b2; have HB3 := Lib.hid hb3; have HI3 := Lib.hid HI
    have HKV := Lib.hid hK
    have hcn : V.cell? ⟨w.heap.size, 0, none⟩ = some (.int .i64 n) := cell0_of HI.i1
    have hcn3 : V3.cell? ⟨w.heap.size, 0, none⟩ = some (.int .i64 n) := cell0_of ((hb3.block _ (by omega)).trans HI.i1)
    rw [HE3.out] at hcn3
    clear e1 e2 e3 n1 n2 n3 k1 k2 k3 b1 b2 hrd3 hb3 HI s1 s2 hI4 hg HO1 HB1 hK
    gi_wp2_with (first
        | (rw [← HE3.out]; (try refine ⟨trivial, ?_⟩); (try refine ⟨rfl, ?_⟩); refine (callsIn_wide.2 hRep).mono ?_; rintro e Wr ⟨rfl, nr, br⟩)
        | ((try refine ⟨trivial, ?_⟩); (try refine ⟨rfl, ?_⟩); refine (callsIn_wide.2 (lists_any _ _ _ _)).mono ?_; rintro e w' ⟨rfl, rfl⟩))
    have hkS : V.heap.size + 1 + 1 + 1 < Wr.heap.size := block_lt nr
    obtain ⟨W8, e8, s8, n8, k8⟩ := alloc_facts Wr (.cells #[.slice (some ⟨V.heap.size + 1 + 1 + 1, 0, none⟩) n n] 24)
    rw [← e8]
    have kk : ∀ b, b < V.heap.size + 1 + 1 + 1 → W8.heap[b]? = V3.heap[b]? := fun b hb => (k8 _ (by omega)).trans (br.block _ hb)
    have hb8 : Below V.heap.size V W8 := by rw [e8]; exact HB3.out.trans ((br.mono (by omega)).alloc (by omega) _)
    obtain ⟨L, hL⟩ : ∃ L, L = (decs n k).map fun d => orB (slotsL k d) := ⟨_, rfl⟩
    have hIL : SlI w n k L V := by rw [hL]; exact HI3.out
    have hLl : L.length ≤ 46656 := by
      rw [hL, List.length_map]
      refine Nat.le_trans (allL_len_le (b := 6) _ fun x hx => by have := upI_le x hx; omega) ?_
      exact Nat.le_trans (Nat.pow_le_pow_right (n := 6) (j := 6) (by omega) (by rw [upI_len]; omega)) (by decide)
    have hJ8 : SlJ w n k L W4.heap.size V.heap.size (W8.heap.size + (2 + 4)) [] W8 :=
      ⟨hIL.low (by omega) hb8, (hb8.block _ hkV).trans HKV.out, _, _, (kk _ (by omega)).trans B1.out, (kk _ (by omega)).trans B2.out, ⟨⟨rfl, .inl ⟨rfl, rfl⟩⟩, ⟨rfl, .inl ⟨rfl, rfl⟩⟩, fun g h => by cases h⟩⟩
    have hrd8 : Rd W8 1 (.slice (some ⟨V.heap.size + 1 + 1 + 1, 0, none⟩) n n) n (u64s (List.replicate n ((2 : Nat) : Int))) := by
      refine ⟨by simp [u64s], by unfold maxLen; omega, _, _, rfl, Nat.le_refl _, .inr ⟨_, 0, rfl, fun i u hu => ?_⟩⟩
      exact cell_of ((k8 _ hkS).trans nr) _ (by simpa using hu)
    have hg := lists_gives2 Wr.heap.size n (.slice (some ⟨V.heap.size + 1 + 1 + 1, 0, none⟩) n n) (List.replicate n ((2 : Nat) : Int)) W8 (by simp) (by omega) (by intro x hx; have := List.eq_of_mem_replicate hx; omega) (cell0_of n8) hrd8 (fun b hb => by have := sBlk_some hb; omega)
    have hLH := Lib.hid hL
    clear HE3 hRep e8 n8 k8 kk hb8 hrd8 nr br B1 B2 HB3 HI3 HKV hcn hcn3 hIL hL s3
    refine wp_range_own (gf := 77) (lb := #[.pointer (some ⟨Wr.heap.size, 0, none⟩)]) rfl (enters_of Try.func77 (by kernel_rfl) rfl)
      (fun b hb => by have := hb.imp id sBlk_some; omega) hg rfl
      (fun x s A B' h hk => ⟨h.1.keep fun b hb _ => by have := sBlk_some hb; exact hk _ (by omega) (by omega), by
        have h1 := hk (s + 3) (by omega) (by omega)
        have h0 := h.2
        rw [Array.getElem?_eq_getElem (xs := A.heap) (i := s + 3) (by omega)] at h1
        have := block_lt h1
        omega⟩)
      (fun pre X => SlJ w n k L W4.heap.size V.heap.size (W8.heap.size + (2 + 4)) (told k pre) X)
      ?hI2 ?h02 ?a2 ?assign2 ?body2 ?done2
    case assign2 =>
      intro l' x V K hK
      gi_wp2
      exact hK
    case hI2 =>
      rintro pre A B' ⟨⟨i1, i2, i3, i4⟩, i5, v1, v2, i6, i7, i8⟩ hc
      exact ⟨⟨(hc.block _ (block_lt i1) (by omega)).trans i1, (hc.block _ (block_lt i2) (by omega)).trans i2, (hc.block _ (block_lt i3) (by omega)).trans i3, i4.trans (hc.below i4.size fun k hk => by omega)⟩, (hc.block _ (block_lt i5) (by omega)).trans i5, v1, v2, (hc.block _ (block_lt i6) (by omega)).trans i6, (hc.block _ (block_lt i7) (by omega)).trans i7, i8.kept fun g h1 h2 => hc.block g h2 (by omega)⟩
    case h02 => exact hJ8
    case body2 =>
      rintro l' pre l X HJ hpre hh hsV
      obtain ⟨c, rfl, hcn, hc2⟩ := allL_rep_mem n (hpre.subset (by simp) : l ∈ allL (List.replicate n ((2 : Nat) : Int)))
      have hpl : pre.length + 1 ≤ 64 := by
        have := hpre.length_le
        rw [allL_rep_len] at this
        have h2 : 2 ^ n ≤ 2 ^ 6 := Nat.pow_le_pow_right (by omega) hn
        simp at this
        omega
      have hXB : W8.heap.size + (2 + 4) ≤ X.heap.size := by have := hh.2; omega
      have hhB : Rd X 1 (.slice (some ⟨Wr.heap.size + 1 + 1 + 1 + 1, 0, none⟩) n n) c.length (u64s (castL c)) := by rw [hcn, ← s8]; exact hh.1
      obtain ⟨v1, v2, i6, i7, i8⟩ := HJ.box
      have ck : X.cell? ⟨w.heap.size + 1, 0, none⟩ = some (.int .i64 k) := cell0_of HJ.i.i2
      have HHB := Lib.hid hhB
      have HJJ := Lib.hid HJ
      have HCN := Lib.hid hcn
      have HC2 := Lib.hid hc2
      have HTW := Lib.hid i8
      have I6 := Lib.hid i6; have I7 := Lib.hid i7
      have HPL := Lib.hid hpl
      clear hh hhB hpre HJ hg hJ8 i6 i7 i8 hcn hc2 hpl
      gi_wp2
      gi_loopw [17, 18, 19, 20, 73] (fun z h u1 u2 i wr => ∃ q : Nat, q ≤ n ∧ i = .int .i64 q ∧ ∃ y : Nat, y < 64 ∧ z = .int .u64 y ∧ ∃ m : Nat, m ≤ q ∧ h = .int .i64 m ∧ Hid (bitsP (castL c) q = (y, m)) ∧ wr = X) (fun _ _ _ _ i _ => n - (intOf i).toNat)
      case atStart => exact ⟨0, Nat.zero_le _, rfl, 0, by omega, rfl, 0, by omega, rfl, rfl, rfl⟩
      case round =>
        obtain ⟨q, hq, rfl, y, hy, rfl, m, hm, rfl, HP, rfl⟩ := hrel
        by_cases hlt : q < n
        · obtain ⟨b, off, hbe, hcell⟩ := HHB.out.at (by omega)
          cases hbe
          have hqc : q < c.length := by rw [HCN.out]; exact hlt
          have hc := hcell q _ (u64s_at (castL c) q (by rw [castL_len]; exact hqc))
          rw [castL_at c hqc] at hc
          simp only [Nat.zero_add] at hc
          have hx2 : c.getD q 0 < 2 := by rw [List.getD_eq_getElem?_getD, List.getElem?_eq_getElem hqc]; exact HC2.out _ (List.getElem_mem hqc)
          have hst := bitsP_succ (castL c) q
          rw [HP.out, castL_at c hqc] at hst
          unfold bitsF at hst
          simp only [Int.toNat_natCast] at hst
          generalize c.getD q 0 = x at *
          have hPw : 2 ^ q < 2 ^ 6 := Nat.pow_lt_pow_right (by omega) (by omega)
          have hsh : 1 <<< q = 2 ^ q := by rw [Nat.shiftLeft_eq, Nat.one_mul]
          have hor64 : y ||| 2 ^ q < 2 ^ 6 := Nat.or_lt_two_pow (n := 6) hy hPw
          obtain ⟨P, hP⟩ : ∃ P, P = 2 ^ q := ⟨_, rfl⟩
          have hpw : (2 : Int) ^ q = (P : Int) := by rw [hP]; simp
          clear hcell HP
          rcases (show x = 0 ∨ x = 1 by omega) with rfl | rfl
          · rw [Nat.sub_zero, hsh, ← hP] at hst
            rw [← hP] at hor64 hPw
            have hor := bits_or_u64_nat y P (by omega) (by omega)
            have hwP : IntKind.u64.wrap (P : Int) = (P : Int) := by rw [IntKind.wrap_u64]; omega
            generalize y ||| P = Z at *
            have HST := Lib.hid hst
            clear hst hsh hP
            gi_wp2
            exact ⟨⟨q + 1, by omega, by go_num, Z, by omega, rfl, m + 1, by omega, by go_num, HST, by simp⟩, by simp [intOf]; omega⟩
          · rw [Nat.sub_self, Nat.zero_shiftLeft, Nat.or_zero, Nat.add_zero] at hst
            have hor : bits .or .u64 (y : Int) 0 = (y : Int) := by
              have := bits_or_u64_nat y 0 (by omega) (by omega)
              simpa using this
            have HST := Lib.hid hst
            clear hst hsh hP hor64 hPw
            gi_wp2
            exact ⟨⟨q + 1, by omega, by go_num, y, by omega, rfl, m, by omega, rfl, HST, by simp⟩, by simp [intOf]; omega⟩
        · obtain rfl : q = n := by omega
          have hBN : bitsN (castL c) = (y, m) := by rw [← bitsP_end, castL_len, HCN.out]; exact HP.out
          by_cases hmk : m = k
          · subst hmk
            have hYES := told_yes (pre := pre) (l := castL c) (k := m) (by rw [hBN])
            rw [hBN] at hYES
            have HYES := Lib.hid hYES
            obtain ⟨c0, hc0⟩ : ∃ c0, c0 = L.count y := ⟨_, rfl⟩
            have hdv := cnt_at 64 L hy
            rw [← hc0] at hdv
            have HC0 := Lib.hid hc0
            have hc0b : c0 ≤ 46656 := by rw [hc0]; exact Nat.le_trans List.count_le_length hLl
            have hbx1 : ∀ u : LowW (W8.heap.size + (2 + 4)) wr, u.w.cell? ⟨V.heap.size, 0, none⟩ = some v1 := fun u => cell0_of ((u.h.block _ (by omega)).trans I6.out)
            have hbx2 : ∀ u : LowW (W8.heap.size + (2 + 4)) wr, u.w.cell? ⟨V.heap.size + 1, 0, none⟩ = some v2 := fun u => cell0_of ((u.h.block _ (by omega)).trans I7.out)
            have hbc : ∀ u : LowW (W8.heap.size + (2 + 4)) wr, u.w.cell? ⟨w.heap.size + 1 + 1, y, none⟩ = some (.int .u64 c0) := fun u => by
              have i3 := (u.h.block _ (by omega)).trans HJJ.out.i.i3
              refine cell_of i3 y ?_
              have := u64s_at (cnt 64 L) y (by rw [cnt_len]; exact hy)
              rw [hdv] at this
              simpa using this
            have hTl : (told m pre).length ≤ 64 := by have := told_len m pre; have := HPL.out; omega
            have hTU := HTW.out
            obtain ⟨B, hB⟩ : ∃ B, B = W8.heap.size + (2 + 4) := ⟨_, rfl⟩
            rw [← hB] at hbx1 hbx2 hbc hTU hXB
            have hmx : Try.prog.follows .mixedOrders = true := by kernel_rfl
            have HTL := Lib.hid hTl
            have hC0 : ∃ u : LowW B wr, wr.drew = u.w := ⟨⟨wr.drew, (Below.refl _ wr).drew⟩, rfl⟩
            clear hYES hBN HP hdv hc0 hTl
            gi_wp2
            refine wpIn_region_mix_round (fun w' => ∃ u : LowW B wr, w' = u.w) l' 9 2 hmx (by kernel_rfl) (by kernel_rfl) rfl ?_
            intro hT
            refine wpAnyM_take 0 (v := v1) hT (by omega) rfl (by kernel_rfl) hC0 (.inl ⟨by rfl, ?_⟩) ?_
            · rintro _ ⟨u, rfl⟩
              go_simp
            refine wpAnyM_take 1 (v := .int .u64 y) hT (by omega) rfl (by kernel_rfl) hC0 (.inl ⟨by rfl, ?_⟩) ?_
            · rintro _ ⟨u, rfl⟩
              go_simp
            refine wpAnyM_take 4 (v := v2) hT (by omega) rfl (by kernel_rfl) hC0 (.inl ⟨by rfl, ?_⟩) ?_
            · rintro _ ⟨u, rfl⟩
              go_simp
            refine wpAnyM_take 5 (v := .int .u64 y) hT (by omega) rfl (by kernel_rfl) hC0 (.inl ⟨by rfl, ?_⟩) ?_
            · rintro _ ⟨u, rfl⟩
              go_simp
            refine wpAnyM_take 6 (v := .pointer (some ⟨w.heap.size + 1 + 1, y, none⟩)) hT (by omega) rfl (by kernel_rfl) hC0 (.inl ⟨by rfl, ?_⟩) ?_
            · rintro _ ⟨u, rfl⟩
              go_simp
              exact fun h => absurd h (by omega)
            refine wpAnyM_take 7 (v := .int .u64 c0) hT (by omega) rfl (by kernel_rfl) hC0 (.inl ⟨by rfl, ?_⟩) ?_
            · rintro _ ⟨u, rfl⟩
              go_simp
            clear hbx1 hbx2 hbc hC0
            refine wpAnyM_all [2, 8] (by kernel_rfl) (by simp) (by kernel_rfl) ?_
            intro i hi
            have hml : (told m pre).length ≤ 1000000 := by have := HTL.out; omega
            have hend : ∀ (a : Act) (Y : World) (sa sb : Option Addr) (ca cb : Nat), Below B wr Y → TwoU B Y (.slice sa ((told m pre).length + 1) ca) (.slice sb ((told m pre).length + 1) cb) ((told m pre).length + 1) ((told m pre).length + 1) (u64s (castL (told m pre)) ++ [.int .u64 (y : Int)]) (u64s (castL ((told m pre).map fun s => L.count s)) ++ [.int .u64 (c0 : Int)]) →
                gPost W8.heap.size (2 + 4) (fun b => b = Wr.heap.size ∨ sBlk (.slice (some ⟨V.heap.size + 1 + 1 + 1, 0, none⟩) q q) = some b) (fun pre X => SlJ w q m L W4.heap.size V.heap.size (W8.heap.size + (2 + 4)) (told m pre) X) (pre ++ [castL c]) wr .normal a ((Y.setCell ⟨V.heap.size, 0, none⟩ (.slice sa ((told m pre).length + 1) ca)).setCell ⟨V.heap.size + 1, 0, none⟩ (.slice sb ((told m pre).length + 1) cb)) := by
              intro a Y sa sb ca cb hb hT
              rw [hB] at hb hT
              rw [HC0.out] at hT
              have hnew := slJ_more (s := y) HJJ.out (by omega) (by omega) (by omega) hb hT
              rw [← HYES.out] at hnew
              refine ⟨hnew, by simp [World.setCell]; exact hb.size, fun b hb1 hb2 => ?_⟩
              have hbb : b ≠ V.heap.size ∧ b ≠ V.heap.size + 1 ∧ b < W8.heap.size + (2 + 4) := by
                rcases hb1 with h | h | h
                · omega
                · omega
                · have := sBlk_some h; omega
              exact ((Below.heap_setCell _ _ _ _ hbb.2.1).trans (Below.heap_setCell _ _ _ _ hbb.1)).trans (hb.block _ hbb.2.2)
            have HEND := Lib.hid hend
            clear hend
            rcases (show i = 2 ∨ i = 8 by simpa using hi) with rfl | rfl
            · refine wpOpIn_step rfl fun K hK => ?_
              go_simp
              obtain ⟨Y1, hY1⟩ : ∃ Y1, Y1 = (wr.alloc (.cells #[.int .u64 y] 22)).drew := ⟨_, rfl⟩
              have hT1 := (hTU.alloc (.cells #[.int .u64 y] 22)).drew
              have hn1 : (wr.alloc (.cells #[.int .u64 y] 22)).drew.cell? ⟨wr.heap.size, 0, none⟩ = some (.int .u64 y) := cell0_of (World.alloc_heap_new wr _)
              have hz1 : (wr.alloc (.cells #[.int .u64 y] 22)).drew.heap.size = wr.heap.size + 1 := by simp [World.drew]
              have hb1 : Below B wr (wr.alloc (.cells #[.int .u64 y] 22)).drew := ((Below.refl B wr).alloc (by omega) _).drew
              rw [← hY1] at hT1 hn1 hz1 hb1 ⊢
              clear hY1
              refine hK _ _ ⟨⟨⟨_, hb1⟩, rfl⟩, ?_⟩
              clear hK K
              refine wpAnyM_all [3, 8] (by kernel_rfl) (by simp) (by kernel_rfl) ?_
              intro i hi
              rcases (show i = 3 ∨ i = 8 by simpa using hi) with rfl | rfl
              · refine wpOpIn_step rfl fun K hK => ?_
                refine step_appU (B := B) (v1 := v1) (v2 := v2) rfl (.tmp 93) (.tmp 95) rfl (by rfl) hT1 wr.heap.size y (by rfl) hn1 hml (by omega) ?_
                intro sa ca Y2 hT2 hg2
                have hb2 := hb1.trans (hT1.low (by omega) hg2)
                have hz2 := hg2.size
                refine hK _ _ ⟨⟨⟨_, hb2⟩, rfl⟩, ?_⟩
                clear hK K
                refine wpAnyM_all [8] (by kernel_rfl) (by simp) (by kernel_rfl) ?_
                intro i hi
                rw [List.mem_singleton] at hi
                subst hi
                refine wpOpIn_step rfl fun K hK => ?_
                go_simp
                obtain ⟨Y3, hY3⟩ : ∃ Y3, Y3 = (Y2.alloc (.cells #[.int .u64 c0] 22)) := ⟨_, rfl⟩
                have hT3 := (hT2.alloc (.cells #[.int .u64 c0] 22))
                have hn3 : (Y2.alloc (.cells #[.int .u64 c0] 22)).cell? ⟨Y2.heap.size, 0, none⟩ = some (.int .u64 c0) := cell0_of (World.alloc_heap_new Y2 _)
                have hz3 : (Y2.alloc (.cells #[.int .u64 c0] 22)).heap.size = Y2.heap.size + 1 := by simp
                have hb3 : Below B wr (Y2.alloc (.cells #[.int .u64 c0] 22)) := (hb2.alloc (by omega) _)
                rw [← hY3] at hT3 hn3 hz3 hb3 ⊢
                clear hY3
                refine hK _ _ ⟨⟨⟨_, hb3⟩, rfl⟩, ?_⟩
                clear hK K
                refine wpAnyM_end (by kernel_rfl) ?_
                simp only [List.drop_succ_cons, List.drop_zero]
                rw [wpListIn]
                refine step_appU (B := B) (v1 := v2) (v2 := .slice sa ((told m pre).length + 1) ca) rfl (.tmp 97) (.tmp 101) rfl (by rfl) hT3.swap Y2.heap.size c0 (by rfl) hn3 hml (by omega) ?_
                intro sb cb Y4 hT4 hg4
                have hb4 := hb3.trans (hT3.swap.low (by omega) hg4)
                have hF := fun a => HEND.out a Y4 sa sb ca cb hb4 hT4.swap
                have hx1 := (hb4.block V.heap.size (by omega)).trans I6.out
                have hx2 := (hb4.block (V.heap.size + 1) (by omega)).trans I7.out
                have cc1 := cell0_of hx1
                have ff1 := frozen_of hx1 0
                have cc2 : ∀ u, (Y4.setCell ⟨V.heap.size, 0, none⟩ u).cell? ⟨V.heap.size + 1, 0, none⟩ = some v2 := fun u => cell0_of ((Below.heap_setCell _ _ _ _ (by show V.heap.size + 1 ≠ V.heap.size; omega)).trans hx2)
                have ff2 : ∀ u, (Y4.setCell ⟨V.heap.size, 0, none⟩ u).frozen? ⟨V.heap.size + 1, 0, none⟩ = false := fun u => frozen_of ((Below.heap_setCell _ _ _ _ (by show V.heap.size + 1 ≠ V.heap.size; omega)).trans hx2) 0
                have HF := Lib.hid hF
                clear hF hT4 hT3 hg4 hT hT1 hT2 hg2 hTU hb4 hb3 hb1 hb2 hx1 hx2 hn1 
                gi_wp2
                refine OnlyQ.normal ?_
                exact HF.out ⟨#[], []⟩
              · refine wpOpIn_step rfl fun K hK => ?_
                go_simp
                obtain ⟨Y2, hY2⟩ : ∃ Y2, Y2 = (Y1.alloc (.cells #[.int .u64 c0] 22)) := ⟨_, rfl⟩
                have hT2 := (hT1.alloc (.cells #[.int .u64 c0] 22))
                have hn2 : (Y1.alloc (.cells #[.int .u64 c0] 22)).cell? ⟨Y1.heap.size, 0, none⟩ = some (.int .u64 c0) := cell0_of (World.alloc_heap_new Y1 _)
                have hz2 : (Y1.alloc (.cells #[.int .u64 c0] 22)).heap.size = Y1.heap.size + 1 := by simp
                have hb2 : Below B wr (Y1.alloc (.cells #[.int .u64 c0] 22)) := (hb1.alloc (by omega) _)
                have hm1 : (Y1.alloc (.cells #[.int .u64 c0] 22)).cell? ⟨wr.heap.size, 0, none⟩ = some (.int .u64 y) := cell_same hn1 ((Below.heap_alloc Y1 _ _ (by omega)))
                rw [← hY2] at hT2 hn2 hz2 hb2 hm1 ⊢
                clear hY2
                refine hK _ _ ⟨⟨⟨_, hb2⟩, rfl⟩, ?_⟩
                clear hK K
                refine wpAnyM_all [3] (by kernel_rfl) (by simp) (by kernel_rfl) ?_
                intro i hi
                rw [List.mem_singleton] at hi
                subst hi
                refine wpOpIn_step rfl fun K hK => ?_
                refine step_appU (B := B) (v1 := v1) (v2 := v2) rfl (.tmp 93) (.tmp 95) rfl (by rfl) hT2 wr.heap.size y (by rfl) hm1 hml (by omega) ?_
                intro sa ca Y3 hT3 hg3
                have hb3 := hb2.trans (hT2.low (by omega) hg3)
                have hz3 := hg3.size
                have hm2 : Y3.cell? ⟨Y1.heap.size, 0, none⟩ = some (.int .u64 c0) := cell_same hn2 (hg3.block _ (by omega) (fun e => by have := (hTU.r1.lt _ e.symm).2; omega))
                refine hK _ _ ⟨⟨⟨_, hb3⟩, rfl⟩, ?_⟩
                clear hK K
                refine wpAnyM_end (by kernel_rfl) ?_
                simp only [List.drop_succ_cons, List.drop_zero]
                rw [wpListIn]
                refine step_appU (B := B) (v1 := v2) (v2 := .slice sa ((told m pre).length + 1) ca) rfl (.tmp 97) (.tmp 101) rfl (by rfl) hT3.swap (wr.heap.size + 1) c0 (by rfl) (by rw [← hz1]; exact hm2) hml (by omega) ?_
                intro sb cb Y4 hT4 hg4
                have hb4 := hb3.trans (hT3.swap.low (by omega) hg4)
                have hF := fun a => HEND.out a Y4 sa sb ca cb hb4 hT4.swap
                have hx1 := (hb4.block V.heap.size (by omega)).trans I6.out
                have hx2 := (hb4.block (V.heap.size + 1) (by omega)).trans I7.out
                have cc1 := cell0_of hx1
                have ff1 := frozen_of hx1 0
                have cc2 : ∀ u, (Y4.setCell ⟨V.heap.size, 0, none⟩ u).cell? ⟨V.heap.size + 1, 0, none⟩ = some v2 := fun u => cell0_of ((Below.heap_setCell _ _ _ _ (by show V.heap.size + 1 ≠ V.heap.size; omega)).trans hx2)
                have ff2 : ∀ u, (Y4.setCell ⟨V.heap.size, 0, none⟩ u).frozen? ⟨V.heap.size + 1, 0, none⟩ = false := fun u => frozen_of ((Below.heap_setCell _ _ _ _ (by show V.heap.size + 1 ≠ V.heap.size; omega)).trans hx2) 0
                have HF := Lib.hid hF
                clear hF hT4 hT3 hg4 hT hT1 hT2 hg3 hTU hb4 hb3 hb1 hb2 hx1 hx2 hn1 
                gi_wp2
                refine OnlyQ.normal ?_
                exact HF.out ⟨#[], []⟩
            · refine wpOpIn_step rfl fun K hK => ?_
              go_simp
              obtain ⟨Y1, hY1⟩ : ∃ Y1, Y1 = (wr.alloc (.cells #[.int .u64 c0] 22)).drew := ⟨_, rfl⟩
              have hT1 := (hTU.alloc (.cells #[.int .u64 c0] 22)).drew
              have hn1 : (wr.alloc (.cells #[.int .u64 c0] 22)).drew.cell? ⟨wr.heap.size, 0, none⟩ = some (.int .u64 c0) := cell0_of (World.alloc_heap_new wr _)
              have hz1 : (wr.alloc (.cells #[.int .u64 c0] 22)).drew.heap.size = wr.heap.size + 1 := by simp [World.drew]
              have hb1 : Below B wr (wr.alloc (.cells #[.int .u64 c0] 22)).drew := ((Below.refl B wr).alloc (by omega) _).drew
              rw [← hY1] at hT1 hn1 hz1 hb1 ⊢
              clear hY1
              refine hK _ _ ⟨⟨⟨_, hb1⟩, rfl⟩, ?_⟩
              clear hK K
              refine wpAnyM_all [2] (by kernel_rfl) (by simp) (by kernel_rfl) ?_
              intro i hi
              rw [List.mem_singleton] at hi
              subst hi
              refine wpOpIn_step rfl fun K hK => ?_
              go_simp
              obtain ⟨Y2, hY2⟩ : ∃ Y2, Y2 = (Y1.alloc (.cells #[.int .u64 y] 22)) := ⟨_, rfl⟩
              have hT2 := (hT1.alloc (.cells #[.int .u64 y] 22))
              have hn2 : (Y1.alloc (.cells #[.int .u64 y] 22)).cell? ⟨Y1.heap.size, 0, none⟩ = some (.int .u64 y) := cell0_of (World.alloc_heap_new Y1 _)
              have hz2 : (Y1.alloc (.cells #[.int .u64 y] 22)).heap.size = Y1.heap.size + 1 := by simp
              have hb2 : Below B wr (Y1.alloc (.cells #[.int .u64 y] 22)) := (hb1.alloc (by omega) _)
              have hm1 : (Y1.alloc (.cells #[.int .u64 y] 22)).cell? ⟨wr.heap.size, 0, none⟩ = some (.int .u64 c0) := cell_same hn1 ((Below.heap_alloc Y1 _ _ (by omega)))
              rw [← hY2] at hT2 hn2 hz2 hb2 hm1 ⊢
              clear hY2
              refine hK _ _ ⟨⟨⟨_, hb2⟩, rfl⟩, ?_⟩
              clear hK K
              refine wpAnyM_all [3] (by kernel_rfl) (by simp) (by kernel_rfl) ?_
              intro i hi
              rw [List.mem_singleton] at hi
              subst hi
              refine wpOpIn_step rfl fun K hK => ?_
              refine step_appU (B := B) (v1 := v1) (v2 := v2) rfl (.tmp 93) (.tmp 95) rfl (by rfl) hT2 (wr.heap.size + 1) y (by rfl) (by rw [← hz1]; exact hn2) hml (by omega) ?_
              intro sa ca Y3 hT3 hg3
              have hb3 := hb2.trans (hT2.low (by omega) hg3)
              have hz3 := hg3.size
              have hm2 : Y3.cell? ⟨wr.heap.size, 0, none⟩ = some (.int .u64 c0) := cell_same hm1 (hg3.block _ (by omega) (fun e => by have := (hTU.r1.lt _ e.symm).2; omega))
              refine hK _ _ ⟨⟨⟨_, hb3⟩, rfl⟩, ?_⟩
              clear hK K
              refine wpAnyM_end (by kernel_rfl) ?_
              simp only [List.drop_succ_cons, List.drop_zero]
              rw [wpListIn]
              refine step_appU (B := B) (v1 := v2) (v2 := .slice sa ((told m pre).length + 1) ca) rfl (.tmp 97) (.tmp 101) rfl (by rfl) hT3.swap wr.heap.size c0 (by rfl) hm2 hml (by omega) ?_
              intro sb cb Y4 hT4 hg4
              have hb4 := hb3.trans (hT3.swap.low (by omega) hg4)
              have hF := fun a => HEND.out a Y4 sa sb ca cb hb4 hT4.swap
              have hx1 := (hb4.block V.heap.size (by omega)).trans I6.out
              have hx2 := (hb4.block (V.heap.size + 1) (by omega)).trans I7.out
              have cc1 := cell0_of hx1
              have ff1 := frozen_of hx1 0
              have cc2 : ∀ u, (Y4.setCell ⟨V.heap.size, 0, none⟩ u).cell? ⟨V.heap.size + 1, 0, none⟩ = some v2 := fun u => cell0_of ((Below.heap_setCell _ _ _ _ (by show V.heap.size + 1 ≠ V.heap.size; omega)).trans hx2)
              have ff2 : ∀ u, (Y4.setCell ⟨V.heap.size, 0, none⟩ u).frozen? ⟨V.heap.size + 1, 0, none⟩ = false := fun u => frozen_of ((Below.heap_setCell _ _ _ _ (by show V.heap.size + 1 ≠ V.heap.size; omega)).trans hx2) 0
              have HF := Lib.hid hF
              clear hF hT4 hT3 hg4 hT hT1 hT2 hg3 hTU hb4 hb3 hb1 hb2 hx1 hx2 hn1 
              gi_wp2
              refine OnlyQ.normal ?_
              exact HF.out ⟨#[], []⟩
          · have HNO := told_no (k := k) (pre := pre) (l := castL c) (by rw [hBN]; exact hmk)
            have HNO := Lib.hid HNO
            clear hBN HP
            gi_wp2
            exact ⟨by show SlJ _ _ _ _ _ _ _ (told k (pre ++ [castL c])) _; rw [HNO.out]; exact HJJ.out, Nat.le_refl _, fun _ _ _ => rfl⟩
    case done2 =>
      rintro Y HJ hK2
      have hS : told k (allL (List.replicate n ((2 : Nat) : Int))) = setsC n k := rfl
      rw [hS] at HJ
      obtain ⟨v1, v2, i6, i7, i8⟩ := HJ.box
      obtain ⟨sa, ca, rfl⟩ := (rd_of_row i8.r1).form
      obtain ⟨sb, cb, rfl⟩ := (rd_of_row i8.r2).form
      have hb1 := row_blk i8.r1
      have hb2 := row_blk i8.r2
      have c1 := cell0_of i6
      have c2 := cell0_of i7
      have HR1 := Lib.hid (rd_of_row i8.r1)
      have HR2 := Lib.hid (rd_of_row i8.r2)
      have HB1 := Lib.hid hb1
      have HB2 := Lib.hid hb2
      have HB0 := Lib.hid HJ.i.i4
      have HK1 := Lib.hid (show Y.heap[w1.heap.size + 1]? = some (.deferred (some [])) by rw [← s4]; exact HJ.kk)
      have HK2 := Lib.hid hK2
      have hws : w.heap.size ≤ Y.heap.size := HJ.i.i4.size
      clear hg hJ8 i6 i7 i8 HJ hb1 hb2 hK2 hS
      gi_wp2
      gi_region
      all_goals gi_wp2
      all_goals
        have hk1 : (Y.drew.putObj W8.heap.size (.deferred none)).heap[(w1.heap.size + 1)]? = some (.deferred (some [])) := (World.putObj_heap_other (by omega)).trans HK1.out
        have hkk : ∀ b, W8.heap.size + (2 + 4) ≤ b → ((Y.drew.putObj W8.heap.size (.deferred none)).putObj (w1.heap.size + 1) (.deferred none)).heap[b]? = Y.heap[b]? := fun b hb => (World.putObj_heap_other (by omega)).trans (World.putObj_heap_other (by omega))
        refine ⟨by simp, .inl ⟨_, _, rfl, run_takeDeferred (w := Y.drew) HK2.out, by simp, .inl ⟨_, _, rfl, run_takeDeferred hk1, _, results_tmp3 rfl _ _ _, _, _, rfl, ?_, ?_, ?_⟩⟩⟩
        · exact HR1.out.keep fun b hb _ => hkk b (HB1.out b hb).1
        · rw [hLH.out] at HR2
          exact (by simpa using HR2.out.keep fun b hb _ => hkk b (HB2.out b hb).1)
        · exact HB0.out.drew.trans (((chg_putObj (S := fun k => k = W8.heap.size) Y.drew W8.heap.size (.deferred none) rfl).below hws (fun k hk => by omega)).trans ((chg_putObj (S := fun k => k = (w1.heap.size + 1)) _ (w1.heap.size + 1) (.deferred none) rfl).below (Nat.le_trans hws (chg_putObj (S := fun k => k = W8.heap.size) Y.drew W8.heap.size (.deferred none) rfl).size) (fun k hk => by omega)))

end Go.Proofs.Ytnnaijbdimdhpaa
