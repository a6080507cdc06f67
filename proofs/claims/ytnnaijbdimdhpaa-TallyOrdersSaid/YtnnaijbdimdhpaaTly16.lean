/-
  tally.value; slices.Repeat at words.
-/
import Derived.Test.YtnnaijbdimdhpaaTly15
import Derived.Test.YtnnaijbdimdhpaaTlyPolyN
import Derived.Test.YtnnaijbdimdhpaaShelf
namespace Go.Proofs.Ytnnaijbdimdhpaa
open Go.RowKit Go.Shelf
set_option linter.unusedVariables false
attribute [local go_sem] Oper.semAt_some

def castL (cs : List Nat) : List Int := cs.map fun x => ((x : Nat) : Int)
theorem castL_len (cs : List Nat) : (castL cs).length = cs.length := by simp [castL]
theorem castL_at (cs : List Nat) {i : Nat} (hi : i < cs.length) : (castL cs).getD i 0 = ((cs.getD i 0 : Nat) : Int) := by simp [castL, List.getD, hi]
theorem backF_mem {L : List Int} {k i : Nat} {x : Int} (h : (i, x) ∈ backF L k) : i < L.length ∧ x = L.getD i 0 := by
  unfold backF at h
  obtain ⟨j, hj, he⟩ := List.mem_map.1 h
  have := List.mem_of_mem_take hj
  rw [List.mem_reverse, List.mem_range] at this
  simp only [Prod.mk.injEq] at he
  exact ⟨he.1 ▸ this, by rw [← he.2, he.1]⟩
theorem backF_all (cs : List Nat) : ((backF (castL cs) cs.length).map fun z => z.2.toNat).reverse = cs := by
  unfold backF
  rw [castL_len, List.take_of_length_le (by simp), List.map_reverse, List.map_reverse, List.reverse_reverse, List.map_map]
  apply List.ext_getElem
  · simp
  · intro i h1 h2
    simp [castL, List.getD, h2]

/-- what stands in value's boxes -/
structure ValI (w : World) (x p y : Nat) (V : World) : Prop where
  i1 : V.heap[w.heap.size]? = some (.cells #[.int .u64 x] 22 (0, 0))
  i2 : V.heap[w.heap.size + 1]? = some (.cells #[.int .u64 p] 22 (0, 0))
  i3 : V.heap[w.heap.size + 1 + 1]? = some (.cells #[.int .u64 y] 22 (0, 0))
  i4 : Below w.heap.size w V

/-- a round's end: the value anew -/
theorem val_round {w V : World} {x p y y' s4 : Nat} {f : List (Nat × Int) → Nat} {pre' : List (Nat × Int)} (A : Act) (hs : s4 = w.heap.size + 1 + 1 + 1 + 1) (h : ValI w x p y V) (hy : f pre' = y') (kp : Nat → Prop) {v : Value} (hkp : ∀ k, (s4 ≤ k ∧ k < s4 + (2 + 0)) ∨ kp k → k ≠ w.heap.size + 1 + 1) (hv : v = .int .u64 y') :
    gPost s4 (2 + 0) kp (fun pre V => ValI w x p (f pre) V) pre' V .normal A (V.setCell ⟨w.heap.size + 1 + 1, 0, none⟩ v) := by
  subst hv
  have hk : ∀ k, k ≠ w.heap.size + 1 + 1 → (V.setCell ⟨w.heap.size + 1 + 1, 0, none⟩ (.int .u64 (y' : Int))).heap[k]? = V.heap[k]? := fun k hk => Below.heap_setCell _ _ _ _ hk
  refine ⟨?_, ?_, fun k hk1 _ => hk k (hkp k hk1)⟩
  · show ValI w x p (f pre') _
    rw [hy]
    exact ⟨(hk _ (by omega)).trans h.i1, (hk _ (by omega)).trans h.i2, set_of h.i3 0 _, h.i4.setCell (by show w.heap.size ≤ w.heap.size + 1 + 1; omega) _⟩
  · simp [World.setCell]

set_option maxRecDepth 100000 in
set_option maxHeartbeats 2000000 in
theorem value_any (cs : List Nat) (v : Value) (x p : Nat) (w : World) (hr : Rd w 1 v cs.length (u64s (castL cs))) (hn : cs.length ≤ 1000) (hx : x < p) (hp : p ≤ 7) (hcs : ∀ a ∈ cs, a < p) (hlv : ∀ b, sBlk v = some b → b < w.heap.size) :
    Calls Try.prog 56 #[v, .int .u64 x, .int .u64 p] w fun e w' => e = .returned (.int .u64 (evN p x cs)) ∧ Below w.heap.size w w' := by
  obtain ⟨sa, cap, rfl⟩ := hr.form
  have hp0 : 0 < p := by omega
  obtain ⟨W1, e1, s1, n1, k1⟩ := alloc_facts w (.cells #[.int .u64 x] 22)
  obtain ⟨W2, e2, s2, n2, k2⟩ := alloc_facts W1 (.cells #[.int .u64 p] 22)
  obtain ⟨W3, e3, s3, n3, k3⟩ := alloc_facts W2 (.cells #[.int .u64 0] 22)
  obtain ⟨W4, e4, s4, n4, k4⟩ := alloc_facts W3 (.cells #[.slice sa cs.length cap] 24)
  rw [s1] at n2 s2
  rw [s2] at n3 s3
  rw [s3] at n4 s4
  have hb4 : Below w.heap.size w W4 := by
    rw [e4, e3, e2, e1]
    exact (((Below.refl _ w).alloc (Nat.le_refl _) _).alloc (by simp) _).alloc (by simp; omega) _ |>.alloc (by simp; omega) _
  have hV0 : ValI w x p 0 W4 := ⟨(k4 _ (by omega)).trans ((k3 _ (by omega)).trans ((k2 _ (by omega)).trans n1)), (k4 _ (by omega)).trans ((k3 _ (by omega)).trans n2), (k4 _ (by omega)).trans n3, hb4⟩
  have hrd4 : Rd W4 1 (.slice sa cs.length cap) cs.length (u64s (castL cs)) := hr.keep fun b hb _ => hb4.block _ (hlv b hb)
  have hg := backward_gives (w.heap.size + 1 + 1 + 1) cs.length (.slice sa cs.length cap) (castL cs) W4 (by omega) (cell0_of n4) hrd4 (fun b hb => by have := hlv b hb; omega)
  rw [castL_len] at hg
  refine (callsIn_wide (n := 0)).1 ?_
  refine callsIn_of_wp_marks Try.func56 rfl trivial ?_ rfl
  simp only [Try.ntmps56, List.size_toArray, List.length_cons, List.length_nil, Nat.reduceAdd, Nat.reduceSub, Array.replicate_succ, Array.replicate_zero, List.push_toArray, List.append_toArray, List.nil_append, List.cons_append]
  gi_wp2_with ((try refine ⟨trivial, ?_⟩); (try refine ⟨rfl, ?_⟩); refine (callsIn_wide.2 (backward_any _ _ _ _)).mono ?_; rintro e w' ⟨rfl, rfl⟩)
  rw [← e1, ← e2, ← e3, ← e4]
  clear e1 e2 e3 e4 k1 k2 k3 k4 n1 n2 n3 n4 s1 s2 s3 hb4 hrd4
  refine wp_range_ownV (gf := 102) (lb := #[.pointer (some ⟨w.heap.size + 1 + 1 + 1, 0, none⟩)]) rfl (enters_of Try.func102 (by kernel_rfl) rfl)
    (fun b hb => by rcases hb with hb | hb; omega; have := hlv b hb; omega) hg (fun _ _ => rfl) (fun _ _ _ _ _ _ => trivial)
    (fun pre V => ValI w x p (evN p x (pre.map fun z => z.2.toNat).reverse) V)
    ?hI ?h0 (fun z => { tmps := #[.slice sa cs.length cap, .int .u64 x, .int .u64 p, undef, .pointer (some ⟨w.heap.size, 0, none⟩), .pointer (some ⟨w.heap.size + 1, 0, none⟩), .int .u64 0, .pointer (some ⟨w.heap.size + 1 + 1, 0, none⟩), undef, .int .u64 z.2, .slice sa cs.length cap, .func (.func 102) #[] #[.pointer (some ⟨w.heap.size + 1 + 1 + 1, 0, none⟩)], .int .i64 z.1, .int .u64 z.2, undef, undef, undef, undef, undef, undef, undef, undef], defers := [] }) ?assign ?body ?done
  case hI =>
    rintro pre A B ⟨i1, i2, i3, i4⟩ hc
    exact ⟨(hc.block _ (block_lt i1) (by omega)).trans i1, (hc.block _ (block_lt i2) (by omega)).trans i2, (hc.block _ (block_lt i3) (by omega)).trans i3, i4.trans (hc.below i4.size fun k hk => by omega)⟩
  case h0 => exact hV0
  case assign =>
    intro l' x V K hK
    gi_wp2
    exact hK
  case body =>
    rintro l' pre ⟨i, a⟩ V HI hpre _ hsV
    obtain ⟨hi, ha⟩ := backF_mem (hpre.subset (by simp) : (i, a) ∈ backF (castL cs) cs.length)
    rw [castL_len] at hi
    rw [castL_at cs hi] at ha
    obtain ⟨b, hb⟩ : ∃ b, b = cs.getD i 0 := ⟨_, rfl⟩
    rw [← hb] at ha
    subst ha
    have hbp : b < p := by
      rw [hb]
      simp only [List.getD, List.getElem?_eq_getElem hi, Option.getD_some]
      exact hcs _ (List.getElem_mem hi)
    obtain ⟨y, hy⟩ : ∃ y, y = evN p x (pre.map fun z => z.2.toNat).reverse := ⟨_, rfl⟩
    have hyp : y < p := by rw [hy]; exact evN_lt hp0 x _
    have hnx : evN p x ((pre ++ [(i, (b : Int))]).map fun z => z.2.toNat).reverse = (y * x + b) % p := by
      rw [List.map_append, List.reverse_append, hy]; rfl
    rw [← hy] at HI
    have c1 := cell0_of HI.i1
    have c2 := cell0_of HI.i2
    have c3 := cell0_of HI.i3
    have f3 := frozen_of HI.i3 0
    obtain ⟨M, hM⟩ : ∃ M, M = y * x := ⟨_, rfl⟩
    have hMb : M ≤ 7 * 7 := by rw [hM]; exact Nat.mul_le_mul (by omega) (by omega)
    have hmul : IntKind.u64.wrap ((y : Int) * (x : Int)) = (M : Int) := by rw [show ((y : Int) * (x : Int)) = (M : Int) by rw [hM]; simp, IntKind.wrap_u64]; omega
    obtain ⟨R, hR⟩ : ∃ R, R = (M + b) % p := ⟨_, rfl⟩
    have hrem : ((M : Int) + (b : Int)) % (p : Int) = (R : Int) := by rw [hR, Int.natCast_emod, Int.natCast_add]
    rw [← hM, ← hR] at hnx
    have HII := Lib.hid HI
    have HNX := Lib.hid hnx
    clear HI hnx hR hM hy hpre hb hg hi
    gi_wp2
    refine val_round (f := fun pre => evN p x (pre.map fun z => z.2.toNat).reverse) _ s4 HII.out HNX.out _ ?_ rfl
    intro k hk
    rcases hk with hk | hk | hk
    · omega
    · omega
    · have := hlv k hk; omega
  case done =>
    rintro V HI hK
    rw [backF_all] at HI
    have c3 := cell0_of HI.i3
    have i4 := HI.i4
    clear hg HI
    gi_wp2
    refine ⟨by simp, .inl ⟨_, _, rfl, run_takeDeferred (w := V) hK, ?_⟩⟩
    refine ⟨_, results_tmp rfl _ _ _, rfl, ?_⟩
    exact i4.trans ((chg_putObj (S := fun k => k = W4.heap.size) V W4.heap.size (.deferred none) rfl).below i4.size (fun k hk => by omega))

/-- 'make([]uint64, n)': the block that it lays. -/
theorem mkP_u64 (w : World) {ops : Array Oper} {rest : List Oper} {o : Oper} {a : Act} {Q : Exit → Act → World → Prop} (hg : o.guard = none) (l c : Operand) (hop : o.op = Op.makeSlice 24 l c)
    (kl kc : IntKind) (m : Nat) (hl : a.eval l = .int kl (m : Int)) (hc : a.eval c = .int kc (m : Int)) (hm : m ≤ 1000000)
    (hK : wpList Try.prog ops Q rest (a.put o.dst (.slice (some ⟨w.heap.size, 0, none⟩) m m)) (w.alloc (.cells (u64s (List.replicate m 0)).toArray 22))) :
    wpList Try.prog ops Q (o :: rest) a w := by
  obtain ⟨i0, hi, hz0, hz1, hz2⟩ := info_parts info_u64
  refine wpList_plain hg fun K hK' => ?_
  have hrun := run_make (P := Try.prog) w 24 _ i0 _ Try.underlying24 hi hz0 kl kc (m : Int) (m : Int) (by omega) (Int.le_refl _) (by rw [hz2]; omega) (by omega)
  have e : madeCells (Value.cells (.int .u64 0)) ((m : Int).toNat * i0.size) = (u64s (List.replicate m 0)).toArray := by
    apply Array.toList_inj.1
    rw [hz1, show Value.cells (.int .u64 0) = #[.int .u64 0] from rfl, toList_madeCells_one, Nat.mul_one, Int.toNat_natCast]
    simp [u64s]
  rw [e, Int.toNat_natCast] at hrun
  unfold Oper.wp
  simp [execOp, hop, hl, hc, hrun, Result.andThen]
  exact hK' _ _ hK

/-- a row whose first m words are p -/
def repL (k : Nat) (p : Int) (m : Nat) : List Int := List.replicate m p ++ List.replicate (k - m) 0
theorem repL_len (k : Nat) (p : Int) {m : Nat} (h : m ≤ k) : (repL k p m).length = k := by simp [repL]; omega
theorem repL_splice (k : Nat) (p : Int) {m d : Nat} (h : m + d ≤ k) : ((u64s (repL k p m)).take m ++ u64s (List.replicate d p) ++ (u64s (repL k p m)).drop (m + (u64s (List.replicate d p)).length)) = u64s (repL k p (m + d)) := by
  unfold repL u64s
  rw [← List.map_take, ← List.map_drop, ← List.map_append, ← List.map_append]
  congr 1
  rw [List.take_left' (by simp), List.length_map, List.length_replicate, List.drop_append, List.drop_of_length_le (by simp), List.nil_append, List.drop_replicate, List.length_replicate, List.append_assoc]
  rw [← List.append_assoc, List.replicate_append_replicate]
  congr 2
  omega
theorem u64s_oneCell {L : List Int} : ∀ v ∈ u64s L, v.oneCell' = true := by
  intro v hv
  obtain ⟨x, _, rfl⟩ := List.mem_map.1 hv
  rfl

set_option maxRecDepth 100000 in
set_option maxHeartbeats 2000000 in
/-- slices.Repeat of one word -/
theorem repeat_any (k : Nat) (p : Int) (v : Value) (w : World) (hk : k ≤ 8) (hr : Rd w 1 v 1 (u64s [p])) :
    Calls Try.prog 55 #[v, .int .i64 k] w fun e w' => e = .returned (.slice (some ⟨w.heap.size, 0, none⟩) k k) ∧ w'.heap[w.heap.size]? = some (.cells (u64s (List.replicate k p)).toArray 22 (0, 0)) ∧ Below w.heap.size w w' := by
  obtain ⟨i0, hi, hz0, hz1, hz2⟩ := info_parts info_u64
  have hsz1 : (Try.prog.info? 22).map (·.size) = some 1 := by rw [hi]; simp [hz1]
  obtain ⟨sa, cap, rfl⟩ := hr.form
  obtain ⟨b, off, rfl, hcell⟩ := hr.at (by omega)
  have c0 := hcell 0 _ rfl
  have hM := Try.bits_Mul 1 k (by omega) (by omega)
  rw [Nat.one_mul, Nat.div_eq_of_lt (by omega), Nat.mod_eq_of_lt (by omega)] at hM
  have hbl : b < w.heap.size := World.block_lt_of_cell? _ _ c0
  obtain ⟨W1, e1, s1, n1, k1⟩ := alloc_facts w (.cells (u64s (List.replicate k 0)).toArray 22)
  have n1' : W1.heap[w.heap.size]? = some (.cells (u64s (repL k p 0)).toArray 22 (0, 0)) := n1
  have hb1 : Below w.heap.size w W1 := by rw [e1]; exact (Below.refl _ w).alloc (Nat.le_refl _) _
  obtain ⟨d, hd⟩ : ∃ d, d = min 1 k := ⟨_, rfl⟩
  -- what copy does, at any world, from so many words on
  have hcopy : ∀ (W : World) (m d sLen sCap dLen dCap : Nat) (a : Addr), W.heap[w.heap.size]? = some (.cells (u64s (repL k p m)).toArray 22 (0, 0)) → m + d ≤ k → d = Nat.min sLen dLen → (∀ j v, (u64s (List.replicate d p))[j]? = some v → W.cell? (a.add j) = some v) →
      ∃ W', (∀ ty, (Builtin.copy_ #[24, 24] ty #[.slice (some ⟨w.heap.size, m, none⟩) dLen dCap, .slice (some a) sLen sCap]).run Try.prog W = .ok (goInt d) W') ∧ W'.heap[w.heap.size]? = some (.cells (u64s (repL k p (m + d))).toArray 22 (0, 0)) ∧ (Below w.heap.size w W → Below w.heap.size w W') := by
    intro W m d sLen sCap dLen dCap a hg hmd hdd hsrc
    refine ⟨W.setRow w.heap.size (u64s (repL k p (m + d))).toArray, fun ty => ?_, ?_, ?_⟩
    · have := run_copy_row (P := Try.prog) W 24 24 ty 22 w.heap.size m dLen dCap a sLen sCap _ _ (u64s (List.replicate d p)) Try.underlying24 hsz1 hg (by simpa [u64s] using hdd) hsrc (by rw [List.size_toArray, u64s_len, u64s_len, repL_len k p (by omega), List.length_replicate]; exact hmd) u64s_oneCell
      rw [List.toList_toArray, repL_splice k p hmd] at this
      rw [this, u64s_len, List.length_replicate]
    · exact setRow_heap W _ _ _ _ _ hg
    · intro hb
      exact below_setRow hb (Nat.le_refl _) _
  obtain ⟨W2, hrun2, n2, hb2⟩ := hcopy W1 0 d 1 cap k k ⟨b, off, none⟩ n1' (by omega) (by rw [hd]) (by
    intro j v hj
    have hj1 : j < d := by have := (List.getElem?_eq_some_iff.1 hj).1; simpa [u64s] using this
    have : j = 0 := by omega
    subst this
    rw [Addr.add_lit]
    have hv : v = .int .u64 p := by
      have := hj
      simp [u64s, hj1] at this
      exact this.symm
    rw [hv, show off + 0 = off by rfl]
    exact cell_same (by simpa using c0) (k1 _ hbl))
  have hb2 := hb2 hb1
  rw [e1] at hrun2
  have HN2 := Lib.hid n2
  have HB2 := Lib.hid hb2
  have HC := Lib.hid hcopy
  have HD := Lib.hid hd
  clear hr hi hz0 hz1 hz2 hcopy n2 hb2 n1' n1 k1 s1 e1 hb1 hcell hd
  go_enter Try.func55, Try.ntmps55
  go_wp2_with (first
    | (refine (hM _).mono ?_; rintro e w ⟨rfl, rfl⟩)
    | (at_make; refine mkP_u64 _ rfl _ _ rfl .i64 .i64 k rfl rfl (by omega) ?_))
  go_loopw [8] (fun i wr => ∃ m : Nat, m ≤ k ∧ (k = 0 ∨ 0 < m) ∧ i = .int .i64 m ∧ Hid (wr.heap[w.heap.size]? = some (.cells (u64s (repL k p m)).toArray 22 (0, 0))) ∧ Hid (Below w.heap.size w wr)) (fun i _ => k - (intOf i).toNat)
  case atStart =>
    refine ⟨d, by have := HD.out; omega, by have := HD.out; omega, rfl, ?_, HB2.out⟩
    have := HN2.out
    rw [Nat.zero_add] at this
    exact this
  case round =>
    clear HN2 HB2 hrun2 HD
    obtain ⟨m, hm, hm0, rfl, HR, HW⟩ := hrel
    by_cases hlt : m < k
    · obtain ⟨d', hd'⟩ : ∃ d', d' = min m (k - m) := ⟨_, rfl⟩
      obtain ⟨W3, hrun3, n3, hb3⟩ := HC.out wr.drew m d' m k (k - m) (k - m) ⟨w.heap.size, 0, none⟩ HR.out (by omega) (by rw [hd']) (by
        intro j v hj
        have hjd : j < d' := by have := (List.getElem?_eq_some_iff.1 hj).1; simpa [u64s] using this
        have hv : v = .int .u64 p := by
          have := hj
          simp [u64s, hjd] at this
          exact this.symm
        rw [hv, Addr.add_lit, Nat.zero_add]
        refine cell_of HR.out j ?_
        simp [u64s, repL, List.getElem?_append, show j < m by omega])
      have HN3 := Lib.hid n3
      have HB3 := Lib.hid (hb3 HW.out.drew)
      have hd0 : 0 < d' := by omega
      have hdk : m + d' ≤ k := by omega
      clear n3 hb3 HR HW HC hd'
      go_wp2
      go_region
      all_goals go_wp2
      go_roundw
      case rel => exact ⟨m + d', hdk, by omega, by go_num, HN3, HB3⟩
      case measure => simp [intOf]; omega
    · obtain rfl : m = k := by omega
      go_wp2
      go_ret
      refine ⟨rfl, ?_, HW.out⟩
      have := HR.out
      unfold repL at this
      simpa using this

end Go.Proofs.Ytnnaijbdimdhpaa
