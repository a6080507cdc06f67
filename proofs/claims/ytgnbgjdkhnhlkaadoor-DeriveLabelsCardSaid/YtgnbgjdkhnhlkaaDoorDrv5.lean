/-
  Paths: derive.Parts.
-/
import Derived.Test.YtgnbgjdkhnhlkaaDoorSplit
import Derived.Test.YtgnbgjdkhnhlkaaDoorDrv4
import Derived.WalkMore
namespace Go.Proofs.YtgnbgjdkhnhlkaaDoor
open Go.RowKit Go.Shelf
set_option linter.unusedVariables false
set_option linter.unusedSimpArgs false
attribute [local go_sem] Oper.semAt_some

theorem wpIn_scope_wide {P : Program} {Q : Exit → Act → World → Prop} {a : Act} {w : World} {c : Code} (h : c.wpIn Fence.wide 0 P (Exit.noGoto Q) a w) : (Code.scope c).wpIn Fence.wide 0 P Q a w :=
  (wpIn_wide (n := 0)).2 (wp_scope_straight ((wpIn_wide (n := 0)).1 h))

def strs (l : List ByteArray) : List Value := l.map Value.string
theorem strs_len (l : List ByteArray) : (strs l).length = l.length := by simp [strs]
theorem strs_snoc (l : List ByteArray) (x : ByteArray) : strs (l ++ [x]) = strs l ++ [.string x] := by simp [strs]
theorem info_str : (Tryd.prog.info? 9).map (fun i => (i.zero, i.size, i.bytes)) = some (some (.string ByteArray.empty), 1, 16) := by kernel_rfl

theorem splitN_len : ∀ l : List Nat, (splitN l).length ≤ l.length + 1
  | [] => by simp [splitN]
  | c :: l => by
    have ih := splitN_len l
    simp only [splitN]
    split
    · simp; exact ih
    · cases h : splitN l with
      | nil => exact absurd h (splitN_ne l)
      | cons s r => rw [h] at ih; simp at ih ⊢; omega

theorem firstBad_good {l : List (List Nat)} (h : ∀ x ∈ l, labE x = 0) : firstBad l = 0 := by
  induction l with
  | nil => rfl
  | cons s l ih => simp only [firstBad, h s List.mem_cons_self, ne_eq, not_true, if_false]; exact ih fun x hx => h x (List.mem_cons_of_mem _ hx)

set_option maxRecDepth 100000 in
set_option maxHeartbeats 4000000 in
theorem parts_any (p : ByteArray) (hp : p.size ≤ 100000) (w : World) :
    Calls Tryd.prog 7 #[.string p] w fun e w' => ∃ (v : Value) (L : List ByteArray), e = .returned (.tuple #[v, .int .i64 (partsE (bsN p) : Nat)]) ∧ L.map bsN = partsL (bsN p) ∧ w'.ownsRow w.heap.size 9 1 v L.length (strs L) ∧ Below w.heap.size w w' := by
  by_cases h0 : p.size = 0
  · have g0 := bsN_nil.2 h0
    have hb0 : bsN p = [] := by apply List.eq_nil_of_length_eq_zero; rw [bsN_len]; exact h0
    rw [hb0]
    go_enter Tryd.func7, Tryd.ntmps7
    go_wp2
    go_step3
    go_wp2
    (try rw [Exit.noGoto_ret])
    refine bodyPost_ret (results_tmp2 rfl _ _ _) rfl ⟨.slice none 0 0, [], ?_, rfl, World.ownsRow_nil _ _ _ _, (Below.refl _ _).alloc (Nat.le_refl _) _⟩
    exact (rfl : _ = _)
  have g0 : p.toList.isEmpty = false := by
    rw [Bool.eq_false_iff]; intro h; exact h0 (bsN_nil.1 h)
  refine (callsIn_wide (n := 0)).1 ?_
  refine callsIn_of_wp_marks Tryd.func7 rfl trivial ?_ rfl
  simp only [Tryd.ntmps7, List.size_toArray, List.length_cons, List.length_nil, Nat.reduceAdd, Nat.reduceSub, Array.replicate_succ, Array.replicate_zero, List.push_toArray, List.append_toArray, List.nil_append, List.cons_append]
  gi_wp2
  refine wpIn_scope_wide ?_
  gi_wp2
  refine wpIn_label ?_
  gi_wp2_with ((try refine ⟨trivial, ?_⟩); (try refine ⟨rfl, ?_⟩); refine (callsIn_wide.2 (SplitSeq_any p ⟨#[47]⟩ _)).mono ?_; rintro e w' ⟨rfl, rfl⟩)
  obtain ⟨W5, hW5⟩ : ∃ W5, W5 = (((((w.alloc (.cells #[.slice none 0 0] 26)).alloc (.cells #[.int .i64 0] 27)).alloc (.cells #[.string p] 9)).alloc (.cells #[.string ⟨#[47]⟩] 9)).alloc (.cells #[.int .i64 0] 3)) := ⟨_, rfl⟩
  have hs5 : W5.heap.size = w.heap.size + 5 := by rw [hW5]; simp
  have hb5 : Below w.heap.size w W5 := by
    rw [hW5]; exact (((((Below.refl _ w).alloc (Nat.le_refl _) _).alloc (by first | (simp; done) | (simp; omega)) _).alloc (by first | (simp; done) | (simp; omega)) _).alloc (by first | (simp; done) | (simp; omega)) _).alloc (by first | (simp; done) | (simp; omega)) _
  have k0 : W5.heap[w.heap.size]? = some (.cells #[.slice none 0 0] 26 (0, 0)) := by
    rw [hW5, Below.heap_alloc _ _ _ (by first | (simp; done) | (simp; omega)), Below.heap_alloc _ _ _ (by first | (simp; done) | (simp; omega)), Below.heap_alloc _ _ _ (by first | (simp; done) | (simp; omega)), Below.heap_alloc _ _ _ (by first | (simp; done) | (simp; omega))]; exact heap_alloc_new _ _
  have k1 : W5.heap[w.heap.size + 1]? = some (.cells #[.int .i64 0] 27 (0, 0)) := by
    rw [hW5, Below.heap_alloc _ _ _ (by first | (simp; done) | (simp; omega)), Below.heap_alloc _ _ _ (by first | (simp; done) | (simp; omega)), Below.heap_alloc _ _ _ (by first | (simp; done) | (simp; omega))]
    have := heap_alloc_new (w.alloc (.cells #[.slice none 0 0] 26)) (.cells #[.int .i64 0] 27)
    simpa using this
  have k2 : W5.heap[w.heap.size + 1 + 1]? = some (.cells #[.string p] 9 (0, 0)) := by
    rw [hW5, Below.heap_alloc _ _ _ (by first | (simp; done) | (simp; omega)), Below.heap_alloc _ _ _ (by first | (simp; done) | (simp; omega))]
    have := heap_alloc_new ((w.alloc (.cells #[.slice none 0 0] 26)).alloc (.cells #[.int .i64 0] 27)) (.cells #[.string p] 9)
    simpa using this
  have k3 : W5.heap[w.heap.size + 1 + 1 + 1]? = some (.cells #[.string ⟨#[47]⟩] 9 (0, 0)) := by
    rw [hW5, Below.heap_alloc _ _ _ (by first | (simp; done) | (simp; omega))]
    have := heap_alloc_new (((w.alloc (.cells #[.slice none 0 0] 26)).alloc (.cells #[.int .i64 0] 27)).alloc (.cells #[.string p] 9)) (.cells #[.string ⟨#[47]⟩] 9)
    simpa using this
  have k4 : W5.heap[w.heap.size + 1 + 1 + 1 + 1]? = some (.cells #[.int .i64 0] 3 (0, 0)) := by
    rw [hW5]
    have := heap_alloc_new ((((w.alloc (.cells #[.slice none 0 0] 26)).alloc (.cells #[.int .i64 0] 27)).alloc (.cells #[.string p] 9)).alloc (.cells #[.string ⟨#[47]⟩] 9)) (.cells #[.int .i64 0] 3)
    simpa using this
  rw [← hW5]
  clear hW5
  have hg := split_gives p hp (w.heap.size + 1 + 1) (w.heap.size + 1 + 1 + 1) (w.heap.size + 1 + 1 + 1 + 1) W5 (by omega) (by omega) k2 k3 k4
  have hxl : (splitB p.size p).length ≤ p.size + 1 := by
    have h1 := congrArg List.length (splitB_bs p.size p (Nat.le_refl _))
    rw [List.length_map] at h1
    rw [h1]
    have := splitN_len (bsN p)
    rw [bsN_len] at this
    exact this
  have hxs := splitB_bs p.size p (Nat.le_refl _)
  obtain ⟨xs, hxe⟩ : ∃ xs, xs = splitB p.size p := ⟨_, rfl⟩
  rw [← hxe] at hg hxl hxs
  have hlab : partsE (bsN p) = if firstBad (splitN (bsN p)) ≠ 0 then firstBad (splitN (bsN p)) else if 16 < (splitN (bsN p)).length then 9 else 0 := by
    unfold partsE
    rw [if_neg (by intro h; have := congrArg List.length h; rw [bsN_len] at this; exact h0 (by simpa using this))]
  have HG := Lib.hid hg; have HXS := Lib.hid hxs; have HLAB := Lib.hid hlab; have HB5 := Lib.hid hb5; have HK := Lib.hid (And.intro k0 k1)
  clear hg hxs hlab hb5 hxe k0 k1 k2 k3 k4 g0
  obtain ⟨i0, hi, hz0, hz1, hz2⟩ := info_parts info_str
  refine wp_range_cap (gf := 35) (lb := #[.pointer (some ⟨w.heap.size + 1 + 1 + 1, 0, none⟩), .pointer (some ⟨w.heap.size + 1 + 1, 0, none⟩), .pointer (some ⟨w.heap.size + 1 + 1 + 1 + 1, 0, none⟩)]) rfl (enters_of Tryd.func35 (by kernel_rfl) rfl)
    (fun k hk => by omega) HG.out rfl
    (fun pre V => ∃ v, V.heap[w.heap.size]? = some (.cells #[v] 26 (0, 0)) ∧ V.heap[w.heap.size + 1]? = some (.cells #[.int .i64 0] 27 (0, 0)) ∧ V.ownsRow (w.heap.size + 7) 9 1 v pre.length (strs pre) ∧ Below w.heap.size w V ∧ (∀ x ∈ pre, labE (bsN x) = 0))
    (fun id pre V => id = 0 ∧ ∃ (E : Nat) (pre0 : List ByteArray) (x : ByteArray), pre = pre0 ++ [x] ∧ (∀ y ∈ pre0, labE (bsN y) = 0) ∧ E ≠ 0 ∧ labE (bsN x) = E ∧ V.heap[w.heap.size + 1]? = some (.cells #[.int .i64 (E : Int)] 27 (0, 0)) ∧ Below w.heap.size w V)
    ?hI ?hIx ?h0 ?a1 ?assign ?body ?done ?stop
  case assign =>
    intro l' x V K hK
    gi_wp2
    exact hK
  case hI =>
    rintro pre A B ⟨v, i1, i2, i3, i4, i5⟩ hc
    rw [hs5] at hc
    exact ⟨v, (hc.block _ (block_lt i1) (by omega)).trans i1, (hc.block _ (block_lt i2) (by omega)).trans i2, row_chg i3 hc (fun g hg hx => by have := (i3.lt g hg).1; omega), i4.trans (hc.below i4.size fun k hk => by omega), i5⟩
  case hIx =>
    rintro id pre A B ⟨rfl, E, pre0, x, j1, j2, j3, j4, j5, j6⟩ hc
    rw [hs5] at hc
    exact ⟨rfl, E, pre0, x, j1, j2, j3, j4, (hc.block _ (block_lt j5) (by omega)).trans j5, j6.trans (hc.below j6.size fun k hk => by omega)⟩
  case h0 => exact ⟨_, HK.out.1, HK.out.2, World.ownsRow_nil _ _ _ _, HB5.out, by simp⟩
  case body =>
    rintro l' pre x V ⟨v, i1, i2, i3, i4, i5⟩ hpre hsV
    have hlen : pre.length + 1 ≤ 100001 := by have := hpre.length_le; simp at this; omega
    obtain ⟨sa, cap, rfl⟩ := (rd_of_row i3).form
    have c0 : V.cell? ⟨w.heap.size, 0, none⟩ = some (.slice sa pre.length cap) := cell_of i1 0 rfl
    have c1 : V.cell? ⟨w.heap.size + 1, 0, none⟩ = some (.int .i64 0) := cell_of i2 0 rfl
    have f0 := frozen_of i1 0
    have f1 := frozen_of i2 0
    have C := label_any x V
    obtain ⟨E, hE⟩ : ∃ E, E = labE (bsN x) := ⟨_, rfl⟩
    rw [← hE] at C
    by_cases hz : E = 0
    · subst hz
      have hVs : (V.setCell ⟨w.heap.size + 1, 0, none⟩ (.int .i64 0)).heap.size = V.heap.size := by simp [World.setCell]
      have hVk : ∀ k, k ≠ w.heap.size + 1 → (V.setCell ⟨w.heap.size + 1, 0, none⟩ (.int .i64 0)).heap[k]? = V.heap[k]? := fun k hk => Below.heap_setCell _ _ _ _ hk
      have hV1 : (V.setCell ⟨w.heap.size + 1, 0, none⟩ (.int .i64 0)).heap[w.heap.size + 1]? = some (.cells #[.int .i64 0] 27 (0, 0)) := by
        rw [set_of i2 0 _]; rfl
      have hVb : Below w.heap.size w (V.setCell ⟨w.heap.size + 1, 0, none⟩ (.int .i64 0)) := i4.setCell (by simp) _
      have i3' : (V.setCell ⟨w.heap.size + 1, 0, none⟩ (.int .i64 0)).ownsRow (w.heap.size + 7) 9 1 (.slice sa pre.length cap) pre.length (strs pre) := row_kept i3 (fun g hg => hVk g (by have := (i3.lt g hg).1; omega))
      have hi1' := (hVk w.heap.size (by omega)).trans i1
      obtain ⟨V1, hV⟩ : ∃ V1, V1 = V.setCell ⟨w.heap.size + 1, 0, none⟩ (.int .i64 0) := ⟨_, rfl⟩
      rw [← hV] at hVs hVk hV1 hVb i3' hi1'
      have HC := Lib.hid C; have HE := Lib.hid hE; have HI3 := Lib.hid i3'; have HPRE := Lib.hid hpre
      have HV := Lib.hid hV; have HV1 := Lib.hid hV1; have HVB := Lib.hid hVb; have HVS := Lib.hid hVs; have HI1 := Lib.hid hi1'
      have HI5 := Lib.hid i5
      clear C hE hpre hV hV1 hVb hVs hVk i3 i3' hi1' i5 i4
      gi_wp2_with (first
        | ((try refine ⟨trivial, ?_⟩); (try refine ⟨rfl, ?_⟩); refine (CallsIn.inRound l' (callsIn_wide.2 HC.out)).mono ?_; rintro e w' ⟨rfl, rfl⟩)
        | (gi_at_builtin; refine wpListIn_append_own _ rfl _ _ 26 rfl (w.heap.size + 7) 9 i0 _ 1 16 Tryd.underlying26 hi hz0 hz1 hz2 rfl (by decide) _ _ _ rfl (by rw [← HV.out]; exact HI3.out.alloc _) ⟨w'.heap.size, 0, none⟩ 1 1 [.string x] rfl rfl (by rw [← HV.out]; exact cell_one_at _ _ _ _ HVS.out.symm) (by simp [Value.oneCell']) ?q1 ?q2 ?q3 ?_))
      case q1 => unfold maxLen; omega
      case q2 => omega
      case q3 => simp [World.setCell]; omega
      intro v' w2 hown hgrow hnil
      rw [← HV.out] at hgrow
      have hchg : Chg (fun k => (Value.slice sa pre.length cap).ownBlock = some k) V1 w2 := ((Chg.refl _ V1).alloc _).grown hgrow (fun k hk => .inl hk)
      have hne7 : ∀ g, (Value.slice sa pre.length cap).ownBlock = some g → w.heap.size + 7 ≤ g := fun g hg => (HI3.out.lt g hg).1
      obtain ⟨sa', cap', rfl⟩ := (rd_of_row hown).form
      have hvs := HVS.out
      have b0 : w2.heap[w.heap.size]? = some (.cells #[.slice sa pre.length cap] 26 (0, 0)) := (hchg.block _ (by omega) (fun h => by have := hne7 _ h; omega)).trans HI1.out
      have b1 : w2.heap[w.heap.size + 1]? = some (.cells #[.int .i64 0] 27 (0, 0)) := (hchg.block _ (by omega) (fun h => by have := hne7 _ h; omega)).trans HV1.out
      have hbl2 : Below w.heap.size w w2 := HVB.out.trans (hchg.below (B := w.heap.size) (by omega) (fun k hk => by have := hne7 _ hk; omega))
      have hsz2 : w'.heap.size ≤ w2.heap.size := by have := hchg.size; omega
      have hkk : ∀ k, k < w'.heap.size → k ≠ w.heap.size + 1 → k < w.heap.size + 7 → w2.heap[k]? = w'.heap[k]? := fun k h1 h2 h3 => by
        rw [hchg.block k (by omega) (fun h => by have := hne7 _ h; omega), HV.out]
        exact Below.heap_setCell _ _ _ _ h2
      have d0 := cell_of b0 0 rfl
      have q0 := frozen_of b0 0
      rw [← strs_snoc] at hown
      have HO := Lib.hid hown; have HB0 := Lib.hid b0; have HB1 := Lib.hid b1; have HBL := Lib.hid hbl2; have HKK := Lib.hid hkk
      clear hown hgrow hnil hchg hne7 b0 b1 hbl2 hkk
      gi_wp2
      have hk2 : ∀ k, k ≠ w.heap.size → (w2.setCell ⟨w.heap.size, 0, none⟩ (.slice sa' (pre.length + 1) cap')).heap[k]? = w2.heap[k]? := fun k hk => Below.heap_setCell _ _ _ _ hk
      refine ⟨⟨.slice sa' (pre.length + 1) cap', set_of HB0.out 0 _, (hk2 _ (by omega)).trans HB1.out, ?_, HBL.out.setCell (by simp) _, ?_⟩, by simp [World.setCell]; omega, fun k hk hkl => ?_⟩
      · rw [List.length_append]
        exact row_kept HO.out (fun g hg => hk2 g (by have := (HO.out.lt g hg).1; omega))
      · intro y hy
        rw [List.mem_append, List.mem_singleton] at hy
        rcases hy with hy | rfl
        · exact HI5.out y hy
        · exact HE.out.symm
      · rw [hk2 k (by omega)]
        exact HKK.out k hkl (by omega) (by omega)
    · have hne : ((E : Int) != 0) = true := by rw [bne_iff_ne]; omega
      have HC := Lib.hid C; have HE := Lib.hid hE
      clear C hE
      gi_wp2_with ((try refine ⟨trivial, ?_⟩); (try refine ⟨rfl, ?_⟩); refine (CallsIn.inRound l' (callsIn_wide.2 HC.out)).mono ?_; rintro e w' ⟨rfl, rfl⟩)
      refine ⟨⟨rfl, E, pre, x, rfl, i5, hz, HE.out.symm, set_of i2 0 _, i4.setCell (by simp) _⟩, by simp [World.setCell], fun k hk hkl => Below.heap_setCell _ _ _ _ (by show k ≠ w.heap.size + 1; omega)⟩
  case done =>
    rintro V ⟨v, i1, i2, i3, i4, i5⟩ hK
    obtain ⟨sa, cap, rfl⟩ := (rd_of_row i3).form
    have c0 : V.cell? ⟨w.heap.size, 0, none⟩ = some (.slice sa xs.length cap) := cell_of i1 0 rfl
    have c1 : V.cell? ⟨w.heap.size + 1, 0, none⟩ = some (.int .i64 0) := cell_of i2 0 rfl
    have hgood : firstBad (splitN (bsN p)) = 0 := by
      rw [← HXS.out]
      exact firstBad_good fun y hy => by
        obtain ⟨z, hz, rfl⟩ := List.mem_map.1 hy
        exact i5 z hz
    have hsl : (splitN (bsN p)).length = xs.length := by rw [← HXS.out, List.length_map]
    have hpE : partsE (bsN p) = if 16 < xs.length then 9 else 0 := by rw [HLAB.out, if_neg (by simp [hgood]), hsl]
    have hput : Below w.heap.size w (V.putObj W5.heap.size (.deferred none)) := i4.trans ((chg_putObjS (S := fun k => k = W5.heap.size) V W5.heap.size (.deferred none) rfl).below (by exact i4.size) (fun k hk => by have h : k = W5.heap.size := hk; omega))
    have hrow : (V.putObj W5.heap.size (.deferred none)).ownsRow (w.heap.size + 7) 9 1 (.slice sa xs.length cap) xs.length (strs xs) := row_kept i3 (fun g hg => World.putObj_heap_other (by have := (i3.lt g hg).1; omega))
    have HPE := Lib.hid hpE; have HPUT := Lib.hid hput; have HROW := Lib.hid hrow
    clear hgood hpE hput hrow i1 i2 i3 i4 i5 hsl
    gi_wp2
    · rename_i hgt
      rw [Exit.noGoto_ret]
      refine ⟨by simp, .inl ⟨_, _, rfl, run_takeDeferred (w := V) hK, ?_⟩⟩
      refine ⟨_, results_tmp2 rfl _ _ _, .slice none 0 0, [], ?_, ?_, World.ownsRow_nil _ _ _ _, HPUT.out⟩
      · rw [HPE.out, if_pos (by omega)]; exact (rfl : _ = _)
      · unfold partsL; rw [if_pos (.inr (by rw [HPE.out, if_pos (by omega)]; decide))]; rfl
    · rename_i hgt
      rw [Exit.noGoto_ret]
      refine ⟨by simp, .inl ⟨_, _, rfl, run_takeDeferred (w := V) hK, ?_⟩⟩
      refine ⟨_, results_tmp2 rfl _ _ _, .slice sa xs.length cap, xs, ?_, ?_, row_mono HROW.out (by omega), HPUT.out⟩
      · rw [HPE.out, if_neg (by omega)]; exact (rfl : _ = _)
      · unfold partsL; rw [if_neg, HXS.out]
        rintro (h | h)
        · have := congrArg List.length h; rw [bsN_len] at this; exact h0 (by simpa using this)
        · rw [HPE.out, if_neg (by omega)] at h; exact h rfl
  case stop =>
    rintro V id pre x hpre ⟨rfl, E, pre0, x0, j1, j2, j3, j4, j5, j6⟩ hK
    have c1 : V.cell? ⟨w.heap.size + 1, 0, none⟩ = some (.int .i64 (E : Int)) := cell_of j5 0 rfl
    have hne : ((E : Int) != 0) = true := by rw [bne_iff_ne]; omega
    have hbad : firstBad (splitN (bsN p)) = E := by
      obtain ⟨rest, hr⟩ := hpre
      rw [← HXS.out, ← hr, j1, List.map_append, List.map_append, List.append_assoc, firstBad_append, firstBad_good (fun y hy => by
        obtain ⟨z, hz, rfl⟩ := List.mem_map.1 hy
        exact j2 z hz), if_neg (by simp)]
      show (if labE (bsN x0) ≠ 0 then labE (bsN x0) else _) = E
      rw [j4, if_pos j3]
    have hpE : partsE (bsN p) = E := by rw [HLAB.out, hbad, if_pos j3]
    have hput : Below w.heap.size w (V.drew.putObj W5.heap.size (.deferred none)) := j6.drew.trans ((chg_putObjS (S := fun k => k = W5.heap.size) V.drew W5.heap.size (.deferred none) rfl).below (by show w.heap.size ≤ V.heap.size; exact j6.size) (fun k hk => by have h : k = W5.heap.size := hk; omega))
    have hmx : Tryd.prog.follows .mixedOrders = true := by kernel_rfl
    have HPE := Lib.hid hpE; have HPUT := Lib.hid hput
    clear hbad hpE hput j1 j2 j4 j5 j6
    gi_wp2
    gi_region
    all_goals gi_wp2
    all_goals
      rw [Exit.noGoto_ret]
      refine ⟨by simp, .inl ⟨_, _, rfl, run_takeDeferred (w := V.drew) hK, ?_⟩⟩
      refine ⟨_, results_tmp2 rfl _ _ _, .slice none 0 0, [], ?_, ?_, World.ownsRow_nil _ _ _ _, HPUT.out⟩
      · rw [HPE.out]; exact (rfl : _ = _)
      · unfold partsL; rw [if_pos (.inr (by rw [HPE.out]; exact j3))]; rfl

end Go.Proofs.YtgnbgjdkhnhlkaaDoor
