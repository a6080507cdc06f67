/-
  strings.SplitSeq at the separator '/': what it gives.
-/
import Derived.Test.YtgnbgjdkhnhlkaaDoorRangeS
import Derived.Test.YtgnbgjdkhnhlkaaDoorDrv1
import Derived.Test.YtgnbgjdkhnhlkaaDoorShelf
import Derived.Shelf.Abstract
import Derived.Shelf.RegionOpen
import Derived.OwnWalkIn
import Derived.TacticsInMore
import Derived.LoopNIn
import Derived.LoopIn
import Derived.Lib.IndexLaws
namespace Go.Proofs.YtgnbgjdkhnhlkaaDoor
open Go.RowKit Go.Shelf
set_option linter.unusedVariables false
set_option linter.unusedSimpArgs false
attribute [local go_sem] Oper.semAt_some

/-- the parts of a string, as SplitSeq finds them -/
def splitB : Nat → ByteArray → List ByteArray
  | 0, s => [s]
  | n + 1, s => if Lib.indexByte s.data.toList 47 = -1 then [s] else s.extract 0 (Lib.indexByte s.data.toList 47).toNat :: splitB n (s.extract ((Lib.indexByte s.data.toList 47).toNat + 1) s.size)

theorem bsN_extract (s : ByteArray) (a b : Nat) : bsN (s.extract a b) = ((bsN s).drop a).take (b - a) := by
  simp only [bsN, Lib.extract_data, List.map_take, List.map_drop]

theorem splitN_plain : ∀ (l : List Nat), (∀ c ∈ l, c ≠ 47) → splitN l = [l]
  | [], _ => rfl
  | c :: l, h => by
    have h1 := h c List.mem_cons_self
    have h2 := splitN_plain l fun x hx => h x (List.mem_cons_of_mem _ hx)
    simp only [splitN, h1, if_false, h2]

theorem idx_lt {s : ByteArray} {o : Nat} (h : Lib.indexByte s.data.toList 47 = o) : o < s.size := by
  have h1 := (Lib.indexByte_some h).1
  rcases Nat.lt_or_ge o s.size with h2 | h2
  · exact h2
  · rw [List.getElem?_eq_none (by rw [← Lib.size_eq]; exact h2)] at h1; cases h1

theorem bsN_at47 {s : ByteArray} {o : Nat} (h : Lib.indexByte s.data.toList 47 = o) : bsN s = bsN (s.extract 0 o) ++ 47 :: bsN (s.extract (o + 1) s.size) := by
  have h1 := (Lib.indexByte_some h).1
  have hlt := idx_lt h
  have hg : (bsN s)[o]? = some 47 := by
    simp only [bsN, List.getElem?_map, h1, Option.map_some]; rfl
  have hl : o < (bsN s).length := by rw [bsN_len]; exact hlt
  rw [bsN_extract, bsN_extract, List.drop_zero, Nat.sub_zero]
  have e2 : (bsN s).drop o = 47 :: (bsN s).drop (o + 1) := by
    rw [List.drop_eq_getElem_cons hl]
    rw [List.getElem?_eq_getElem hl] at hg
    rw [Option.some.inj hg]
  have e3 : ((bsN s).drop (o + 1)).take (s.size - (o + 1)) = (bsN s).drop (o + 1) := List.take_of_length_le (by rw [List.length_drop, bsN_len]; exact Nat.le_refl _)
  rw [e3, ← e2, List.take_append_drop]

theorem splitB_bs : ∀ (n : Nat) (s : ByteArray), s.size ≤ n → (splitB n s).map bsN = splitN (bsN s)
  | n, s, hn => by
    by_cases hi : Lib.indexByte s.data.toList 47 = -1
    · have hno := Lib.indexByte_none hi
      have hp : splitN (bsN s) = [bsN s] := splitN_plain _ fun c hc e => by
        obtain ⟨j, hj⟩ := List.mem_iff_getElem?.1 hc
        simp only [bsN, List.getElem?_map] at hj
        cases hx : s.data.toList[j]? with
        | none => rw [hx] at hj; cases hj
        | some x =>
          rw [hx] at hj
          have hx47 : x = 47 := by
            have : x.toNat = 47 := by rw [← e]; simpa using hj
            exact UInt8.toNat_inj.1 (by rw [this]; rfl)
          exact hno j (by rw [hx, hx47])
      rw [hp]
      cases n with
      | zero => rfl
      | succ n => simp only [splitB, hi, if_true, List.map_cons, List.map_nil]
    · have hge := Lib.indexByte_ge s.data.toList 47
      obtain ⟨o, ho⟩ : ∃ o : Nat, Lib.indexByte s.data.toList 47 = o := ⟨(Lib.indexByte s.data.toList 47).toNat, by omega⟩
      have hlt := idx_lt ho
      cases n with
      | zero => omega
      | succ n =>
        have hs2 : (s.extract (o + 1) s.size).size ≤ n := by
          rw [Lib.size_eq, Lib.extract_data, List.length_take, List.length_drop]; omega
        have ih := splitB_bs n _ hs2
        have hpre : splitN (bsN (s.extract 0 o)) = [bsN (s.extract 0 o)] := splitN_plain _ fun c hc e => by
          rw [bsN_extract, List.drop_zero, Nat.sub_zero] at hc
          obtain ⟨j, hj⟩ := List.mem_iff_getElem?.1 hc
          rw [List.getElem?_take] at hj
          split at hj
          · rename_i hjo
            simp only [bsN, List.getElem?_map] at hj
            cases hx : s.data.toList[j]? with
            | none => rw [hx] at hj; cases hj
            | some x =>
              rw [hx] at hj
              have hx47 : x = 47 := by
                have : x.toNat = 47 := by rw [← e]; simpa using hj
                exact UInt8.toNat_inj.1 (by rw [this]; rfl)
              exact (Lib.indexByte_some ho).2 j hjo (by rw [hx, hx47])
          · cases hj
        simp only [splitB, ho, Int.toNat_natCast]
        rw [if_neg (by omega), List.map_cons, ih, bsN_at47 ho, splitN_append, hpre]
        rfl

theorem splitB_none {n : Nat} {s : ByteArray} (h : Lib.indexByte s.data.toList 47 = -1) : splitB n s = [s] := by
  cases n with
  | zero => rfl
  | succ n => simp only [splitB, h, if_true]
theorem splitB_some {n : Nat} {s : ByteArray} {o : Nat} (h : Lib.indexByte s.data.toList 47 = o) : splitB (n + 1) s = s.extract 0 o :: splitB n (s.extract (o + 1) s.size) := by
  simp only [splitB, h, Int.toNat_natCast]
  rw [if_neg (by omega)]

theorem splitseq_any (p q : ByteArray) (n : Int) (w : World) :
    Calls Tryd.prog 25 #[.string p, .string q, .int .i64 n] w fun e w' => e = .returned (.func (.func 35) #[] #[.pointer (some ⟨w.heap.size + 1, 0, none⟩), .pointer (some ⟨w.heap.size, 0, none⟩), .pointer (some ⟨w.heap.size + 1 + 1, 0, none⟩)]) ∧ w' = ((w.alloc (.cells #[.string p] 9)).alloc (.cells #[.string q] 9)).alloc (.cells #[.int .i64 n] 3) := by
  go_enter Tryd.func25, Tryd.ntmps25
  go_wp2
  go_ret
  exact ⟨rfl, rfl⟩

theorem SplitSeq_any (p q : ByteArray) (w : World) :
    Calls Tryd.prog 19 #[.string p, .string q] w fun e w' => e = .returned (.func (.func 35) #[] #[.pointer (some ⟨w.heap.size + 1, 0, none⟩), .pointer (some ⟨w.heap.size, 0, none⟩), .pointer (some ⟨w.heap.size + 1 + 1, 0, none⟩)]) ∧ w' = ((w.alloc (.cells #[.string p] 9)).alloc (.cells #[.string q] 9)).alloc (.cells #[.int .i64 0] 3) := by
  go_enter Tryd.func19, Tryd.ntmps19
  go_wp2_with fail
  refine (splitseq_any p q 0 _).mono ?_
  rintro e w' ⟨rfl, rfl⟩
  go_wp2_with fail
  go_ret
  exact ⟨rfl, rfl⟩

set_option maxRecDepth 100000 in
set_option maxHeartbeats 4000000 in
/-- the iterator that SplitSeq gives -/
theorem split_gives (p : ByteArray) (hp : p.size ≤ 100000) (sb pb vb : Nat) (w : World) (hsp : sb ≠ pb) (hsv : sb ≠ vb) (hs : w.heap[sb]? = some (.cells #[.string p] 9 (0, 0))) (hq : w.heap[pb]? = some (.cells #[.string ⟨#[47]⟩] 9 (0, 0))) (hv : w.heap[vb]? = some (.cells #[.int .i64 0] 3 (0, 0))) :
    GivesCap Tryd.prog 35 #[.pointer (some ⟨pb, 0, none⟩), .pointer (some ⟨sb, 0, none⟩), .pointer (some ⟨vb, 0, none⟩)] (fun (x : ByteArray) => .string x) (splitB p.size p) (fun k => k = sb ∨ k = pb ∨ k = vb) w := by
  intro l J Jx W hW hJ hJx hY h0
  have hs1 : W.heap[sb]? = some (.cells #[.string p] 9 (0, 0)) := (hW.block _ (block_lt hs)).trans hs
  have hq1 : W.heap[pb]? = some (.cells #[.string ⟨#[47]⟩] 9 (0, 0)) := (hW.block _ (block_lt hq)).trans hq
  have hv1 : W.heap[vb]? = some (.cells #[.int .i64 0] 3 (0, 0)) := (hW.block _ (block_lt hv)).trans hv
  obtain ⟨xs, hxs⟩ : ∃ xs, xs = splitB p.size p := ⟨_, rfl⟩
  rw [← hxs] at hY ⊢
  have HXS := Lib.hid hxs; have HJ := Lib.hid hJ; have HJX := Lib.hid hJx; have HY := Lib.hid hY; have H0 := Lib.hid h0
  have HS := Lib.hid hs1; have HQ := Lib.hid hq1; have HV := Lib.hid hv1
  have c1 := cell_of hq1 0 rfl
  clear hxs hJ hJx hY h0 hs1 hq1 hv1 hs hq hv
  refine callsIn_of_wp Tryd.func35 rfl trivial ?_ rfl
  simp only [Tryd.ntmps35, List.size_toArray, List.length_cons, List.length_nil, Nat.reduceAdd, Nat.reduceSub, Array.replicate_succ, Array.replicate_zero, List.push_toArray, List.append_toArray, List.nil_append, List.cons_append]
  gi_wp2
  gi_loopw [] (fun wr => ∃ (n : Nat) (r : ByteArray) (pre : List ByteArray), r.size ≤ n ∧ n ≤ 100000 ∧ Hid (wr.heap[sb]? = some (.cells #[.string r] 9 (0, 0))) ∧ Hid (wr.heap[pb]? = some (.cells #[.string ⟨#[47]⟩] 9 (0, 0))) ∧ Hid (wr.heap[vb]? = some (.cells #[.int .i64 0] 3 (0, 0))) ∧ Hid (J pre wr) ∧ Hid (xs = pre ++ splitB n r))
    (fun wr => match wr.cell? ⟨sb, 0, none⟩ with | some (.string r) => r.size | _ => 0)
  case atStart => exact ⟨p.size, p, [], Nat.le_refl _, hp, HS, HQ, HV, H0, HXS⟩
  case round =>
    obtain ⟨n, r, pre, hrn, hn, HR, HQ, HV, HJP, HXP⟩ := hrel
    have c0 := cell_of HR.out 0 rfl
    have c2 := cell_of HQ.out 0 rfl
    have c3 := cell_of HV.out 0 rfl
    have g0 := frozen_of HR.out 0
    by_cases hi : Lib.indexByte r.data.toList 47 = -1
    · have hix := Tryd.strings_Index_one r 47 wr
      rw [hi] at hix
      have HIX := Lib.hid hix
      have hxe : xs = pre ++ [r] := by rw [HXP.out, splitB_none hi]
      obtain ⟨fn, tmps, assign, body, hy, hR⟩ := HY.out pre r wr HJP.out (by rw [hxe]; exact List.prefix_rfl)
      have HXE := Lib.hid hxe; have HR2 := Lib.hid hR
      clear hix hxe hR hi
      gi_wp2_with (first
        | ((try refine ⟨trivial, ?_⟩); (try refine ⟨rfl, ?_⟩); refine (callsIn_wide.2 HIX.out).mono ?_; rintro e w' ⟨rfl, rfl⟩)
        | ((try refine ⟨trivial, ?_⟩); (try refine ⟨rfl, ?_⟩); refine HR2.out.mono ?_; rintro e W' ⟨(⟨rfl, hj'⟩ | ⟨rfl, hj'⟩), -, -⟩))
      · go_end0
        exact ⟨⟨_, rfl⟩, .inl (by rw [HXE.out]; exact hj')⟩
      · go_end0
        exact ⟨⟨_, rfl⟩, .inr ⟨pre, r, by rw [HXE.out]; exact List.prefix_rfl, hj'⟩⟩
    · have hge := Lib.indexByte_ge r.data.toList 47
      obtain ⟨o, ho⟩ : ∃ o : Nat, Lib.indexByte r.data.toList 47 = o := ⟨(Lib.indexByte r.data.toList 47).toNat, by omega⟩
      have hlt := idx_lt ho
      have hix := Tryd.strings_Index_one r 47 wr
      rw [ho] at hix
      obtain ⟨m, rfl⟩ : ∃ m, n = m + 1 := ⟨n - 1, by omega⟩
      have hxe : xs = pre ++ (r.extract 0 o :: splitB m (r.extract (o + 1) r.size)) := by rw [HXP.out, splitB_some ho]
      have hpre : pre ++ [r.extract 0 o] <+: xs := by rw [hxe]; exact ⟨splitB m (r.extract (o + 1) r.size), by simp⟩
      obtain ⟨fn, tmps, assign, body, hy, hR⟩ := HY.out pre (r.extract 0 o) wr HJP.out hpre
      have hsz2 : (r.extract (o + 1) r.size).size = r.size - (o + 1) := by
        rw [Lib.size_eq, Lib.extract_data, List.length_take, List.length_drop, ← Lib.size_eq]; omega
      have hR3 := hR.mono (R' := fun e W' => (e = .returned (.bool true) ∧ J (pre ++ [r.extract 0 o]) W' ∧ W'.heap[sb]? = some (.cells #[.string r] 9 (0, 0)) ∧ W'.heap[pb]? = some (.cells #[.string ⟨#[47]⟩] 9 (0, 0)) ∧ W'.heap[vb]? = some (.cells #[.int .i64 0] 3 (0, 0)) ∧ W'.cell? ⟨sb, 0, none⟩ = some (.string r) ∧ W'.cell? ⟨pb, 0, none⟩ = some (.string ⟨#[47]⟩) ∧ W'.frozen? ⟨sb, 0, none⟩ = false) ∨ (e = .returned (.bool false) ∧ Jx (pre ++ [r.extract 0 o]) W')) (by
        rintro e W' ⟨(⟨he, hj⟩ | ⟨he, hj⟩), -, hk⟩
        · have k1 := (hk sb (.inl rfl)).trans HR.out
          have k2 := (hk pb (.inr (.inl rfl))).trans HQ.out
          exact .inl ⟨he, hj, k1, k2, (hk vb (.inr (.inr rfl))).trans HV.out, cell_of k1 0 rfl, cell_of k2 0 rfl, frozen_of k1 0⟩
        · exact .inr ⟨he, hj⟩)
      have HIX := Lib.hid hix; have HXE := Lib.hid hxe; have HR2 := Lib.hid hR3; have HPRE := Lib.hid hpre
      clear hix hxe hR hR3 hpre hi ho hge
      gi_wp2_with (first
        | ((try refine ⟨trivial, ?_⟩); (try refine ⟨rfl, ?_⟩); refine (callsIn_wide.2 HIX.out).mono ?_; rintro e w' ⟨rfl, rfl⟩)
        | ((try refine ⟨trivial, ?_⟩); (try refine ⟨rfl, ?_⟩); refine HR2.out.mono ?_; rintro e W' (⟨rfl, hj', k1, k2, k3, d1, d2, f1⟩ | ⟨rfl, hj'⟩)))
      · have hc : Chg (fun k => k = sb ∨ k = pb ∨ k = vb) W' (W'.setCell ⟨sb, 0, none⟩ (.string (r.extract (o + 1) r.size))) := (Chg.refl _ W').setCell (.inl (.inl rfl)) _
        refine ⟨⟨m, r.extract (o + 1) r.size, pre ++ [r.extract 0 o], by omega, by omega, Lib.hid (set_of k1 0 _), Lib.hid ?_, Lib.hid ?_, Lib.hid (HJ.out _ _ _ hj' hc), Lib.hid ?_⟩, ?_⟩
        · rw [Below.heap_setCell _ _ _ _ (Ne.symm hsp)]; exact k2
        · rw [Below.heap_setCell _ _ _ _ (Ne.symm hsv)]; exact k3
        · rw [HXE.out, List.append_assoc]; rfl
        · rw [World.cell?_setCell_same' _ _ _ (by rw [d1]; rfl), c0]
          simp only
          show (r.extract (o + 1) r.size).size < r.size
          omega
      · (try simp only [Exit.inBlock, Exit.then])
        refine bodyPost_ret (results_none rfl _ _ _) rfl ?_
        exact ⟨⟨_, rfl⟩, .inr ⟨pre, _, HPRE.out, hj'⟩⟩

end Go.Proofs.YtgnbgjdkhnhlkaaDoor
