/-
  tally.words: all numbers of so many bits: the iterator's contract.
-/
import Derived.Test.YtnnaijbdimdhpaaTly1
namespace Go.Proofs.Ytnnaijbdimdhpaa
open Go.RowKit Go.Shelf
set_option linter.unusedVariables false
attribute [local go_sem] Oper.semAt_some

set_option maxHeartbeats 1000000 in
theorem lists_any (sa : Option Addr) (n cap : Nat) (w : World) : Calls Try.prog 49 #[.slice sa n cap] w fun e w' => e = .returned (.func (.func 77) #[] #[.pointer (some ⟨w.heap.size, 0, none⟩)]) ∧ w' = w.alloc (.cells #[.slice sa n cap] 24) := by
  go_enter Try.func49, Try.ntmps49
  go_wp2
  go_ret
  exact ⟨rfl, rfl⟩

set_option maxHeartbeats 1000000 in
theorem twords_any (n : Int) (w : World) : Calls Try.prog 51 #[.int .i64 n] w fun e w' => e = .returned (.func (.func 79) #[] #[.pointer (some ⟨w.heap.size, 0, none⟩)]) ∧ w' = w.alloc (.cells #[.int .i64 n] 3) := by
  go_enter Try.func51, Try.ntmps51
  go_wp2
  go_ret
  exact ⟨rfl, rfl⟩

theorem allL_one' (n : Nat) : allL [(n : Int)] = (List.range n).map fun x => [((x : Nat) : Int)] := by
  have : ∀ l : List Nat, (l.flatMap fun x => [[((x : Nat) : Int)]]) = l.map fun x => [((x : Nat) : Int)] := by
    intro l
    induction l with
    | nil => rfl
    | cons x l ih => rw [List.flatMap_cons, ih]; rfl
  simpa only [allL, List.map_cons, List.map_nil, Int.toNat_natCast] using this (List.range n)

theorem allL_head (n : Nat) : (allL [(n : Int)]).map (fun x => (x.getD 0 0).toNat) = List.range n := by
  rw [allL_one', List.map_map]
  exact List.map_id'' (fun x => by simp) _

theorem sBlk_some {b off n cap k : Nat} (h : sBlk (.slice (some ⟨b, off, none⟩) n cap) = some k) : k = b := by cases h; rfl

set_option maxRecDepth 100000 in
set_option maxHeartbeats 2000000 in
/-- the iterator that tally.words gives -/
theorem words_gives (Lb n : Nat) (w : World) (hn1 : 1 ≤ n) (hn : n ≤ 12) (hLb : w.cell? ⟨Lb, 0, none⟩ = some (.int .i64 n)) :
    GivesOwn Try.prog 79 #[.pointer (some ⟨Lb, 0, none⟩)] (fun (x : Nat) _ => .int .u64 x) (fun _ _ _ => True) (List.range (2 ^ n)) 9 (fun _ => False) w := by
  intro l J W hW hJ hY h0
  have hLs : Lb < w.heap.size := World.block_lt_of_cell? _ _ hLb
  have hsz := hW.size
  have hlb0 : W.cell? ⟨Lb, 0, none⟩ = some (.int .i64 n) := cell_same hLb (hW.block _ hLs)
  have hlb1 : ∀ o, (W.alloc o).cell? ⟨Lb, 0, none⟩ = some (.int .i64 n) := fun o => cell_same hlb0 (Below.heap_alloc _ _ _ (by omega))
  obtain ⟨N, hN⟩ : ∃ N, N = 2 ^ n := ⟨_, rfl⟩
  have hN64 : N ≤ 4096 := by rw [hN]; exact Nat.pow_le_pow_right (j := 12) (by omega) hn
  have hpw : IntKind.u64.wrap ((2 : Int) ^ n) = (N : Int) := by
    rw [show ((2 : Int) ^ n) = (N : Int) by rw [hN]; simp, IntKind.wrap_u64]; omega
  rw [← hN] at hY ⊢
  clear hN
  obtain ⟨W1, e1, s1, n1, k1⟩ := alloc_facts W (.cells #[.func (.yield l) #[] #[]] 84)
  obtain ⟨W2, e2, s2, n2, k2⟩ := alloc_facts W1 (.cells #[.int .u64 (N : Int)] 22)
  obtain ⟨W3, e3, s3, n3, k3⟩ := alloc_facts W2 (.cells #[.slice (some ⟨W.heap.size + 1, 0, none⟩) 1 1] 24)
  have hc3 : Chg (fun k => W.heap.size ≤ k ∧ k < W.heap.size + 9) W W3 := by
    rw [e3, e2, e1]; exact ((Chg.refl _ W).alloc _).alloc _ |>.alloc _
  have hy3 : W3.heap[W.heap.size]? = some (.cells #[.func (.yield l) #[] #[]] 84 (0, 0)) := (k3 _ (by omega)).trans ((k2 _ (by omega)).trans n1)
  rw [s1] at n2
  rw [s2, s1] at n3 s3
  have hrd3 : Rd W3 1 (.slice (some ⟨W.heap.size + 1, 0, none⟩) 1 1) 1 (u64s [(N : Int)]) := by
    refine ⟨rfl, by unfold maxLen; omega, _, _, rfl, Nat.le_refl _, .inr ⟨_, 0, rfl, fun i u hu => ?_⟩⟩
    exact cell_of ((k3 _ (by omega)).trans n2) _ (by simpa [u64s] using hu)
  have hg := lists_gives (W.heap.size + 1 + 1) 1 (.slice (some ⟨W.heap.size + 1, 0, none⟩) 1 1) [(N : Int)] W3 rfl (by omega) (by intro x hx; simp at hx; omega) (cell0_of n3) hrd3 (fun b hb => by have := sBlk_some hb; omega)
  refine callsIn_of_wp_marks Try.func79 rfl trivial ?_ rfl
  simp only [Try.ntmps79, List.size_toArray, List.length_cons, List.length_nil, Nat.reduceAdd, Nat.reduceSub, Array.replicate_succ, Array.replicate_zero, List.push_toArray, List.append_toArray, List.nil_append, List.cons_append]
  gi_wp2_with ((try refine ⟨trivial, ?_⟩); (try refine ⟨rfl, ?_⟩); refine (callsIn_wide.2 (lists_any _ _ _ _)).mono ?_; rintro e w' ⟨rfl, rfl⟩)
  rw [← e1, ← e2, ← e3]
  refine wp_range_own (gf := 77) (lb := #[.pointer (some ⟨W.heap.size + 1 + 1, 0, none⟩)]) rfl (enters_of Try.func77 (by kernel_rfl) rfl)
    (fun b hb => by have := hb.imp id sBlk_some; omega) hg rfl (fun x s A B h hk => h.keep fun b hb _ => by have := sBlk_some hb; exact hk _ (by omega) (by omega))
    (fun pre V => J (pre.map fun x => (x.getD 0 0).toNat) V ∧ V.heap[W.heap.size]? = some (.cells #[.func (.yield l) #[] #[]] 84 (0, 0)))
    ?hI ?h0 (fun x => { tmps := #[.func (.yield l) #[] #[], .pointer (some ⟨Lb, 0, none⟩), .pointer (some ⟨W.heap.size, 0, none⟩), .slice (some ⟨W.heap.size + 1 + 1 + 1 + 1 + 1 + 1, 0, none⟩) 1 1, .int .i64 n, .int .u64 N, .slice (some ⟨W.heap.size + 1, 0, none⟩) 1 1, .func (.func 77) #[] #[.pointer (some ⟨W.heap.size + 1 + 1, 0, none⟩)], .slice (some ⟨W.heap.size + 1 + 1 + 1 + 1 + 1 + 1, 0, none⟩) 1 1, undef, undef, undef, undef, undef, undef], defers := [] }) ?assign ?body ?done
  case hI =>
    rintro pre A B ⟨i1, i2⟩ hc
    exact ⟨hJ _ _ _ i1 (hc.mono fun k hk => by omega), (hc.block _ (block_lt i2) (by omega)).trans i2⟩
  case h0 => exact ⟨hJ _ _ _ h0 hc3, hy3⟩
  case assign =>
    intro l' x V K hK
    gi_wp2
    exact hK
  case body =>
    rintro l' pre x V ⟨i1, i2⟩ hpre hh hsV
    obtain ⟨m, rfl⟩ : ∃ m : Nat, x = [(m : Int)] := by
      have : x ∈ allL [(N : Int)] := hpre.subset (by simp)
      rw [allL_one'] at this
      obtain ⟨m, _, rfl⟩ := List.mem_map.1 this
      exact ⟨m, rfl⟩
    have hpre' : pre.map (fun x => (x.getD 0 0).toNat) ++ [m] <+: List.range N := by
      have := hpre.map (fun x => (x.getD 0 0).toNat)
      rw [allL_head, List.map_append] at this
      simpa using this
    have hcl : V.cell? ⟨W.heap.size + 1 + 1 + 1 + 1 + 1 + 1, 0, none⟩ = some (.int .u64 m) := by
      obtain ⟨b, off, e1, e2⟩ := hh.at (by omega)
      cases e1
      have := e2 0 _ (u64s_at _ 0 (by simp))
      rw [s3] at this
      simpa using this
    have hcy : V.cell? ⟨W.heap.size, 0, none⟩ = some (.func (.yield l) #[] #[]) := cell0_of i2
    obtain ⟨fn, tmps, assign, body, hy, hR⟩ := hY _ m V.drew (hJ _ _ _ i1 (Chg.refl _ V).drew) hpre' trivial
    have hmx : Try.prog.follows .mixedOrders = true := by kernel_rfl
    clear hY hJ h0 hpre hpre' hh hg hlb1
    gi_wp2
    gi_region_with_o ((try refine ⟨trivial, ?_⟩); (try refine ⟨rfl, ?_⟩); refine (RoundIn.mono (F := Fence.wide.inRound l') hR ?_); rintro e V' ⟨rfl, hj', hs', hb'⟩)
    all_goals gi_wp2
    all_goals (
      refine ⟨⟨by simpa using hj', (hb' _ (.inl (by omega)) (block_lt i2)).trans i2⟩, hs', fun k hk hkl => hb' k (.inl ?_) hkl⟩
      have := hk.imp id (fun h => h.imp id sBlk_some)
      omega)
  case done =>
    rintro V ⟨i1, i2⟩ hK
    rw [allL_head] at i1
    gi_wp2
    refine ⟨by simp, .inl ⟨_, _, rfl, run_takeDeferred hK, ?_⟩⟩
    exact ⟨_, results_none rfl _ _ _, ⟨_, rfl⟩, hJ _ _ _ i1 (chg_putObj _ _ _ (by omega))⟩

end Go.Proofs.Ytnnaijbdimdhpaa
