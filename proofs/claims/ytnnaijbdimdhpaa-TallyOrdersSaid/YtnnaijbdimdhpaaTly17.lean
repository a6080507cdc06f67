/-
  tally.Poly and the reference's Points where something is wrong.
-/
import Derived.Test.YtnnaijbdimdhpaaTly16
namespace Go.Proofs.Ytnnaijbdimdhpaa
open Go.RowKit Go.Shelf
set_option linter.unusedVariables false
attribute [local go_sem] Oper.semAt_some

/-- what is wrong with a prime, how many coefficients, and keys -/
def pointsE (p k : Int) (L : List Int) : Int :=
  if ¬ p ∈ [(2 : Int), 3, 5, 7] ∨ k < 1 ∨ 4 < k ∨ L.length < 1 ∨ k < (L.length : Int) then 1 else if ∃ x ∈ L, p ≤ x then 2 else if ¬ L.Nodup then 15 else 0
theorem pointsE_one {p k : Int} {L : List Int} (h : ¬ p ∈ [(2 : Int), 3, 5, 7] ∨ k < 1 ∨ 4 < k ∨ L.length < 1 ∨ k < (L.length : Int)) : pointsE p k L = 1 := if_pos h
theorem pointsE_zero {p k : Int} {L : List Int} (h : pointsE p k L = 0) (hL : ∀ x ∈ L, 0 ≤ x) : ∃ (q m : Nat) (xs : List Nat), p = q ∧ k = m ∧ L = castL xs ∧ smallP q ∧ 1 ≤ m ∧ m ≤ 4 ∧ 1 ≤ xs.length ∧ xs.length ≤ m ∧ (∀ x ∈ xs, x < q) ∧ xs.Nodup := by
  unfold pointsE at h
  split at h
  · omega
  · split at h
    · omega
    · split at h
      · omega
      · rename_i h1 h2 h3
        have hp : p ∈ [(2 : Int), 3, 5, 7] := by
          refine Decidable.byContradiction fun hn => h1 (.inl hn)
        have h1' : 1 ≤ k ∧ k ≤ 4 ∧ 1 ≤ L.length ∧ (L.length : Int) ≤ k := by omega
        have hcast : L = castL (L.map Int.toNat) := by
          unfold castL
          rw [List.map_map]
          refine (List.map_id'' (fun _ => rfl) L).symm.trans ?_
          exact List.map_congr_left fun x hx => by have := hL x hx; simp; omega
        have hp' : 0 ≤ p ∧ smallP p.toNat := by
          simp only [List.mem_cons, List.not_mem_nil, or_false] at hp
          unfold smallP
          omega
        refine ⟨p.toNat, k.toNat, L.map Int.toNat, by omega, by omega, hcast, hp'.2, by omega, by omega, by rw [List.length_map]; exact h1'.2.2.1, by rw [List.length_map]; omega, ?_, ?_⟩
        · intro x hx
          obtain ⟨y, hy, rfl⟩ := List.mem_map.1 hx
          have := hL y hy
          refine Decidable.byContradiction fun hn => h2 ⟨y, hy, by omega⟩
        · have hnd : L.Nodup := Decidable.byContradiction fun hn => h3 hn
          rw [hcast] at hnd
          exact List.Pairwise.of_map _ (fun a b h e => h (by rw [e])) hnd

theorem mem4 (p : Int) : decide (p ∈ [(2 : Int), 3, 5, 7]) = true ↔ p ∈ [(2 : Int), 3, 5, 7] := by simp

theorem smallP_facts {p : Nat} (hp : smallP p) : p ≤ 7 ∧ 1 ≤ p ∧ decide ((p : Int) ∈ [(2 : Int), 3, 5, 7]) = true := by
  unfold smallP at hp
  refine ⟨by omega, by omega, decide_eq_true ?_⟩
  simp only [List.mem_cons, List.not_mem_nil, or_false]
  omega
theorem take_nodup_succ {L : List Int} {j : Nat} (hj : j < L.length) (h : (L.take j).Nodup) (hn : L.getD j 0 ∉ L.take j) : (L.take (j + 1)).Nodup := by
  rw [List.take_add_one, List.getElem?_eq_getElem hj]
  have hg : L.getD j 0 = L[j] := by simp [List.getD, List.getElem?_eq_getElem hj]
  rw [hg] at hn
  refine List.nodup_append.2 ⟨h, by simp, ?_⟩
  intro a ha b hb
  simp only [Option.toList_some, List.mem_singleton] at hb
  subst hb
  intro e
  exact hn (e ▸ ha)
theorem take_dup {L : List Int} {j : Nat} (hj : j < L.length) (hn : L.getD j 0 ∈ L.take j) : ¬ L.Nodup := by
  intro h
  have h1 : (L.take (j + 1)).Nodup := h.sublist (List.take_sublist _ _)
  rw [List.take_add_one, List.getElem?_eq_getElem hj] at h1
  have hg : L.getD j 0 = L[j] := by simp [List.getD, List.getElem?_eq_getElem hj]
  exact (List.nodup_append.1 h1).2.2 _ hn L[j] (by simp) hg

/-- Poly's first three blocks -/
theorem poly_head (p : Int) (v : Value) (w : World) : ∃ W, W = ((w.alloc (.cells #[.int .u64 p] 22)).alloc (.cells #[v] 24)).alloc (.cells #[.int .u64 2, .int .u64 3, .int .u64 5, .int .u64 7] 22) ∧ W.heap.size = w.heap.size + 1 + 1 + 1 ∧
    W.heap[w.heap.size]? = some (.cells #[.int .u64 p] 22 (0, 0)) ∧ W.heap[w.heap.size + 1]? = some (.cells #[v] 24 (0, 0)) ∧ Below w.heap.size w W ∧
    Calls Try.prog 52 #[.slice (some ⟨w.heap.size + 1 + 1, 0, none⟩) 4 4, .int .u64 p] W fun e w' => e = .returned (.bool (decide (p ∈ [(2 : Int), 3, 5, 7]))) ∧ w' = W := by
  obtain ⟨W1, e1, s1, n1, k1⟩ := alloc_facts w (.cells #[.int .u64 p] 22)
  obtain ⟨W2, e2, s2, n2, k2⟩ := alloc_facts W1 (.cells #[v] 24)
  obtain ⟨W3, e3, s3, n3, k3⟩ := alloc_facts W2 (.cells #[.int .u64 2, .int .u64 3, .int .u64 5, .int .u64 7] 22)
  rw [s1] at n2 s2
  rw [s2] at n3 s3
  have hb3 : Below w.heap.size w W3 := by
    rw [e3, e2, e1]
    exact (((Below.refl _ w).alloc (Nat.le_refl _) _).alloc (by simp) _).alloc (by simp; omega) _
  have hrd : Rd W3 1 (.slice (some ⟨w.heap.size + 1 + 1, 0, none⟩) 4 4) 4 (u64s [2, 3, 5, 7]) := by
    refine ⟨rfl, by unfold maxLen; omega, _, _, rfl, Nat.le_refl _, .inr ⟨_, 0, rfl, fun i u hu => ?_⟩⟩
    exact cell_of n3 _ (by simpa [u64s] using hu)
  exact ⟨W3, by rw [e3, e2, e1], s3, (k3 _ (by omega)).trans ((k2 _ (by omega)).trans n1), (k3 _ (by omega)).trans n2, hb3, ucontains_any [2, 3, 5, 7] _ 4 p W3 hrd (by omega)⟩

set_option maxRecDepth 100000 in
set_option maxHeartbeats 2000000 in
/-- what tally.Poly says first -/
theorem poly_bad1 (p k : Int) (sa : Option Addr) (n cap : Nat) (w : World) (hn : n ≤ maxLen) (hp0 : 0 ≤ p ∧ p < 18446744073709551616) (h : ¬ p ∈ [(2 : Int), 3, 5, 7] ∨ k < 1 ∨ 4 < k ∨ n < 1 ∨ k < (n : Int)) :
    Calls Try.prog 24 #[.int .u64 p, .int .i64 k, .slice sa n cap] w fun e w' => e = .returned (.tuple #[.slice none 0 0, .int .i64 1]) ∧ Below w.heap.size w w' := by
  obtain ⟨W, hW, _, _, _, hb, hC⟩ := poly_head p (.slice sa n cap) w
  have HB := Lib.hid hb
  subst hW
  have n0 : (0 : Int) ≤ (n : Int) := by omega
  have hnb : (n : Int) ≤ 9223372036854775807 := by unfold maxLen at hn; omega
  clear hb
  by_cases hp : p ∈ [(2 : Int), 3, 5, 7]
  · have hd : decide (p ∈ [(2 : Int), 3, 5, 7]) = true := decide_eq_true hp
    rw [hd] at hC
    have h' : k < 1 ∨ 4 < k ∨ n < 1 ∨ k < (n : Int) := by rcases h with h | h; exact absurd hp h; exact h
    clear hp hd h
    by_cases h1 : k < 1
    · clear h'
      go_enter Try.func24, Try.ntmps24
      go_wp2_with (refine hC.mono ?_; rintro e w' ⟨rfl, rfl⟩)
      exact bodyPost_ret (results_tmp2 rfl _ _ _) rfl ⟨rfl, HB.out⟩
    by_cases h2 : 4 < k
    · clear h'
      go_enter Try.func24, Try.ntmps24
      go_wp2_with (refine hC.mono ?_; rintro e w' ⟨rfl, rfl⟩)
      exact bodyPost_ret (results_tmp2 rfl _ _ _) rfl ⟨rfl, HB.out⟩
    by_cases h3 : n < 1
    · clear h'
      obtain rfl : n = 0 := by omega
      go_enter Try.func24, Try.ntmps24
      go_wp2_with (refine hC.mono ?_; rintro e w' ⟨rfl, rfl⟩)
      exact bodyPost_ret (results_tmp2 rfl _ _ _) rfl ⟨rfl, HB.out⟩
    have h4 : k < (n : Int) := by omega
    clear h'
    go_enter Try.func24, Try.ntmps24
    go_wp2_with (refine hC.mono ?_; rintro e w' ⟨rfl, rfl⟩)
    exact bodyPost_ret (results_tmp2 rfl _ _ _) rfl ⟨rfl, HB.out⟩
  · have hd : decide (p ∈ [(2 : Int), 3, 5, 7]) = false := decide_eq_false hp
    rw [hd] at hC
    clear hp hd h
    go_enter Try.func24, Try.ntmps24
    go_wp2_with (refine hC.mono ?_; rintro e w' ⟨rfl, rfl⟩)
    exact bodyPost_ret (results_tmp2 rfl _ _ _) rfl ⟨rfl, HB.out⟩

end Go.Proofs.Ytnnaijbdimdhpaa
