/-
  slices.Index, Contains, ContainsFunc, Backward, Repeat at words.
-/
import Derived.Test.YtnnaijbdimdhpaaRange2
import Derived.Test.YtnnaijbdimdhpaaTly13
import Derived.Laws.CopyOwn
import Derived.Shelf.Bits.Mul64
namespace Go.Proofs.Ytnnaijbdimdhpaa
open Go.RowKit Go.Shelf
set_option linter.unusedVariables false
attribute [local go_sem] Oper.semAt_some

set_option maxRecDepth 100000 in
set_option maxHeartbeats 1000000 in
theorem uindex_any (L : List Int) (v : Value) (n : Nat) (x : Int) (w : World) (hr : Rd w 1 v n (u64s L)) (hn : n ≤ 100000) :
    Calls Try.prog 80 #[v, .int .u64 x] w fun e w' => ∃ j : Int, e = .returned (.int .i64 j) ∧ (0 ≤ j ↔ x ∈ L) ∧ w' = w := by
  obtain rfl := hr.len_u64
  obtain ⟨sa, cap, rfl⟩ := hr.form
  go_enter Try.func80, Try.ntmps80
  go_wp2
  go_loop [5, 8] (fun u i => ∃ k : Nat, k ≤ L.length ∧ i = .int .i64 k ∧ Hid (∀ j, j < k → L.getD j 0 ≠ x)) (fun _ i => L.length - (intOf i).toNat)
  case atStart => exact ⟨0, Nat.zero_le _, rfl, fun j hj => by omega⟩
  case round =>
    obtain ⟨k, hk, rfl, HK⟩ := hrel
    by_cases hlt : k < L.length
    · obtain ⟨b, off, rfl, hcell⟩ := hr.at (by omega)
      have hc := hcell k _ (u64s_at L k hlt)
      obtain ⟨y, hy⟩ : ∃ y, y = L.getD k 0 := ⟨_, rfl⟩
      rw [← hy] at hc
      have hmem : y ∈ L := by rw [hy]; simp [List.getD, List.getElem?_eq_getElem hlt]
      have HY := Lib.hid hy
      have HR := Lib.hid hr
      clear hcell hy hr
      by_cases hx : x = y
      · have hxx : (x == y) = true := by simp [hx]
        have HX := Lib.hid hx
        have HM := Lib.hid hmem
        clear hx hmem
        go_wp2
        go_ret
        exact ⟨k, rfl, by rw [HX.out]; exact ⟨fun _ => HM.out, fun _ => by omega⟩, rfl⟩
      · have hxx : (x == y) = false := by simpa using hx
        have HX := Lib.hid hx
        clear hx hmem
        go_wp2
        go_round
        case rel =>
          refine ⟨k + 1, by omega, by go_num, fun j hj => ?_⟩
          by_cases hjk : j = k
          · subst hjk; rw [← HY.out]; exact fun h => HX.out h.symm
          · exact HK.out j (by omega)
        case measure => simp [intOf]; omega
    · obtain rfl : k = L.length := by omega
      go_wp2
      go_ret
      refine ⟨-1, rfl, ⟨fun h => by omega, fun h => ?_⟩, rfl⟩
      obtain ⟨j, hj, he⟩ := List.mem_iff_getElem.1 h
      exact (HK.out j hj (by simp [List.getD, List.getElem?_eq_getElem hj, he])).elim

set_option maxHeartbeats 1000000 in
theorem ucontains_any (L : List Int) (v : Value) (n : Nat) (x : Int) (w : World) (hr : Rd w 1 v n (u64s L)) (hn : n ≤ 100000) :
    Calls Try.prog 52 #[v, .int .u64 x] w fun e w' => e = .returned (.bool (decide (x ∈ L))) ∧ w' = w := by
  have hI := uindex_any L v n x w hr hn
  obtain ⟨sa, cap, rfl⟩ := hr.form
  go_enter Try.func52, Try.ntmps52
  go_wp2_with (refine hI.mono ?_; rintro e w' ⟨j, rfl, hj, rfl⟩; have HJ := Lib.hid hj; clear hj)
  go_ret
  exact ⟨ret_bool (decide_eq_decide.2 HJ.out), rfl⟩

set_option maxRecDepth 100000 in
set_option maxHeartbeats 1000000 in
/-- whether one of a list is at least p -/
theorem uover_any (L : List Int) (v : Value) (n pb : Nat) (p : Int) (w : World) (hr : Rd w 1 v n (u64s L)) (hn : n ≤ 100000) (hp : w.cell? ⟨pb, 0, none⟩ = some (.int .u64 p)) :
    Calls Try.prog 53 #[v, .func (.func 54) #[] #[.pointer (some ⟨pb, 0, none⟩)]] w fun e w' => e = .returned (.bool (decide (∃ x ∈ L, p ≤ x))) ∧ w' = w := by
  have hT : ∀ x : Int, Calls Try.prog 54 #[.int .u64 x, .pointer (some ⟨pb, 0, none⟩)] w fun e w' => e = .returned (.bool (decide (p ≤ x))) ∧ w' = w := by
    intro x
    go_enter Try.func54, Try.ntmps54
    go_wp2
    go_ret
    exact ⟨rfl, rfl⟩
  have hI : Calls Try.prog 81 #[v, .func (.func 54) #[] #[.pointer (some ⟨pb, 0, none⟩)]] w fun e w' => ∃ j : Int, e = .returned (.int .i64 j) ∧ (0 ≤ j ↔ ∃ x ∈ L, p ≤ x) ∧ w' = w := by
    obtain rfl := hr.len_u64
    obtain ⟨sa, cap, rfl⟩ := hr.form
    go_enter Try.func81, Try.ntmps81
    go_wp2
    go_loop [5, 8] (fun u i => ∃ k : Nat, k ≤ L.length ∧ i = .int .i64 k ∧ Hid (∀ j, j < k → L.getD j 0 < p)) (fun _ i => L.length - (intOf i).toNat)
    case atStart => exact ⟨0, Nat.zero_le _, rfl, fun j hj => by omega⟩
    case round =>
      obtain ⟨k, hk, rfl, HK⟩ := hrel
      by_cases hlt : k < L.length
      · obtain ⟨b, off, rfl, hcell⟩ := hr.at (by omega)
        have hc := hcell k _ (u64s_at L k hlt)
        obtain ⟨y, hy⟩ : ∃ y, y = L.getD k 0 := ⟨_, rfl⟩
        rw [← hy] at hc
        have hmem : y ∈ L := by rw [hy]; simp [List.getD, List.getElem?_eq_getElem hlt]
        have hTy := hT y
        have HY := Lib.hid hy
        have HR := Lib.hid hr
        have HM := Lib.hid hmem
        clear hcell hy hr hT hmem
        by_cases hx : p ≤ y
        · go_wp2_with ((try refine ⟨rfl, ?_⟩); refine hTy.mono ?_; rintro e w' ⟨rfl, rfl⟩)
          go_ret
          exact ⟨k, rfl, ⟨fun _ => ⟨y, HM.out, hx⟩, fun _ => by omega⟩, rfl⟩
        · go_wp2_with ((try refine ⟨rfl, ?_⟩); refine hTy.mono ?_; rintro e w' ⟨rfl, rfl⟩)
          go_round
          case rel =>
            refine ⟨k + 1, by omega, by go_num, fun j hj => ?_⟩
            by_cases hjk : j = k
            · subst hjk; rw [← HY.out]; omega
            · exact HK.out j (by omega)
          case measure => simp [intOf]; omega
      · obtain rfl : k = L.length := by omega
        go_wp2
        go_ret
        refine ⟨-1, rfl, ⟨fun h => by omega, fun ⟨x, h, hpx⟩ => ?_⟩, rfl⟩
        obtain ⟨j, hj, he⟩ := List.mem_iff_getElem.1 h
        have h1 := HK.out j hj
        rw [show L.getD j 0 = x by simp [List.getD, List.getElem?_eq_getElem hj, he]] at h1
        omega
  clear hT
  obtain ⟨sa, cap, rfl⟩ := hr.form
  go_enter Try.func53, Try.ntmps53
  go_wp2_with (refine hI.mono ?_; rintro e w' ⟨j, rfl, hj, rfl⟩; have HJ := Lib.hid hj; clear hj)
  go_ret
  exact ⟨ret_bool (decide_eq_decide.2 HJ.out), rfl⟩

set_option maxRecDepth 100000 in
set_option maxHeartbeats 1000000 in
theorem backward_any (sa : Option Addr) (n cap : Nat) (w : World) : Calls Try.prog 83 #[.slice sa n cap] w fun e w' => e = .returned (.func (.func 102) #[] #[.pointer (some ⟨w.heap.size, 0, none⟩)]) ∧ w' = w.alloc (.cells #[.slice sa n cap] 24) := by
  go_enter Try.func83, Try.ntmps83
  go_wp2
  go_ret
  exact ⟨rfl, rfl⟩

/-- those at places from k on -/
def backF (L : List Int) (k : Nat) : List (Nat × Int) := ((List.range L.length).reverse.take k).map fun i => (i, L.getD i 0)
theorem backF_succ (L : List Int) {k : Nat} (hk : k < L.length) : backF L (k + 1) = backF L k ++ [(L.length - 1 - k, L.getD (L.length - 1 - k) 0)] := by
  unfold backF
  have h1 : (List.range L.length).reverse[k]? = some (L.length - 1 - k) := by
    rw [List.getElem?_reverse (by simpa using hk), List.length_range, List.getElem?_range (by omega)]
  rw [List.take_add_one, List.map_append, h1]
  rfl
theorem backF_pre (L : List Int) (k : Nat) : backF L k <+: backF L L.length := by
  unfold backF
  have : (List.range L.length).reverse.take L.length = (List.range L.length).reverse := List.take_of_length_le (by simp)
  rw [this]
  exact (List.take_prefix _ _).map _

set_option maxRecDepth 100000 in
set_option maxHeartbeats 2000000 in
/-- the iterator that slices.Backward gives -/
theorem backward_gives (Lb n : Nat) (v : Value) (L : List Int) (w : World) (hn : n ≤ 100000) (hLb : w.cell? ⟨Lb, 0, none⟩ = some v) (hrd : Rd w 1 v n (u64s L)) (hlv : ∀ b, sBlk v = some b → b < w.heap.size) :
    GivesOwnV Try.prog 102 #[.pointer (some ⟨Lb, 0, none⟩)] (fun (x : Nat × Int) _ => #[.int .i64 x.1, .int .u64 x.2]) (fun _ _ _ => True) (backF L L.length) 0 (fun b => b = Lb ∨ sBlk v = some b) w := by
  intro l J W hW hJ hY h0
  obtain rfl := hrd.len_u64
  have hLs : Lb < w.heap.size := World.block_lt_of_cell? _ _ hLb
  have hsz := hW.size
  have hlb0 : W.cell? ⟨Lb, 0, none⟩ = some v := cell_same hLb (hW.block _ hLs)
  have hrd0 : Rd W 1 v L.length (u64s L) := hrd.keep fun b hb _ => hW.block _ (hlv b hb)
  obtain ⟨sa, cap, rfl⟩ := hrd.form
  have hlvW : ∀ b, sBlk (.slice sa L.length cap) = some b → b < W.heap.size := fun b hb => by have := hlv b hb; omega
  refine callsIn_of_wp Try.func102 rfl trivial ?_ rfl
  simp only [Try.ntmps102, List.size_toArray, List.length_cons, List.length_nil, Nat.reduceAdd, Nat.reduceSub, Array.replicate_succ, Array.replicate_zero, List.push_toArray, List.append_toArray, List.nil_append, List.cons_append]
  gi_wp2
  gi_loopw [3] (fun i wr => ∃ k : Nat, k ≤ L.length ∧ i = .int .i64 ((L.length : Int) - 1 - (k : Int)) ∧ Hid (J (backF L k) wr) ∧ Hid (wr.heap[Lb]? = W.heap[Lb]? ∧ (∀ b, sBlk (.slice sa L.length cap) = some b → wr.heap[b]? = W.heap[b]?) ∧ W.heap.size ≤ wr.heap.size)) (fun i _ => (intOf i + 1).toNat)
  case atStart => exact ⟨0, Nat.zero_le _, by simp, h0, rfl, fun _ _ => rfl, Nat.le_refl _⟩
  case round =>
    obtain ⟨k, hk, rfl, HJ2, HK⟩ := hrel
    have hcl : wr.cell? ⟨Lb, 0, none⟩ = some (.slice sa L.length cap) := cell_same hlb0 HK.out.1
    by_cases hlt : k < L.length
    · obtain ⟨i, hi⟩ : ∃ i, i = L.length - 1 - k := ⟨_, rfl⟩
      have hrdw : Rd wr 1 (.slice sa L.length cap) L.length (u64s L) := hrd0.keep fun b hb _ => HK.out.2.1 b hb
      obtain ⟨b, off, rfl, hcell⟩ := hrdw.at (by omega)
      have hc := hcell i _ (u64s_at L i (by omega))
      have hpre := backF_pre L (k + 1)
      rw [backF_succ L hlt, ← hi] at hpre
      obtain ⟨fn, tmps, assign, body, hy, hR⟩ := hY (backF L k) (i, L.getD i 0) wr HJ2.out hpre trivial
      generalize hx : L.getD i 0 = x at *
      have hiz : (L.length : Int) - 1 - (k : Int) = (i : Int) := by omega
      have hbs := backF_succ L hlt
      rw [← hi, hx] at hbs
      have HBS := Lib.hid hbs
      have hiL : i < L.length := by omega
      have HIK : Hid (i + 1 = L.length - k) := by show i + 1 = L.length - k; omega
      rw [hiz]
      clear hcell hY hJ h0 hpre hx hbs hrdw hrd hrd0 HJ2 hi hiz
      gi_wp2_with ((try refine ⟨rfl, ?_⟩); refine hR.mono ?_; rintro e W' ⟨rfl, hj', hs', hb'⟩)
      have hik := HIK.out
      refine ⟨⟨k + 1, by omega, by go_num, ?_, ?_⟩, ?_⟩
      · show J (backF L (k + 1)) _; rw [HBS.out]; exact hj'
      · exact ⟨(hb' _ (.inr (.inl rfl)) (by have := HK.out.2.2; omega)).trans HK.out.1, fun b hb => (hb' _ (.inr (.inr hb)) (by have := HK.out.2.2; have := hlvW b hb; omega)).trans (HK.out.2.1 b hb), Nat.le_trans HK.out.2.2 hs'⟩
      · simp [intOf] <;> omega
    · obtain rfl : k = L.length := by omega
      clear hJ hY h0
      gi_wp2
      go_end0
      exact ⟨⟨_, rfl⟩, HJ2.out⟩

end Go.Proofs.Ytnnaijbdimdhpaa
