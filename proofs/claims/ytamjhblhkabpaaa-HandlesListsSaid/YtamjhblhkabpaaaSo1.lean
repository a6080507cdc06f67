/-
  cmp.Less at words; insertion sort of few distinct words.
-/
import Derived.Test.YtamjhblhkabpaaaSoP
import Derived.Test.YtamjhblhkabpaaaBs
namespace Go.Proofs.Ytamjhblhkabpaaa
open Go.RowKit
set_option linter.unusedVariables false
set_option linter.unusedSimpArgs false

theorem isNaNU_any (x : Int) (w : World) : Calls Try.prog 43 #[.int .u64 x] w fun e w' => e = .returned (.bool false) ∧ w' = w := by
  go_enter Try.func43, Try.ntmps43
  go_wp2
  go_ret
  exact ⟨by simp, rfl⟩
theorem lessU_any (x y : Int) (w : World) : Calls Try.prog 33 #[.int .u64 x, .int .u64 y] w fun e w' => e = .returned (.bool (decide (x < y))) ∧ w' = w := by
  go_enter Try.func33, Try.ntmps33
  go_wp2_with (refine (isNaNU_any _ _).mono ?_; rintro e w' ⟨rfl, rfl⟩)
  go_ret
  exact ⟨by simp, rfl⟩

/-- the row of words that is sorted -/
def RowU (w : World) (g n cap : Nat) (L : List Int) : Prop := w.ownsRow 0 28 1 (.slice (some ⟨g, 0, none⟩) n cap) n (u64s L)
theorem RowU.ptr {w : World} {g n cap : Nat} {L : List Int} (h : RowU w g n cap L) (hn : 0 < n) : n = L.length ∧ g < w.heap.size ∧ n ≤ cap ∧ (∀ i, i < L.length → w.cell? ⟨g, i, none⟩ = some (.int .u64 (L.getD i 0))) ∧ ∀ i, w.frozen? ⟨g, i, none⟩ = false := by
  obtain ⟨g', e, h1, h2, h3, h4, h5⟩ := row_ptr h hn
  cases e
  exact ⟨(rd_of_row h).len_u64, h2, h3, fun i hi => h4 i _ (u64s_at L i hi), h5⟩
theorem RowU.swap {w : World} {g n cap i j : Nat} {L : List Int} (h : RowU w g n cap L) (hi : i < n) (hj : j < n) : RowU ((w.setCell ⟨g, i, none⟩ (.int .u64 (L.getD j 0))).setCell ⟨g, j, none⟩ (.int .u64 (L.getD i 0))) g n cap (swp L i j) := by
  have h1 := row_set h (i := i) hi (.int .u64 (L.getD j 0))
  have h2 := row_set h1 (i := j) hj (.int .u64 (L.getD i 0))
  rw [← u64s_set, ← u64s_set] at h2
  exact h2
theorem RowU.same {w w' : World} {g n cap : Nat} {L : List Int} (h : RowU w g n cap L) (hk : w'.heap[g]? = w.heap[g]?) : RowU w' g n cap L := row_kept h fun b hb => by cases hb; exact hk
theorem RowU.drew {w : World} {g n cap : Nat} {L : List Int} (h : RowU w g n cap L) : RowU w.drew g n cap L := h.same rfl
theorem RowU.drewN {w : World} {g n cap : Nat} {L : List Int} (h : RowU w g n cap L) (q : Nat) : RowU (w.drewN q) g n cap L := h.same (by rw [drewN_heap])

/-- insertion's inside: from a up to i it rises but at j, which goes down -/
def Ins (a j i : Nat) (L : List Int) : Prop := (∀ s t, a ≤ s → s < t → t ≤ i → s ≠ j → t ≠ j → L.getD s 0 < L.getD t 0) ∧ ∀ t, j < t → t ≤ i → L.getD j 0 < L.getD t 0
theorem ins_start {a i : Nat} {L : List Int} (h : Rise a i L) : Ins a i i L := ⟨fun s t h1 h2 h3 _ h5 => h s t h1 h2 (by omega), fun t h1 h2 => by omega⟩
theorem ins_step {a j i : Nat} {L : List Int} (h : Ins a (j + 1) i L) (ha : a ≤ j) (hj : j + 1 ≤ i) (hi : i < L.length) (hlt : L.getD (j + 1) 0 < L.getD j 0) : Ins a j i (swp L (j + 1) j) := by
  have g : ∀ t, (swp L (j + 1) j).getD t 0 = if t = j then L.getD (j + 1) 0 else if t = j + 1 then L.getD j 0 else L.getD t 0 := fun t => swp_get L (j + 1) j t (by omega) (by omega)
  refine ⟨fun s t h1 h2 h3 h4 h5 => ?_, fun t h1 h2 => ?_⟩
  · rw [g s, g t, if_neg h4, if_neg h5]
    by_cases e1 : s = j + 1
    · rw [if_pos e1, if_neg (by omega)]
      exact h.1 j t ha (by omega) h3 (by omega) (by omega)
    · rw [if_neg e1]
      by_cases e2 : t = j + 1
      · rw [if_pos e2]
        exact h.1 s j h1 (by omega) (by omega) (by omega) (by omega)
      · rw [if_neg e2]
        exact h.1 s t h1 h2 h3 e1 e2
  · rw [g j, g t, if_pos rfl, if_neg (by omega)]
    by_cases e2 : t = j + 1
    · rw [if_pos e2]; exact hlt
    · rw [if_neg e2]; exact h.2 t (by omega) h2
theorem ins_stop {a j i : Nat} {L : List Int} (h : Ins a j i L) (ha : a ≤ j) (hs : j = a ∨ L.getD (j - 1) 0 < L.getD j 0) : Rise a (i + 1) L := by
  intro s t h1 h2 h3
  by_cases e1 : s = j
  · subst e1; exact h.2 t h2 (by omega)
  · by_cases e2 : t = j
    · subst e2
      rcases hs with hs | hs
      · omega
      · by_cases e3 : s = t - 1
        · rw [e3]; exact hs
        · have := h.1 s (t - 1) h1 (by omega) (by omega) e1 (by omega)
          omega
    · exact h.1 s t h1 h2 (by omega) e1 e2

set_option maxRecDepth 100000 in
set_option maxHeartbeats 4000000 in
theorem insU_any (w : World) (g n cap a b : Nat) (L : List Int) (h : RowU w g n cap L) (hnd : L.Nodup) (hab : a ≤ b) (hb : b ≤ n) (hn : 0 < n) (h16 : n ≤ 16) :
    Calls Try.prog 27 #[.slice (some ⟨g, 0, none⟩) n cap, .int .i64 a, .int .i64 b] w fun e w' => e = .returned (.tuple #[]) ∧ ∃ L', Seg a b L L' ∧ Rise a b L' ∧ RowU w' g n cap L' ∧ Chg (fun k => k = g) w w' := by
  have HND := Lib.hid hnd; have HR := Lib.hid h
  clear hnd h
  go_enter Try.func27, Try.ntmps27
  go_wp2
  go_loopw [6, 7] (fun i _ wr => ∃ (i' : Nat) (L' : List Int), a + 1 ≤ i' ∧ (i' ≤ b ∨ i' = a + 1) ∧ i = .int .i64 i' ∧ Hid (Seg a b L L') ∧ Hid (Rise a i' L') ∧ Hid (RowU wr g n cap L') ∧ Hid (Chg (fun k => k = g) w wr)) (fun i _ _ => b - (intOf i).toNat)
  case atStart => exact ⟨a + 1, L, by omega, by omega, rfl, Seg.refl _ _ _, fun i j h1 h2 h3 => by omega, HR, Chg.refl _ _⟩
  case round =>
    obtain ⟨i, L1, hi1, hi2, rfl, HS, HRI, HRW, HC⟩ := hrel
    by_cases hlt : i < b
    · have hLn : L1.length = n := by have := (HRW.out.ptr hn).1; omega
      go_wp2
      go_loopw [7] (fun u w2 => ∃ (j : Nat) (L2 : List Int), a ≤ j ∧ j ≤ i ∧ u = .int .i64 j ∧ Hid (Seg a b L L2) ∧ Hid (Ins a j i L2) ∧ Hid (RowU w2 g n cap L2) ∧ Hid (Chg (fun k => k = g) w w2)) (fun u _ => (intOf u).toNat - a)
      case atStart => exact ⟨i, L1, by omega, Nat.le_refl _, rfl, HS, ins_start HRI.out, HRW, HC⟩
      case round =>
        clear HS HRI HRW HC hLn
        obtain ⟨j, L2, hj1, hj2, rfl, HS, HI, HRW, HC⟩ := hrel
        by_cases hja : a < j
        · obtain ⟨j, rfl⟩ : ∃ j', j = j' + 1 := ⟨j - 1, by omega⟩
          obtain ⟨hLn, hg, hcap, hcell, hfz⟩ := HRW.out.ptr hn
          have c1 := hcell (j + 1) (by omega)
          have c2 := hcell j (by omega)
          have f1 := hfz (j + 1)
          have f2 := hfz j
          have e1 : (j : Int) + 1 - 1 = (j : Int) := by omega
          have u1 : IntKind.i64.wrap (j : Int) = (j : Int) := by rw [IntKind.wrap_i64]; omega
          have z0 : (a : Int) < (j : Int) + 1 := by omega
          have z1 : (j : Int) + 1 < (n : Int) := by omega
          have z2 : (j : Int) < (n : Int) := by omega
          have z3 : (0 : Int) ≤ (j : Int) := by omega
          have z4 : (0 : Int) ≤ (j : Int) + 1 := by omega
          have hLL := fun W => lessU_any (L2.getD (j + 1) 0) (L2.getD j 0) W
          by_cases hlt2 : L2.getD (j + 1) 0 < L2.getD j 0
          · rw [decide_eq_true hlt2] at hLL
            have hs2 := fun q => (HRW.out.drewN q).swap (i := j + 1) (j := j) (by omega) (by omega)
            have hI2 := ins_step HI.out (by omega) hj2 (by omega) hlt2
            have hS2 := HS.out.trans (seg_swp (a := a) (b := b) (i := j + 1) (j := j) (HS.out.nodup HND.out) (by omega) (by omega) (by omega))
            generalize L2.getD (j + 1) 0 = x at *
            generalize L2.getD j 0 = y at *
            have HLL := Lib.hid hLL; have HS2 := Lib.hid hs2; have HI2 := Lib.hid hI2; have HSG := Lib.hid hS2
            clear hcell hfz hLL hlt2 hs2 hI2 hS2 hLn
            go_wp2
            go_quiet ((go_at_call 33; exact Calls.quiet_of_same (HLL.out _)))
            go_wp2
            go_region
            go_wp2
            go_roundw
            case rel => exact ⟨j, _, by omega, by omega, rfl, HSG, HI2, HS2.out _, ((HC.out.drewN _).setCell (.inl rfl) _).setCell (.inl rfl) _⟩
            case measure => simp [intOf]; omega
          · have hne : L2.getD j 0 < L2.getD (j + 1) 0 := by
              by_cases he : L2.getD j 0 = L2.getD (j + 1) 0
              · have := nodup_inj (HS.out.nodup HND.out) (by omega) (by omega) he
                omega
              · omega
            have hR := ins_stop HI.out (by omega) (.inr hne)
            rw [decide_eq_false hlt2] at hLL
            generalize L2.getD (j + 1) 0 = x at *
            generalize L2.getD j 0 = y at *
            have HLL := Lib.hid hLL; have HRI := Lib.hid hR
            clear hcell hfz hLL hlt2 hne hR hLn f1 f2
            go_wp2
            go_quiet ((go_at_call 33; exact Calls.quiet_of_same (HLL.out _)))
            go_wp2
            go_roundw
            case rel => exact ⟨i + 1, L2, by omega, by omega, by go_num, HS, HRI, HRW.out.drewN _, HC.out.drewN _⟩
            case measure => simp [intOf]; omega
        · obtain rfl : j = a := by omega
          have hR := ins_stop HI.out (Nat.le_refl _) (.inl rfl)
          have HRI := Lib.hid hR
          clear hR
          go_wp2
          go_quiet (fail)
          go_wp2
          go_roundw
          case rel => exact ⟨i + 1, L2, by omega, by omega, by go_num, HS, HRI, HRW.out.drewN _, HC.out.drewN _⟩
          case measure => simp [intOf]; omega
    · go_wp2
      go_end0
      refine ⟨rfl, L1, HS.out, ?_, HRW.out, HC.out⟩
      exact fun s t h1 h2 h3 => HRI.out s t h1 h2 (by omega)

end Go.Proofs.Ytamjhblhkabpaaa
