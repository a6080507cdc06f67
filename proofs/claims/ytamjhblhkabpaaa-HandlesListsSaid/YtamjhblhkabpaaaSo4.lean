/-
  pdqsort's partition of few distinct words.
-/
import Derived.Test.YtamjhblhkabpaaaSo1
import Derived.Deep.CutBlock
import Derived.Deep.DeepCutAuto
namespace Go.Proofs.Ytamjhblhkabpaaa
open Go.RowKit
set_option linter.unusedVariables false
set_option linter.unusedSimpArgs false

/-- how far a partition has come: behind the pivot at a, up to i less, from j on greater -/
def Mid (a b i j : Nat) (L : List Int) : Prop := (∀ t, a < t → t < i → L.getD t 0 < L.getD a 0) ∧ ∀ t, j < t → t < b → L.getD a 0 < L.getD t 0
theorem mid_start (a b : Nat) (L : List Int) : Mid a b (a + 1) (b - 1) L := ⟨fun t h1 h2 => by omega, fun t h1 h2 => by omega⟩
theorem mid_up {a b i j : Nat} {L : List Int} (h : Mid a b i j L) (hx : L.getD i 0 < L.getD a 0) : Mid a b (i + 1) j L :=
  ⟨fun t h1 h2 => by
    by_cases e : t = i
    · rw [e]; exact hx
    · exact h.1 t h1 (by omega), h.2⟩
theorem mid_down {a b i j : Nat} {L : List Int} (h : Mid a b i (j + 1) L) (hx : L.getD a 0 < L.getD (j + 1) 0) : Mid a b i j L :=
  ⟨h.1, fun t h1 h2 => by
    by_cases e : t = j + 1
    · rw [e]; exact hx
    · exact h.2 t (by omega) h2⟩
theorem mid_swap {a b i j : Nat} {L : List Int} (h : Mid a b i j L) (ha : a < i) (hij : i < j) (hjb : j < b) (hb : b ≤ L.length) (h1 : L.getD a 0 < L.getD i 0) (h2 : L.getD j 0 < L.getD a 0) : Mid a b (i + 1) (j - 1) (swp L i j) := by
  have g : ∀ t, (swp L i j).getD t 0 = if t = j then L.getD i 0 else if t = i then L.getD j 0 else L.getD t 0 := fun t => swp_get L i j t (by omega) (by omega)
  refine ⟨fun t t1 t2 => ?_, fun t t1 t2 => ?_⟩
  · rw [g a, g t, if_neg (show ¬ a = j by omega), if_neg (show ¬ a = i by omega), if_neg (by omega)]
    by_cases e : t = i
    · rw [if_pos e]; exact h2
    · rw [if_neg e]; exact h.1 t t1 (by omega)
  · rw [g a, g t, if_neg (show ¬ a = j by omega), if_neg (show ¬ a = i by omega)]
    by_cases e : t = j
    · rw [if_pos e]; exact h1
    · rw [if_neg e, if_neg (by omega)]; exact h.2 t (by omega) t2
/-- the pivot set between -/
theorem mid_end {a b i j : Nat} {L : List Int} (h : Mid a b i j L) (hji : j + 1 = i) (haj : a ≤ j) (hjb : j < b) (hb : b ≤ L.length) : Parted a b j (swp L j a) := by
  have g : ∀ t, (swp L j a).getD t 0 = if t = a then L.getD j 0 else if t = j then L.getD a 0 else L.getD t 0 := fun t => swp_get L j a t (by omega) (by omega)
  refine ⟨fun t t1 t2 => ?_, fun t t1 t2 => ?_⟩
  · rw [g t, g j]
    by_cases e : j = a
    · omega
    · rw [if_neg e, if_pos rfl]
      by_cases e2 : t = a
      · rw [if_pos e2]; exact h.1 j (by omega) (by omega)
      · rw [if_neg e2, if_neg (by omega)]; exact h.1 t (by omega) (by omega)
  · rw [g t, g j, if_neg (show ¬ t = a by omega), if_neg (show ¬ t = j by omega)]
    by_cases e : j = a
    · rw [if_pos e, e]; exact h.2 t t1 t2
    · rw [if_neg e, if_pos rfl]; exact h.2 t t1 t2

set_option maxRecDepth 100000 in
set_option maxHeartbeats 4000000 in
theorem partitionU_any (w : World) (g n cap a b p : Nat) (L : List Int) (h : RowU w g n cap L) (hnd : L.Nodup) (hap : a ≤ p) (hpb : p < b) (hab : a + 2 ≤ b) (hb : b ≤ n) (h16 : n ≤ 16) :
    Calls Try.prog 35 #[.slice (some ⟨g, 0, none⟩) n cap, .int .i64 a, .int .i64 b, .int .i64 p] w fun e w' => ∃ (m : Nat) (r : Bool) (L' : List Int), e = .returned (.tuple #[.int .i64 m, .bool r]) ∧ a ≤ m ∧ m < b ∧ Seg a b L L' ∧ Parted a b m L' ∧ RowU w' g n cap L' ∧ Chg (fun k => k = g) w w' := by
  obtain ⟨hLn, hg, hcap, hcell, hfz⟩ := h.ptr (by omega)
  have ca := hcell a (by omega)
  have cp := hcell p (by omega)
  have fa := hfz a
  have fp := hfz p
  have hs0 := fun q => (h.drewN q).swap (i := a) (j := p) (by omega) (by omega)
  have hS0 := seg_swp (a := a) (b := b) (i := a) (j := p) hnd (by omega) (by omega) (by omega)
  have za : (a : Int) < (n : Int) := by omega
  have zp : (p : Int) < (n : Int) := by omega
  have ya : (0 : Int) ≤ (a : Int) := by omega
  have yp : (0 : Int) ≤ (p : Int) := by omega
  obtain ⟨L1, hL1⟩ : ∃ L1, L1 = swp L a p := ⟨_, rfl⟩
  rw [← hL1] at hs0 hS0
  generalize L.getD a 0 = x at *
  generalize L.getD p 0 = y at *
  obtain ⟨v2, hv2⟩ := cell?_setCell_some (w := w) (p := ⟨g, a, none⟩) (x := .int .u64 y) (q := ⟨g, p, none⟩) (v := .int .u64 y) cp
  have HS0 := Lib.hid hs0; have HSG := Lib.hid hS0; have HND := Lib.hid hnd
  clear hcell hfz hs0 hS0 hL1 hLn h hnd
  go_enter Try.func35, Try.ntmps35
  go_wp2_with fail
  go_region
  obtain ⟨W1, hW1⟩ : ∃ W1, W1 = ((w.setCell ⟨g, a, none⟩ (.int .u64 y)).setCell ⟨g, p, none⟩ (.int .u64 x)).drew := ⟨_, rfl⟩
  rw [← hW1]
  have HROW : Hid (RowU W1 g n cap L1) := by rw [hW1]; exact (HS0.out 0).drew
  have HCHG : Hid (Chg (fun k => k = g) w W1) := by rw [hW1]; exact (((Chg.refl (fun k => k = g) w).setCell (p := ⟨g, a, none⟩) (.inl rfl) _).setCell (p := ⟨g, p, none⟩) (.inl rfl) _).drew
  obtain ⟨jb, hj⟩ : ∃ j : Nat, (b : Int) - 1 = (j : Int) := ⟨b - 1, by omega⟩
  obtain ⟨i0, hi0⟩ : ∃ i0 : Nat, (a : Int) + 1 = (i0 : Int) := ⟨a + 1, by omega⟩
  have HMID : Hid (Mid a b i0 jb L1) := by
    have := mid_start a b L1
    rwa [show a + 1 = i0 by omega, show b - 1 = jb by omega] at this
  clear hW1 ca cp fa fp hv2 HS0
  go_upto_block 0 with fail
  go_cut [10] (fun s10 wx => ∃ i : Nat, s10 = .int .i64 i ∧ i0 ≤ i ∧ i ≤ jb + 1 ∧ Hid (Mid a b i jb L1) ∧ Hid (i ≤ jb → L1.getD a 0 < L1.getD i 0) ∧ Hid (RowU wx g n cap L1) ∧ Hid (Chg (fun k => k = g) w wx))
  case first =>
    go_wp2_with fail
    go_loopw [10] (fun u wx => ∃ i : Nat, u = .int .i64 i ∧ i0 ≤ i ∧ i ≤ jb + 1 ∧ Hid (Mid a b i jb L1) ∧ Hid (RowU wx g n cap L1) ∧ Hid (Chg (fun k => k = g) w wx)) (fun u _ => jb + 1 - (intOf u).toNat)
    case atStart => exact ⟨i0, rfl, Nat.le_refl _, by omega, HMID, HROW, HCHG⟩
    case round =>
      obtain ⟨i, rfl, hi1, hi2, HM, HR, HC⟩ := hrel
      obtain ⟨hLn, hg', hcap', hcell, hfz⟩ := HR.out.ptr (by omega)
      have c0 := hcell a (by omega)
      have zi0 : (0 : Int) ≤ (i : Int) := by omega
      by_cases hlt : i ≤ jb
      · have c1 := hcell i (by omega)
        have zi : (i : Int) < (n : Int) := by omega
        have zj : (i : Int) ≤ (jb : Int) := by omega
        have hLL := fun W => lessU_any (L1.getD i 0) (L1.getD a 0) W
        by_cases hx : L1.getD i 0 < L1.getD a 0
        · have hm := mid_up HM.out hx
          rw [decide_eq_true hx] at hLL
          generalize L1.getD i 0 = x at *
          generalize L1.getD a 0 = y at *
          have HLL := Lib.hid hLL; have HM2 := Lib.hid hm
          clear hLL hx hm hcell hfz hLn
          go_wp2_with fail
          go_quiet ((go_at_call 33; exact Calls.quiet_of_same (HLL.out _)))
          go_wp2_with fail
          go_roundw
          case rel => exact ⟨i + 1, by go_num, by omega, by omega, HM2, HR.out.drewN _, HC.out.drewN _⟩
          case measure => simp [intOf]; omega
        · have hne : L1.getD a 0 < L1.getD i 0 := by
            by_cases he : L1.getD a 0 = L1.getD i 0
            · have := nodup_inj (HSG.out.nodup HND.out) (by omega) (by omega) he
              omega
            · omega
          have HNE := Lib.hid hne
          rw [decide_eq_false hx] at hLL
          have HLL := Lib.hid hLL
          generalize L1.getD i 0 = x at c1 HLL
          generalize L1.getD a 0 = y at c0 HLL
          clear hLL hx hne hcell hfz hLn
          go_wp2_with fail
          go_quiet ((go_at_call 33; exact Calls.quiet_of_same (HLL.out _)))
          go_wp2_with fail
          go_meet
          exact ⟨i, rfl, hi1, hi2, HM, fun _ => HNE.out, HR.out.drewN _, HC.out.drewN _⟩
      · have zj : ¬ (i : Int) ≤ (jb : Int) := by omega
        clear hcell hfz hLn
        go_wp2_with fail
        go_quiet (fail)
        go_wp2_with fail
        go_meet
        exact ⟨i, rfl, hi1, hi2, HM, fun h => absurd h hlt, HR.out.drewN _, HC.out.drewN _⟩
  case rest =>
    obtain ⟨i, rfl, hi1, hi2, HM, HN, HR, HC⟩ := hcut
    go_upto_block 2 with fail
    go_cut [11] (fun s11 wx => ∃ j : Nat, s11 = .int .i64 j ∧ i ≤ j + 1 ∧ j ≤ jb ∧ Hid (Mid a b i j L1) ∧ Hid (i ≤ j → L1.getD j 0 < L1.getD a 0) ∧ Hid (RowU wx g n cap L1) ∧ Hid (Chg (fun k => k = g) w wx))
    case first =>
      go_wp2_with fail
      go_loopw [11] (fun u wx => ∃ j : Nat, u = .int .i64 j ∧ i ≤ j + 1 ∧ j ≤ jb ∧ Hid (Mid a b i j L1) ∧ Hid (RowU wx g n cap L1) ∧ Hid (Chg (fun k => k = g) w wx)) (fun u _ => (intOf u).toNat)
      case atStart => exact ⟨jb, rfl, by omega, Nat.le_refl _, HM, HR, HC⟩
      case round =>
        clear HM HR HC
        obtain ⟨j, rfl, hj1, hj2, HM, HR, HC⟩ := hrel
        obtain ⟨hLn, hg', hcap', hcell, hfz⟩ := HR.out.ptr (by omega)
        have c0 := hcell a (by omega)
        by_cases hlt : i ≤ j
        · obtain ⟨j, rfl⟩ : ∃ j', j = j' + 1 := ⟨j - 1, by omega⟩
          have c1 := hcell (j + 1) (by omega)
          have e1 : (j : Int) + 1 - 1 = (j : Int) := by omega
          have zj0 : (0 : Int) ≤ (j : Int) + 1 := by omega
          have zjn : (j : Int) + 1 < (n : Int) := by omega
          have zj : (i : Int) ≤ (j : Int) + 1 := by omega
          have hLL := fun W => lessU_any (L1.getD (j + 1) 0) (L1.getD a 0) W
          by_cases hx : L1.getD (j + 1) 0 < L1.getD a 0
          · have HNE := Lib.hid hx
            rw [decide_eq_true hx] at hLL
            have HLL := Lib.hid hLL
            generalize L1.getD (j + 1) 0 = x at c1 HLL
            generalize L1.getD a 0 = y at c0 HLL
            clear hLL hx hcell hfz hLn
            go_wp2_with fail
            go_quiet ((go_at_call 33; exact Calls.quiet_of_same (HLL.out _)))
            go_wp2_with fail
            go_meet
            exact ⟨j + 1, rfl, hj1, hj2, HM, fun _ => HNE.out, HR.out.drewN _, HC.out.drewN _⟩
          · have hne : L1.getD a 0 < L1.getD (j + 1) 0 := by
              by_cases he : L1.getD a 0 = L1.getD (j + 1) 0
              · have := nodup_inj (HSG.out.nodup HND.out) (by omega) (by omega) he
                omega
              · omega
            have hm := mid_down HM.out hne
            rw [decide_eq_false hx] at hLL
            generalize L1.getD (j + 1) 0 = x at *
            generalize L1.getD a 0 = y at *
            have HLL := Lib.hid hLL; have HM2 := Lib.hid hm
            clear hLL hx hne hm hcell hfz hLn
            go_wp2_with fail
            go_quiet ((go_at_call 33; exact Calls.quiet_of_same (HLL.out _)))
            go_wp2_with fail
            go_roundw
            case rel => exact ⟨j, rfl, by omega, by omega, HM2, HR.out.drewN _, HC.out.drewN _⟩
            case measure => simp [intOf]
        · have zj : ¬ (i : Int) ≤ (j : Int) := by omega
          clear hcell hfz hLn
          go_wp2_with fail
          go_quiet (fail)
          go_wp2_with fail
          go_meet
          exact ⟨j, rfl, hj1, hj2, HM, fun h => absurd h hlt, HR.out.drewN _, HC.out.drewN _⟩
    case rest =>
      obtain ⟨j, rfl, hj1, hj2, HM, HN2, HR, HC⟩ := hcut
      obtain ⟨hLn, hg', hcap', hcell, hfz⟩ := HR.out.ptr (by omega)
      have cj := hcell j (by omega)
      have ca := hcell a (by omega)
      have fj := hfz j
      have fa := hfz a
      have zj0 : (0 : Int) ≤ (j : Int) := by omega
      have zjn : (j : Int) < (n : Int) := by omega
      by_cases hij : j < i
      · have zij : (j : Int) < (i : Int) := by omega
        have hend := mid_end (L := L1) HM.out (by omega) (by omega) (by omega) (by omega)
        have hs := HR.out.swap (i := j) (j := a) (by omega) (by omega)
        have hsg := HSG.out.trans (seg_swp (a := a) (b := b) (i := j) (j := a) (HSG.out.nodup HND.out) (by omega) (by omega) (by omega))
        obtain ⟨L2, hL2⟩ : ∃ L2, L2 = swp L1 j a := ⟨_, rfl⟩
        rw [← hL2] at hend hs hsg
        generalize L1.getD j 0 = x at *
        generalize L1.getD a 0 = y at *
        obtain ⟨v2, hv2⟩ := cell?_setCell_some (p := ⟨g, j, none⟩) (x := .int .u64 y) (q := ⟨g, a, none⟩) (v := .int .u64 y) ca
        have HEND := Lib.hid hend; have HS := Lib.hid hs; have HSG2 := Lib.hid hsg
        clear hcell hfz hend hs hsg hL2 hLn HN HN2 HM
        go_wp2_with fail
        go_region
        go_wp2_with fail
        go_ret2
        exact ⟨j, true, L2, rfl, by omega, by omega, HSG2.out, HEND.out, HS.out.drew, ((HC.out.setCell (p := ⟨g, j, none⟩) (.inl rfl) _).setCell (p := ⟨g, a, none⟩) (.inl rfl) _).drew⟩
      · have hlt3 : i < j := by
          have q1 := HN.out (by omega)
          have q2 := HN2.out (by omega)
          by_cases he : i = j
          · rw [he] at q1; omega
          · omega
        have ci := hcell i (by omega)
        have fi := hfz i
        have zi0 : (0 : Int) ≤ (i : Int) := by omega
        have zin : (i : Int) < (n : Int) := by omega
        have zij : ¬ (j : Int) < (i : Int) := by omega
        have hmid := mid_swap (L := L1) HM.out (by omega) hlt3 (by omega) (by omega) (HN.out (by omega)) (HN2.out (by omega))
        have hs := HR.out.swap (i := i) (j := j) (by omega) (by omega)
        have hsg := HSG.out.trans (seg_swp (a := a) (b := b) (i := i) (j := j) (HSG.out.nodup HND.out) (by omega) (by omega) (by omega))
        obtain ⟨L9, hL9⟩ : ∃ L9, L9 = swp L1 i j := ⟨_, rfl⟩
        rw [← hL9] at hmid hs hsg
        generalize L1.getD j 0 = x at *
        generalize L1.getD i 0 = y at *
        obtain ⟨v2, hv2⟩ := cell?_setCell_some (p := ⟨g, i, none⟩) (x := .int .u64 x) (q := ⟨g, j, none⟩) (v := .int .u64 x) cj
        have HMID2 := Lib.hid hmid; have HS := Lib.hid hs; have HSG2 := Lib.hid hsg
        clear hcell hfz hmid hs hsg hL9 hLn HN HN2 HM ca fa
        obtain ⟨j, rfl⟩ : ∃ j', j = j' + 1 := ⟨j - 1, by omega⟩
        have e1 : (j : Int) + 1 - 1 = (j : Int) := by omega
        go_wp2_with fail
        go_region
        obtain ⟨W2, hW⟩ : ∃ W2, W2 = ((wc.setCell ⟨g, i, none⟩ (.int .u64 x)).setCell ⟨g, j + 1, none⟩ (.int .u64 y)).drew := ⟨_, rfl⟩
        rw [← hW]
        have HROW2 : Hid (RowU W2 g n cap L9) := by rw [hW]; exact HS.out.drew
        have HCHG2 : Hid (Chg (fun k => k = g) w W2) := by rw [hW]; exact ((HC.out.setCell (p := ⟨g, i, none⟩) (.inl rfl) _).setCell (p := ⟨g, j + 1, none⟩) (.inl rfl) _).drew
        clear hW HS HC HR ci cj fi fj hv2
        go_wp2_with fail
        go_loopw [10, 11] (fun u v wx => ∃ (i j : Nat) (L2 : List Int), u = .int .i64 i ∧ v = .int .i64 j ∧ a + 1 ≤ i ∧ i ≤ j + 1 ∧ j < b ∧ Hid (Mid a b i j L2) ∧ Hid (Seg a b L L2) ∧ Hid (RowU wx g n cap L2) ∧ Hid (Chg (fun k => k = g) w wx)) (fun u v _ => (intOf v).toNat + 1 - (intOf u).toNat)
        case atStart => exact ⟨i + 1, j, L9, by go_num, rfl, by omega, by omega, by omega, HMID2, HSG2, HROW2, HCHG2⟩
        case round =>
          clear HMID2 HSG2 HROW2 HCHG2 HSG HMID HROW HCHG
          obtain ⟨i1, j1, L2, rfl, rfl, hi1a, hi1j, hj1b, HMID, HSG, HROW, HCHG⟩ := hrel
          go_upto_block 6 with fail
          go_cut [10] (fun s10 wx => ∃ i : Nat, s10 = .int .i64 i ∧ i1 ≤ i ∧ i ≤ j1 + 1 ∧ Hid (Mid a b i j1 L2) ∧ Hid (i ≤ j1 → L2.getD a 0 < L2.getD i 0) ∧ Hid (RowU wx g n cap L2) ∧ Hid (Chg (fun k => k = g) w wx))
          case first =>
            go_wp2_with fail
            go_loopw [10] (fun u wx => ∃ i : Nat, u = .int .i64 i ∧ i1 ≤ i ∧ i ≤ j1 + 1 ∧ Hid (Mid a b i j1 L2) ∧ Hid (RowU wx g n cap L2) ∧ Hid (Chg (fun k => k = g) w wx)) (fun u _ => j1 + 1 - (intOf u).toNat)
            case atStart => exact ⟨i1, rfl, Nat.le_refl _, by omega, HMID, HROW, HCHG⟩
            case round =>
              obtain ⟨i, rfl, hi1, hi2, HM, HR, HC⟩ := hrel
              obtain ⟨hLn, hg', hcap', hcell, hfz⟩ := HR.out.ptr (by omega)
              have c0 := hcell a (by omega)
              have zi0 : (0 : Int) ≤ (i : Int) := by omega
              by_cases hlt : i ≤ j1
              · have c1 := hcell i (by omega)
                have zi : (i : Int) < (n : Int) := by omega
                have zj : (i : Int) ≤ (j1 : Int) := by omega
                have hLL := fun W => lessU_any (L2.getD i 0) (L2.getD a 0) W
                by_cases hx : L2.getD i 0 < L2.getD a 0
                · have hm := mid_up HM.out hx
                  rw [decide_eq_true hx] at hLL
                  generalize L2.getD i 0 = x at *
                  generalize L2.getD a 0 = y at *
                  have HLL := Lib.hid hLL; have HM2 := Lib.hid hm
                  clear hLL hx hm hcell hfz hLn
                  go_wp2_with fail
                  go_quiet ((go_at_call 33; exact Calls.quiet_of_same (HLL.out _)))
                  go_wp2_with fail
                  go_roundw
                  case rel => exact ⟨i + 1, by go_num, by omega, by omega, HM2, HR.out.drewN _, HC.out.drewN _⟩
                  case measure => simp [intOf]; omega
                · have hne : L2.getD a 0 < L2.getD i 0 := by
                    by_cases he : L2.getD a 0 = L2.getD i 0
                    · have := nodup_inj (HSG.out.nodup HND.out) (by omega) (by omega) he
                      omega
                    · omega
                  have HNE := Lib.hid hne
                  rw [decide_eq_false hx] at hLL
                  have HLL := Lib.hid hLL
                  generalize L2.getD i 0 = x at c1 HLL
                  generalize L2.getD a 0 = y at c0 HLL
                  clear hLL hx hne hcell hfz hLn
                  go_wp2_with fail
                  go_quiet ((go_at_call 33; exact Calls.quiet_of_same (HLL.out _)))
                  go_wp2_with fail
                  go_meet
                  exact ⟨i, rfl, hi1, hi2, HM, fun _ => HNE.out, HR.out.drewN _, HC.out.drewN _⟩
              · have zj : ¬ (i : Int) ≤ (j1 : Int) := by omega
                clear hcell hfz hLn
                go_wp2_with fail
                go_quiet (fail)
                go_wp2_with fail
                go_meet
                exact ⟨i, rfl, hi1, hi2, HM, fun h => absurd h hlt, HR.out.drewN _, HC.out.drewN _⟩
          case rest =>
            obtain ⟨i, rfl, hi1, hi2, HM, HN, HR, HC⟩ := hcut
            go_upto_block 8 with fail
            go_cut [11] (fun s11 wx => ∃ j : Nat, s11 = .int .i64 j ∧ i ≤ j + 1 ∧ j ≤ j1 ∧ Hid (Mid a b i j L2) ∧ Hid (i ≤ j → L2.getD j 0 < L2.getD a 0) ∧ Hid (RowU wx g n cap L2) ∧ Hid (Chg (fun k => k = g) w wx))
            case first =>
              go_wp2_with fail
              go_loopw [11] (fun u wx => ∃ j : Nat, u = .int .i64 j ∧ i ≤ j + 1 ∧ j ≤ j1 ∧ Hid (Mid a b i j L2) ∧ Hid (RowU wx g n cap L2) ∧ Hid (Chg (fun k => k = g) w wx)) (fun u _ => (intOf u).toNat)
              case atStart => exact ⟨j1, rfl, by omega, Nat.le_refl _, HM, HR, HC⟩
              case round =>
                clear HM HR HC
                obtain ⟨j, rfl, hj1, hj2, HM, HR, HC⟩ := hrel
                obtain ⟨hLn, hg', hcap', hcell, hfz⟩ := HR.out.ptr (by omega)
                have c0 := hcell a (by omega)
                by_cases hlt : i ≤ j
                · obtain ⟨j, rfl⟩ : ∃ j', j = j' + 1 := ⟨j - 1, by omega⟩
                  have c1 := hcell (j + 1) (by omega)
                  have e1 : (j : Int) + 1 - 1 = (j : Int) := by omega
                  have zj0 : (0 : Int) ≤ (j : Int) + 1 := by omega
                  have zjn : (j : Int) + 1 < (n : Int) := by omega
                  have zj : (i : Int) ≤ (j : Int) + 1 := by omega
                  have hLL := fun W => lessU_any (L2.getD (j + 1) 0) (L2.getD a 0) W
                  by_cases hx : L2.getD (j + 1) 0 < L2.getD a 0
                  · have HNE := Lib.hid hx
                    rw [decide_eq_true hx] at hLL
                    have HLL := Lib.hid hLL
                    generalize L2.getD (j + 1) 0 = x at c1 HLL
                    generalize L2.getD a 0 = y at c0 HLL
                    clear hLL hx hcell hfz hLn
                    go_wp2_with fail
                    go_quiet ((go_at_call 33; exact Calls.quiet_of_same (HLL.out _)))
                    go_wp2_with fail
                    go_meet
                    exact ⟨j + 1, rfl, hj1, hj2, HM, fun _ => HNE.out, HR.out.drewN _, HC.out.drewN _⟩
                  · have hne : L2.getD a 0 < L2.getD (j + 1) 0 := by
                      by_cases he : L2.getD a 0 = L2.getD (j + 1) 0
                      · have := nodup_inj (HSG.out.nodup HND.out) (by omega) (by omega) he
                        omega
                      · omega
                    have hm := mid_down HM.out hne
                    rw [decide_eq_false hx] at hLL
                    generalize L2.getD (j + 1) 0 = x at *
                    generalize L2.getD a 0 = y at *
                    have HLL := Lib.hid hLL; have HM2 := Lib.hid hm
                    clear hLL hx hne hm hcell hfz hLn
                    go_wp2_with fail
                    go_quiet ((go_at_call 33; exact Calls.quiet_of_same (HLL.out _)))
                    go_wp2_with fail
                    go_roundw
                    case rel => exact ⟨j, rfl, by omega, by omega, HM2, HR.out.drewN _, HC.out.drewN _⟩
                    case measure => simp [intOf]
                · have zj : ¬ (i : Int) ≤ (j : Int) := by omega
                  clear hcell hfz hLn
                  go_wp2_with fail
                  go_quiet (fail)
                  go_wp2_with fail
                  go_meet
                  exact ⟨j, rfl, hj1, hj2, HM, fun h => absurd h hlt, HR.out.drewN _, HC.out.drewN _⟩
            case rest =>
              obtain ⟨j, rfl, hj1, hj2, HM, HN2, HR, HC⟩ := hcut
              obtain ⟨hLn, hg', hcap', hcell, hfz⟩ := HR.out.ptr (by omega)
              have cj := hcell j (by omega)
              have ca := hcell a (by omega)
              have fj := hfz j
              have fa := hfz a
              have zj0 : (0 : Int) ≤ (j : Int) := by omega
              have zjn : (j : Int) < (n : Int) := by omega
              by_cases hij : j < i
              · have zij : (j : Int) < (i : Int) := by omega
                have hend := mid_end (L := L2) HM.out (by omega) (by omega) (by omega) (by omega)
                have hs := HR.out.swap (i := j) (j := a) (by omega) (by omega)
                have hsg := HSG.out.trans (seg_swp (a := a) (b := b) (i := j) (j := a) (HSG.out.nodup HND.out) (by omega) (by omega) (by omega))
                obtain ⟨L9, hL9⟩ : ∃ L9, L9 = swp L2 j a := ⟨_, rfl⟩
                rw [← hL9] at hend hs hsg
                generalize L2.getD j 0 = x at *
                generalize L2.getD a 0 = y at *
                obtain ⟨v2, hv2⟩ := cell?_setCell_some (p := ⟨g, j, none⟩) (x := .int .u64 y) (q := ⟨g, a, none⟩) (v := .int .u64 y) ca
                have HEND := Lib.hid hend; have HS := Lib.hid hs; have HSG2 := Lib.hid hsg
                clear hcell hfz hend hs hsg hL9 hLn HN HN2 HM
                go_wp2_with fail
                go_region
                go_wp2_with fail
                go_ret2
                exact ⟨j, false, L9, rfl, by omega, by omega, HSG2.out, HEND.out, HS.out.drew, ((HC.out.setCell (p := ⟨g, j, none⟩) (.inl rfl) _).setCell (p := ⟨g, a, none⟩) (.inl rfl) _).drew⟩
              · have hlt3 : i < j := by
                  have q1 := HN.out (by omega)
                  have q2 := HN2.out (by omega)
                  by_cases he : i = j
                  · rw [he] at q1; omega
                  · omega
                have ci := hcell i (by omega)
                have fi := hfz i
                have zi0 : (0 : Int) ≤ (i : Int) := by omega
                have zin : (i : Int) < (n : Int) := by omega
                have zij : ¬ (j : Int) < (i : Int) := by omega
                have hmid := mid_swap (L := L2) HM.out (by omega) hlt3 (by omega) (by omega) (HN.out (by omega)) (HN2.out (by omega))
                have hs := HR.out.swap (i := i) (j := j) (by omega) (by omega)
                have hsg := HSG.out.trans (seg_swp (a := a) (b := b) (i := i) (j := j) (HSG.out.nodup HND.out) (by omega) (by omega) (by omega))
                obtain ⟨L9, hL9⟩ : ∃ L9, L9 = swp L2 i j := ⟨_, rfl⟩
                rw [← hL9] at hmid hs hsg
                generalize L2.getD j 0 = x at *
                generalize L2.getD i 0 = y at *
                obtain ⟨v2, hv2⟩ := cell?_setCell_some (p := ⟨g, i, none⟩) (x := .int .u64 x) (q := ⟨g, j, none⟩) (v := .int .u64 x) cj
                have HMID2 := Lib.hid hmid; have HS := Lib.hid hs; have HSG2 := Lib.hid hsg
                clear hcell hfz hmid hs hsg hL9 hLn HN HN2 HM ca fa
                obtain ⟨j, rfl⟩ : ∃ j', j = j' + 1 := ⟨j - 1, by omega⟩
                have e1 : (j : Int) + 1 - 1 = (j : Int) := by omega
                go_wp2_with fail
                go_region
                obtain ⟨W3, hW⟩ : ∃ W3, W3 = ((wc.setCell ⟨g, i, none⟩ (.int .u64 x)).setCell ⟨g, j + 1, none⟩ (.int .u64 y)).drew := ⟨_, rfl⟩
                rw [← hW]
                have HROW2 : Hid (RowU W3 g n cap L9) := by rw [hW]; exact HS.out.drew
                have HCHG2 : Hid (Chg (fun k => k = g) w W3) := by rw [hW]; exact ((HC.out.setCell (p := ⟨g, i, none⟩) (.inl rfl) _).setCell (p := ⟨g, j + 1, none⟩) (.inl rfl) _).drew
                clear hW HS HC HR ci cj fi fj hv2
                go_wp2_with fail
                go_roundw
                case rel => exact ⟨i + 1, j, L9, by go_num, rfl, by omega, by omega, by omega, HMID2, HSG2, HROW2, HCHG2⟩
                case measure => simp [intOf]; omega

end Go.Proofs.Ytamjhblhkabpaaa
