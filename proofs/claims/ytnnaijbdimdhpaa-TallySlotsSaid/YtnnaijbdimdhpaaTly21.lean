/-
  The reference's Points: what is wrong with keys.
-/
import Derived.Test.YtnnaijbdimdhpaaTly20
namespace Go.Proofs.Ytnnaijbdimdhpaa
open Go.RowKit Go.Shelf
set_option linter.unusedVariables false

set_option maxRecDepth 100000 in
set_option maxHeartbeats 4000000 in
theorem points_2 (k : Nat) (L : List Int) (v : Value) (n : Nat) (w : World) (E : Int) (hr : Rd w 1 v n (u64s L)) (hk1 : 1 ≤ k) (hk : k ≤ 4) (hn1 : 1 ≤ n) (hn : n ≤ k)
    (HE2 : Hid ((∃ x ∈ L, (2 : Int) ≤ x) → E = 2)) (HE15 : Hid ((¬ ∃ x ∈ L, (2 : Int) ≤ x) → ¬ L.Nodup → E = 15)) (HE0 : Hid ((¬ ∃ x ∈ L, (2 : Int) ≤ x) → L.Nodup → E = 0)) :
    Calls Try.prog 25 #[.int .u64 2, .int .i64 k, v] w fun e w' => e = .returned (.int .i64 E) ∧ w' = w := by
  obtain ⟨sa, cap, rfl⟩ := hr.form
  have hcap := hr.cap_le.1
  obtain rfl := hr.len_u64
  have HRD := Lib.hid hr
  clear hr
  go_enter Try.func25, Try.ntmps25
  go_wp2
  go_loop [8, 47] (fun u i => ∃ j : Nat, j ≤ L.length ∧ i = .int .i64 j ∧ Hid (∀ q, q < j → L.getD q 0 < 2)) (fun _ i => L.length - (intOf i).toNat)
  case atStart => exact ⟨0, Nat.zero_le _, rfl, fun q hq => by omega⟩
  case round =>
    obtain ⟨j, hj, rfl, HK⟩ := hrel
    by_cases hlt : j < L.length
    · obtain ⟨b, off, rfl, hcell⟩ := HRD.out.at (by omega)
      have hc := hcell j _ (u64s_at L j hlt)
      have hmem : L.getD j 0 ∈ L := by simp [List.getD, List.getElem?_eq_getElem hlt]
      obtain ⟨x, hx⟩ : ∃ x, x = L.getD j 0 := ⟨_, rfl⟩
      rw [← hx] at hc hmem
      have HX := Lib.hid hx
      have HM := Lib.hid hmem
      clear hcell hx hmem
      by_cases hxp : (2 : Int) ≤ x
      · have hd : decide ((2 : Int) ≤ x) = true := decide_eq_true hxp
        have HXP := Lib.hid hxp
        go_wp2
        go_ret
        exact ⟨ret_int (HE2.out ⟨x, HM.out, HXP.out⟩).symm, rfl⟩
      · have hd : decide ((2 : Int) ≤ x) = false := decide_eq_false hxp
        have HXP := Lib.hid hxp
        go_wp2
        go_round
        case rel =>
          refine ⟨j + 1, by omega, by go_num, fun q hq => ?_⟩
          by_cases hqj : q = j
          · subst hqj; rw [← HX.out]; have := HXP.out; omega
          · exact HK.out q (by omega)
        case measure => simp [intOf]; omega
    · have HN2 : Hid (¬ ∃ x ∈ L, (2 : Int) ≤ x) := by
        rintro ⟨x, hx, hpx⟩
        obtain ⟨q, hq, he⟩ := List.mem_iff_getElem.1 hx
        have h1 := HK.out q (by omega)
        rw [show L.getD q 0 = x by simp [List.getD, List.getElem?_eq_getElem hq, he]] at h1
        omega
      clear HK
      go_wp2
      go_loop [9, 10, 11, 57] (fun u1 u2 u3 i => ∃ j : Nat, j ≤ L.length ∧ i = .int .i64 j ∧ Hid ((L.take j).Nodup)) (fun _ _ _ i => L.length - (intOf i).toNat)
      case atStart => exact ⟨0, Nat.zero_le _, rfl, by show List.Nodup _; simp⟩
      case round =>
        clear hlt hj
        obtain ⟨j, hj, rfl, HK⟩ := hrel
        by_cases hlt : j < L.length
        · obtain ⟨b, off, rfl, hcell⟩ := HRD.out.at (by omega)
          have hc := hcell j _ (u64s_at L j hlt)
          obtain ⟨x, hx⟩ : ∃ x, x = L.getD j 0 := ⟨_, rfl⟩
          rw [← hx] at hc
          have HX := Lib.hid hx
          have HC := Lib.hid hcell
          clear hcell hx
          go_wp2
          go_loop [11] (fun i => ∃ q : Nat, q ≤ j ∧ i = .int .i64 q ∧ Hid (∀ z, z < q → L.getD z 0 ≠ x)) (fun i => j - (intOf i).toNat)
          case atStart => exact ⟨0, Nat.zero_le _, rfl, fun z hz => by omega⟩
          case round =>
            obtain ⟨q, hq, rfl, HQ⟩ := hrel
            by_cases hltq : q < j
            · have hcq := HC.out q _ (u64s_at L q (by omega))
              obtain ⟨y, hy⟩ : ∃ y, y = L.getD q 0 := ⟨_, rfl⟩
              rw [← hy] at hcq
              have HY := Lib.hid hy
              clear hy
              by_cases hxy : y = x
              · have hd : (y == x) = true := by simpa using hxy
                have HXY := Lib.hid hxy
                clear hxy
                go_wp2
                go_ret
                refine ⟨ret_int (HE15.out HN2.out (take_dup hlt ?_)).symm, rfl⟩
                rw [← HX.out, ← HXY.out, HY.out]
                have hqt : q < (L.take j).length := by rw [List.length_take]; omega
                have : (L.take j)[q]'hqt = L.getD q 0 := by simp [List.getD, List.getElem?_eq_getElem (show q < L.length by omega)]
                rw [← this]
                exact List.getElem_mem hqt
              · have hd : (y == x) = false := by simpa using hxy
                have HXY := Lib.hid hxy
                clear hxy
                go_wp2
                go_round
                case rel =>
                  refine ⟨q + 1, by omega, by go_num, fun z hz => ?_⟩
                  by_cases hzq : z = q
                  · subst hzq; rw [← HY.out]; exact HXY.out
                  · exact HQ.out z (by omega)
                case measure => simp [intOf]; omega
            · have hnx : Hid ((L.take (j + 1)).Nodup) := by
                refine take_nodup_succ hlt HK.out fun hm => ?_
                obtain ⟨z, hz, he⟩ := List.mem_iff_getElem.1 hm
                rw [List.length_take] at hz
                have := HQ.out z (by omega)
                rw [HX.out] at this
                refine this ?_
                rw [← he]
                simp [List.getD, List.getElem?_eq_getElem (show z < L.length by omega)]
              clear HQ HK
              go_wp2
              go_round
              case rel => exact ⟨j + 1, by omega, by go_num, hnx⟩
              case measure => simp [intOf]; omega
        · have hnd : Hid (L.Nodup) := by
            have := HK.out
            rw [List.take_of_length_le (by omega)] at this
            exact this
          clear HK
          go_wp2
          go_ret
          exact ⟨ret_int (HE0.out HN2.out hnd.out).symm, rfl⟩

set_option maxRecDepth 100000 in
set_option maxHeartbeats 4000000 in
theorem points_3 (k : Nat) (L : List Int) (v : Value) (n : Nat) (w : World) (E : Int) (hr : Rd w 1 v n (u64s L)) (hk1 : 1 ≤ k) (hk : k ≤ 4) (hn1 : 1 ≤ n) (hn : n ≤ k)
    (HE2 : Hid ((∃ x ∈ L, (3 : Int) ≤ x) → E = 2)) (HE15 : Hid ((¬ ∃ x ∈ L, (3 : Int) ≤ x) → ¬ L.Nodup → E = 15)) (HE0 : Hid ((¬ ∃ x ∈ L, (3 : Int) ≤ x) → L.Nodup → E = 0)) :
    Calls Try.prog 25 #[.int .u64 3, .int .i64 k, v] w fun e w' => e = .returned (.int .i64 E) ∧ w' = w := by
  obtain ⟨sa, cap, rfl⟩ := hr.form
  have hcap := hr.cap_le.1
  obtain rfl := hr.len_u64
  have HRD := Lib.hid hr
  clear hr
  go_enter Try.func25, Try.ntmps25
  go_wp2
  go_loop [8, 47] (fun u i => ∃ j : Nat, j ≤ L.length ∧ i = .int .i64 j ∧ Hid (∀ q, q < j → L.getD q 0 < 3)) (fun _ i => L.length - (intOf i).toNat)
  case atStart => exact ⟨0, Nat.zero_le _, rfl, fun q hq => by omega⟩
  case round =>
    obtain ⟨j, hj, rfl, HK⟩ := hrel
    by_cases hlt : j < L.length
    · obtain ⟨b, off, rfl, hcell⟩ := HRD.out.at (by omega)
      have hc := hcell j _ (u64s_at L j hlt)
      have hmem : L.getD j 0 ∈ L := by simp [List.getD, List.getElem?_eq_getElem hlt]
      obtain ⟨x, hx⟩ : ∃ x, x = L.getD j 0 := ⟨_, rfl⟩
      rw [← hx] at hc hmem
      have HX := Lib.hid hx
      have HM := Lib.hid hmem
      clear hcell hx hmem
      by_cases hxp : (3 : Int) ≤ x
      · have hd : decide ((3 : Int) ≤ x) = true := decide_eq_true hxp
        have HXP := Lib.hid hxp
        go_wp2
        go_ret
        exact ⟨ret_int (HE2.out ⟨x, HM.out, HXP.out⟩).symm, rfl⟩
      · have hd : decide ((3 : Int) ≤ x) = false := decide_eq_false hxp
        have HXP := Lib.hid hxp
        go_wp2
        go_round
        case rel =>
          refine ⟨j + 1, by omega, by go_num, fun q hq => ?_⟩
          by_cases hqj : q = j
          · subst hqj; rw [← HX.out]; have := HXP.out; omega
          · exact HK.out q (by omega)
        case measure => simp [intOf]; omega
    · have HN2 : Hid (¬ ∃ x ∈ L, (3 : Int) ≤ x) := by
        rintro ⟨x, hx, hpx⟩
        obtain ⟨q, hq, he⟩ := List.mem_iff_getElem.1 hx
        have h1 := HK.out q (by omega)
        rw [show L.getD q 0 = x by simp [List.getD, List.getElem?_eq_getElem hq, he]] at h1
        omega
      clear HK
      go_wp2
      go_loop [9, 10, 11, 57] (fun u1 u2 u3 i => ∃ j : Nat, j ≤ L.length ∧ i = .int .i64 j ∧ Hid ((L.take j).Nodup)) (fun _ _ _ i => L.length - (intOf i).toNat)
      case atStart => exact ⟨0, Nat.zero_le _, rfl, by show List.Nodup _; simp⟩
      case round =>
        clear hlt hj
        obtain ⟨j, hj, rfl, HK⟩ := hrel
        by_cases hlt : j < L.length
        · obtain ⟨b, off, rfl, hcell⟩ := HRD.out.at (by omega)
          have hc := hcell j _ (u64s_at L j hlt)
          obtain ⟨x, hx⟩ : ∃ x, x = L.getD j 0 := ⟨_, rfl⟩
          rw [← hx] at hc
          have HX := Lib.hid hx
          have HC := Lib.hid hcell
          clear hcell hx
          go_wp2
          go_loop [11] (fun i => ∃ q : Nat, q ≤ j ∧ i = .int .i64 q ∧ Hid (∀ z, z < q → L.getD z 0 ≠ x)) (fun i => j - (intOf i).toNat)
          case atStart => exact ⟨0, Nat.zero_le _, rfl, fun z hz => by omega⟩
          case round =>
            obtain ⟨q, hq, rfl, HQ⟩ := hrel
            by_cases hltq : q < j
            · have hcq := HC.out q _ (u64s_at L q (by omega))
              obtain ⟨y, hy⟩ : ∃ y, y = L.getD q 0 := ⟨_, rfl⟩
              rw [← hy] at hcq
              have HY := Lib.hid hy
              clear hy
              by_cases hxy : y = x
              · have hd : (y == x) = true := by simpa using hxy
                have HXY := Lib.hid hxy
                clear hxy
                go_wp2
                go_ret
                refine ⟨ret_int (HE15.out HN2.out (take_dup hlt ?_)).symm, rfl⟩
                rw [← HX.out, ← HXY.out, HY.out]
                have hqt : q < (L.take j).length := by rw [List.length_take]; omega
                have : (L.take j)[q]'hqt = L.getD q 0 := by simp [List.getD, List.getElem?_eq_getElem (show q < L.length by omega)]
                rw [← this]
                exact List.getElem_mem hqt
              · have hd : (y == x) = false := by simpa using hxy
                have HXY := Lib.hid hxy
                clear hxy
                go_wp2
                go_round
                case rel =>
                  refine ⟨q + 1, by omega, by go_num, fun z hz => ?_⟩
                  by_cases hzq : z = q
                  · subst hzq; rw [← HY.out]; exact HXY.out
                  · exact HQ.out z (by omega)
                case measure => simp [intOf]; omega
            · have hnx : Hid ((L.take (j + 1)).Nodup) := by
                refine take_nodup_succ hlt HK.out fun hm => ?_
                obtain ⟨z, hz, he⟩ := List.mem_iff_getElem.1 hm
                rw [List.length_take] at hz
                have := HQ.out z (by omega)
                rw [HX.out] at this
                refine this ?_
                rw [← he]
                simp [List.getD, List.getElem?_eq_getElem (show z < L.length by omega)]
              clear HQ HK
              go_wp2
              go_round
              case rel => exact ⟨j + 1, by omega, by go_num, hnx⟩
              case measure => simp [intOf]; omega
        · have hnd : Hid (L.Nodup) := by
            have := HK.out
            rw [List.take_of_length_le (by omega)] at this
            exact this
          clear HK
          go_wp2
          go_ret
          exact ⟨ret_int (HE0.out HN2.out hnd.out).symm, rfl⟩

set_option maxRecDepth 100000 in
set_option maxHeartbeats 4000000 in
theorem points_5 (k : Nat) (L : List Int) (v : Value) (n : Nat) (w : World) (E : Int) (hr : Rd w 1 v n (u64s L)) (hk1 : 1 ≤ k) (hk : k ≤ 4) (hn1 : 1 ≤ n) (hn : n ≤ k)
    (HE2 : Hid ((∃ x ∈ L, (5 : Int) ≤ x) → E = 2)) (HE15 : Hid ((¬ ∃ x ∈ L, (5 : Int) ≤ x) → ¬ L.Nodup → E = 15)) (HE0 : Hid ((¬ ∃ x ∈ L, (5 : Int) ≤ x) → L.Nodup → E = 0)) :
    Calls Try.prog 25 #[.int .u64 5, .int .i64 k, v] w fun e w' => e = .returned (.int .i64 E) ∧ w' = w := by
  obtain ⟨sa, cap, rfl⟩ := hr.form
  have hcap := hr.cap_le.1
  obtain rfl := hr.len_u64
  have HRD := Lib.hid hr
  clear hr
  go_enter Try.func25, Try.ntmps25
  go_wp2
  go_loop [8, 47] (fun u i => ∃ j : Nat, j ≤ L.length ∧ i = .int .i64 j ∧ Hid (∀ q, q < j → L.getD q 0 < 5)) (fun _ i => L.length - (intOf i).toNat)
  case atStart => exact ⟨0, Nat.zero_le _, rfl, fun q hq => by omega⟩
  case round =>
    obtain ⟨j, hj, rfl, HK⟩ := hrel
    by_cases hlt : j < L.length
    · obtain ⟨b, off, rfl, hcell⟩ := HRD.out.at (by omega)
      have hc := hcell j _ (u64s_at L j hlt)
      have hmem : L.getD j 0 ∈ L := by simp [List.getD, List.getElem?_eq_getElem hlt]
      obtain ⟨x, hx⟩ : ∃ x, x = L.getD j 0 := ⟨_, rfl⟩
      rw [← hx] at hc hmem
      have HX := Lib.hid hx
      have HM := Lib.hid hmem
      clear hcell hx hmem
      by_cases hxp : (5 : Int) ≤ x
      · have hd : decide ((5 : Int) ≤ x) = true := decide_eq_true hxp
        have HXP := Lib.hid hxp
        go_wp2
        go_ret
        exact ⟨ret_int (HE2.out ⟨x, HM.out, HXP.out⟩).symm, rfl⟩
      · have hd : decide ((5 : Int) ≤ x) = false := decide_eq_false hxp
        have HXP := Lib.hid hxp
        go_wp2
        go_round
        case rel =>
          refine ⟨j + 1, by omega, by go_num, fun q hq => ?_⟩
          by_cases hqj : q = j
          · subst hqj; rw [← HX.out]; have := HXP.out; omega
          · exact HK.out q (by omega)
        case measure => simp [intOf]; omega
    · have HN2 : Hid (¬ ∃ x ∈ L, (5 : Int) ≤ x) := by
        rintro ⟨x, hx, hpx⟩
        obtain ⟨q, hq, he⟩ := List.mem_iff_getElem.1 hx
        have h1 := HK.out q (by omega)
        rw [show L.getD q 0 = x by simp [List.getD, List.getElem?_eq_getElem hq, he]] at h1
        omega
      clear HK
      go_wp2
      go_loop [9, 10, 11, 57] (fun u1 u2 u3 i => ∃ j : Nat, j ≤ L.length ∧ i = .int .i64 j ∧ Hid ((L.take j).Nodup)) (fun _ _ _ i => L.length - (intOf i).toNat)
      case atStart => exact ⟨0, Nat.zero_le _, rfl, by show List.Nodup _; simp⟩
      case round =>
        clear hlt hj
        obtain ⟨j, hj, rfl, HK⟩ := hrel
        by_cases hlt : j < L.length
        · obtain ⟨b, off, rfl, hcell⟩ := HRD.out.at (by omega)
          have hc := hcell j _ (u64s_at L j hlt)
          obtain ⟨x, hx⟩ : ∃ x, x = L.getD j 0 := ⟨_, rfl⟩
          rw [← hx] at hc
          have HX := Lib.hid hx
          have HC := Lib.hid hcell
          clear hcell hx
          go_wp2
          go_loop [11] (fun i => ∃ q : Nat, q ≤ j ∧ i = .int .i64 q ∧ Hid (∀ z, z < q → L.getD z 0 ≠ x)) (fun i => j - (intOf i).toNat)
          case atStart => exact ⟨0, Nat.zero_le _, rfl, fun z hz => by omega⟩
          case round =>
            obtain ⟨q, hq, rfl, HQ⟩ := hrel
            by_cases hltq : q < j
            · have hcq := HC.out q _ (u64s_at L q (by omega))
              obtain ⟨y, hy⟩ : ∃ y, y = L.getD q 0 := ⟨_, rfl⟩
              rw [← hy] at hcq
              have HY := Lib.hid hy
              clear hy
              by_cases hxy : y = x
              · have hd : (y == x) = true := by simpa using hxy
                have HXY := Lib.hid hxy
                clear hxy
                go_wp2
                go_ret
                refine ⟨ret_int (HE15.out HN2.out (take_dup hlt ?_)).symm, rfl⟩
                rw [← HX.out, ← HXY.out, HY.out]
                have hqt : q < (L.take j).length := by rw [List.length_take]; omega
                have : (L.take j)[q]'hqt = L.getD q 0 := by simp [List.getD, List.getElem?_eq_getElem (show q < L.length by omega)]
                rw [← this]
                exact List.getElem_mem hqt
              · have hd : (y == x) = false := by simpa using hxy
                have HXY := Lib.hid hxy
                clear hxy
                go_wp2
                go_round
                case rel =>
                  refine ⟨q + 1, by omega, by go_num, fun z hz => ?_⟩
                  by_cases hzq : z = q
                  · subst hzq; rw [← HY.out]; exact HXY.out
                  · exact HQ.out z (by omega)
                case measure => simp [intOf]; omega
            · have hnx : Hid ((L.take (j + 1)).Nodup) := by
                refine take_nodup_succ hlt HK.out fun hm => ?_
                obtain ⟨z, hz, he⟩ := List.mem_iff_getElem.1 hm
                rw [List.length_take] at hz
                have := HQ.out z (by omega)
                rw [HX.out] at this
                refine this ?_
                rw [← he]
                simp [List.getD, List.getElem?_eq_getElem (show z < L.length by omega)]
              clear HQ HK
              go_wp2
              go_round
              case rel => exact ⟨j + 1, by omega, by go_num, hnx⟩
              case measure => simp [intOf]; omega
        · have hnd : Hid (L.Nodup) := by
            have := HK.out
            rw [List.take_of_length_le (by omega)] at this
            exact this
          clear HK
          go_wp2
          go_ret
          exact ⟨ret_int (HE0.out HN2.out hnd.out).symm, rfl⟩

set_option maxRecDepth 100000 in
set_option maxHeartbeats 4000000 in
theorem points_7 (k : Nat) (L : List Int) (v : Value) (n : Nat) (w : World) (E : Int) (hr : Rd w 1 v n (u64s L)) (hk1 : 1 ≤ k) (hk : k ≤ 4) (hn1 : 1 ≤ n) (hn : n ≤ k)
    (HE2 : Hid ((∃ x ∈ L, (7 : Int) ≤ x) → E = 2)) (HE15 : Hid ((¬ ∃ x ∈ L, (7 : Int) ≤ x) → ¬ L.Nodup → E = 15)) (HE0 : Hid ((¬ ∃ x ∈ L, (7 : Int) ≤ x) → L.Nodup → E = 0)) :
    Calls Try.prog 25 #[.int .u64 7, .int .i64 k, v] w fun e w' => e = .returned (.int .i64 E) ∧ w' = w := by
  obtain ⟨sa, cap, rfl⟩ := hr.form
  have hcap := hr.cap_le.1
  obtain rfl := hr.len_u64
  have HRD := Lib.hid hr
  clear hr
  go_enter Try.func25, Try.ntmps25
  go_wp2
  go_loop [8, 47] (fun u i => ∃ j : Nat, j ≤ L.length ∧ i = .int .i64 j ∧ Hid (∀ q, q < j → L.getD q 0 < 7)) (fun _ i => L.length - (intOf i).toNat)
  case atStart => exact ⟨0, Nat.zero_le _, rfl, fun q hq => by omega⟩
  case round =>
    obtain ⟨j, hj, rfl, HK⟩ := hrel
    by_cases hlt : j < L.length
    · obtain ⟨b, off, rfl, hcell⟩ := HRD.out.at (by omega)
      have hc := hcell j _ (u64s_at L j hlt)
      have hmem : L.getD j 0 ∈ L := by simp [List.getD, List.getElem?_eq_getElem hlt]
      obtain ⟨x, hx⟩ : ∃ x, x = L.getD j 0 := ⟨_, rfl⟩
      rw [← hx] at hc hmem
      have HX := Lib.hid hx
      have HM := Lib.hid hmem
      clear hcell hx hmem
      by_cases hxp : (7 : Int) ≤ x
      · have hd : decide ((7 : Int) ≤ x) = true := decide_eq_true hxp
        have HXP := Lib.hid hxp
        go_wp2
        go_ret
        exact ⟨ret_int (HE2.out ⟨x, HM.out, HXP.out⟩).symm, rfl⟩
      · have hd : decide ((7 : Int) ≤ x) = false := decide_eq_false hxp
        have HXP := Lib.hid hxp
        go_wp2
        go_round
        case rel =>
          refine ⟨j + 1, by omega, by go_num, fun q hq => ?_⟩
          by_cases hqj : q = j
          · subst hqj; rw [← HX.out]; have := HXP.out; omega
          · exact HK.out q (by omega)
        case measure => simp [intOf]; omega
    · have HN2 : Hid (¬ ∃ x ∈ L, (7 : Int) ≤ x) := by
        rintro ⟨x, hx, hpx⟩
        obtain ⟨q, hq, he⟩ := List.mem_iff_getElem.1 hx
        have h1 := HK.out q (by omega)
        rw [show L.getD q 0 = x by simp [List.getD, List.getElem?_eq_getElem hq, he]] at h1
        omega
      clear HK
      go_wp2
      go_loop [9, 10, 11, 57] (fun u1 u2 u3 i => ∃ j : Nat, j ≤ L.length ∧ i = .int .i64 j ∧ Hid ((L.take j).Nodup)) (fun _ _ _ i => L.length - (intOf i).toNat)
      case atStart => exact ⟨0, Nat.zero_le _, rfl, by show List.Nodup _; simp⟩
      case round =>
        clear hlt hj
        obtain ⟨j, hj, rfl, HK⟩ := hrel
        by_cases hlt : j < L.length
        · obtain ⟨b, off, rfl, hcell⟩ := HRD.out.at (by omega)
          have hc := hcell j _ (u64s_at L j hlt)
          obtain ⟨x, hx⟩ : ∃ x, x = L.getD j 0 := ⟨_, rfl⟩
          rw [← hx] at hc
          have HX := Lib.hid hx
          have HC := Lib.hid hcell
          clear hcell hx
          go_wp2
          go_loop [11] (fun i => ∃ q : Nat, q ≤ j ∧ i = .int .i64 q ∧ Hid (∀ z, z < q → L.getD z 0 ≠ x)) (fun i => j - (intOf i).toNat)
          case atStart => exact ⟨0, Nat.zero_le _, rfl, fun z hz => by omega⟩
          case round =>
            obtain ⟨q, hq, rfl, HQ⟩ := hrel
            by_cases hltq : q < j
            · have hcq := HC.out q _ (u64s_at L q (by omega))
              obtain ⟨y, hy⟩ : ∃ y, y = L.getD q 0 := ⟨_, rfl⟩
              rw [← hy] at hcq
              have HY := Lib.hid hy
              clear hy
              by_cases hxy : y = x
              · have hd : (y == x) = true := by simpa using hxy
                have HXY := Lib.hid hxy
                clear hxy
                go_wp2
                go_ret
                refine ⟨ret_int (HE15.out HN2.out (take_dup hlt ?_)).symm, rfl⟩
                rw [← HX.out, ← HXY.out, HY.out]
                have hqt : q < (L.take j).length := by rw [List.length_take]; omega
                have : (L.take j)[q]'hqt = L.getD q 0 := by simp [List.getD, List.getElem?_eq_getElem (show q < L.length by omega)]
                rw [← this]
                exact List.getElem_mem hqt
              · have hd : (y == x) = false := by simpa using hxy
                have HXY := Lib.hid hxy
                clear hxy
                go_wp2
                go_round
                case rel =>
                  refine ⟨q + 1, by omega, by go_num, fun z hz => ?_⟩
                  by_cases hzq : z = q
                  · subst hzq; rw [← HY.out]; exact HXY.out
                  · exact HQ.out z (by omega)
                case measure => simp [intOf]; omega
            · have hnx : Hid ((L.take (j + 1)).Nodup) := by
                refine take_nodup_succ hlt HK.out fun hm => ?_
                obtain ⟨z, hz, he⟩ := List.mem_iff_getElem.1 hm
                rw [List.length_take] at hz
                have := HQ.out z (by omega)
                rw [HX.out] at this
                refine this ?_
                rw [← he]
                simp [List.getD, List.getElem?_eq_getElem (show z < L.length by omega)]
              clear HQ HK
              go_wp2
              go_round
              case rel => exact ⟨j + 1, by omega, by go_num, hnx⟩
              case measure => simp [intOf]; omega
        · have hnd : Hid (L.Nodup) := by
            have := HK.out
            rw [List.take_of_length_le (by omega)] at this
            exact this
          clear HK
          go_wp2
          go_ret
          exact ⟨ret_int (HE0.out HN2.out hnd.out).symm, rfl⟩

theorem points_rest (P k : Nat) (L : List Int) (v : Value) (n : Nat) (w : World) (hr : Rd w 1 v n (u64s L)) (hP : smallP P) (hk1 : 1 ≤ k) (hk : k ≤ 4) (hn1 : 1 ≤ n) (hn : n ≤ k) :
    Calls Try.prog 25 #[.int .u64 P, .int .i64 k, v] w fun e w' => e = .returned (.int .i64 (if ∃ x ∈ L, (P : Int) ≤ x then 2 else if ¬ L.Nodup then 15 else 0)) ∧ w' = w := by
  rcases hP with rfl | rfl | rfl | rfl
  · exact points_2 k L v n w _ hr hk1 hk hn1 hn (fun h => if_pos h) (fun h h' => (if_neg h).trans (if_pos h')) (fun h h' => (if_neg h).trans (if_neg (fun h => h h')))
  · exact points_3 k L v n w _ hr hk1 hk hn1 hn (fun h => if_pos h) (fun h h' => (if_neg h).trans (if_pos h')) (fun h h' => (if_neg h).trans (if_neg (fun h => h h')))
  · exact points_5 k L v n w _ hr hk1 hk hn1 hn (fun h => if_pos h) (fun h h' => (if_neg h).trans (if_pos h')) (fun h h' => (if_neg h).trans (if_neg (fun h => h h')))
  · exact points_7 k L v n w _ hr hk1 hk hn1 hn (fun h => if_pos h) (fun h h' => (if_neg h).trans (if_pos h')) (fun h h' => (if_neg h).trans (if_neg (fun h => h h')))

end Go.Proofs.Ytnnaijbdimdhpaa
