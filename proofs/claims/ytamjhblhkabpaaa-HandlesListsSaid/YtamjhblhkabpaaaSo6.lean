/-
  pdqsort at few distinct words: what it leaves rises.
-/
import Derived.Test.YtamjhblhkabpaaaSo4
import Derived.Test.YtamjhblhkabpaaaSo5
import Derived.Deep.CutBlock
import Derived.Deep.DeepCutAuto
namespace Go.Proofs.Ytamjhblhkabpaaa
open Go.RowKit
set_option linter.unusedVariables false
set_option linter.unusedSimpArgs false

set_option maxRecDepth 100000 in
set_option maxHeartbeats 4000000 in
/-- a short part: insertion sort -/
theorem pdqS_any (w : World) (g n cap a b : Nat) (lim : Nat) (L : List Int) (h : RowU w g n cap L) (hnd : L.Nodup) (hab : a ≤ b) (hb : b ≤ n) (hn : 0 < n) (h16 : n ≤ 16) (h12 : b ≤ a + 12) :
    Calls Try.prog 25 #[.slice (some ⟨g, 0, none⟩) n cap, .int .i64 a, .int .i64 b, .int .i64 lim] w fun e w' => e = .returned (.tuple #[]) ∧ ∃ L', Seg a b L L' ∧ Rise a b L' ∧ RowU w' g n cap L' ∧ Chg (fun k => k = g) w w' := by
  have HI := Lib.hid (insU_any w g n cap a b L h hnd hab hb hn h16)
  have hl : (b : Int) - (a : Int) ≤ 12 := by omega
  clear h hnd
  go_enter Try.func25, Try.ntmps25
  go_wp2_with fail
  go_loopw [1, 2, 3, 8, 9, 10, 11, 12, 13, 14, 15, 16, 17, 18] (fun sa sb sl s8 s9 _ _ _ _ _ _ _ _ _ wx => sa = .int .i64 a ∧ sb = .int .i64 b ∧ sl = .int .i64 lim ∧ s8 = .bool true ∧ s9 = .bool true ∧ Hid (w = wx)) (fun _ _ _ _ _ _ _ _ _ _ _ _ _ _ _ => 0)
  case atStart => exact ⟨rfl, rfl, rfl, rfl, rfl, rfl⟩
  case round =>
    obtain ⟨rfl, rfl, rfl, rfl, rfl, hw⟩ := hrel
    obtain rfl := hw.out
    clear hw
    go_wp2_with fail
    refine HI.out.mono ?_
    rintro e w2 ⟨rfl, L2, h1, h2, h3, h4⟩
    have H := Lib.hid h1; have H2 := Lib.hid h2; have H3 := Lib.hid h3; have H4 := Lib.hid h4
    clear h1 h2 h3 h4
    go_wp2_with fail
    refine bodyPost_ret (results_none rfl _ _ _) rfl ?_
    exact ⟨rfl, L2, H.out, H2.out, H3.out, H4.out⟩

theorem Seg.ofPart {a b n : Nat} {L L1 L2 : List Int} (h : Seg 0 n L L1) (k : Seg a b L1 L2) (hb : b ≤ n) : Seg 0 n L L2 := h.trans (k.wider (Nat.zero_le _) hb)

set_option maxRecDepth 100000 in
set_option maxHeartbeats 8000000 in
theorem pdqU_any (w : World) (g n cap : Nat) (lim0 : Nat) (L : List Int) (h : RowU w g n cap L) (hnd : L.Nodup) (hn : 0 < n) (h16 : n ≤ 16) (hlim : n ≤ 12 + lim0) (hlim2 : lim0 ≤ 64) :
    Calls Try.prog 25 #[.slice (some ⟨g, 0, none⟩) n cap, .int .i64 0, .int .i64 n, .int .i64 lim0] w fun e w' => e = .returned (.tuple #[]) ∧ ∃ L', Seg 0 n L L' ∧ Rise 0 n L' ∧ RowU w' g n cap L' ∧ Chg (fun k => k = g) w w' := by
  have HND := Lib.hid hnd; have HR0 := Lib.hid h
  clear h hnd
  go_enter Try.func25, Try.ntmps25
  go_wp2_with fail
  go_loopw [1, 2, 3, 8, 9, 10, 11, 12, 13, 14, 15, 16, 17, 18] (fun sa sb sl s8 s9 _ _ _ _ _ _ _ _ _ wx => ∃ (a b lim : Nat) (bal par : Bool) (L1 : List Int), sa = .int .i64 a ∧ sb = .int .i64 b ∧ sl = .int .i64 lim ∧ s8 = .bool bal ∧ s9 = .bool par ∧ a ≤ b ∧ b ≤ n ∧ b ≤ a + 12 + lim ∧ (bal = false → b ≤ a + 11 + lim) ∧ lim ≤ 64 ∧ Hid (Okay a b n L1) ∧ Hid (Seg 0 n L L1) ∧ Hid (RowU wx g n cap L1) ∧ Hid (Chg (fun k => k = g) w wx)) (fun sa sb _ _ _ _ _ _ _ _ _ _ _ _ _ => (intOf sb).toNat - (intOf sa).toNat)
  case atStart => exact ⟨0, n, lim0, true, true, L, rfl, rfl, rfl, rfl, rfl, Nat.zero_le _, Nat.le_refl _, by omega, (fun h => by cases h), hlim2, okay_start _ _, Seg.refl _ _ _, HR0, Chg.refl _ _⟩
  case round =>
    clear HR0
    obtain ⟨a, b, lim, bal, par, L1, rfl, rfl, rfl, rfl, rfl, hab, hb, hl1, hl2, hl3, HO, HS, HR, HC⟩ := hrel
    by_cases h12 : b ≤ a + 12
    · have hl : (b : Int) - (a : Int) ≤ 12 := by omega
      have HI := Lib.hid (insU_any wr g n cap a b L1 HR.out (HS.out.nodup HND.out) hab hb hn h16)
      clear hl1 hl2 hl3
      go_wp2_with fail
      refine HI.out.mono ?_
      rintro e w2 ⟨rfl, L2, h1, h2, h3, h4⟩
      have H := Lib.hid (HS.out.ofPart h1 hb); have H2 := Lib.hid (rise_of_okay (okay_seg hab hb HO.out h1) h2); have H3 := Lib.hid h3; have H4 := Lib.hid (HC.out.trans h4)
      clear h1 h2 h3 h4
      go_wp2_with fail
      refine bodyPost_ret (results_none rfl _ _ _) rfl ?_
      exact ⟨rfl, L2, H.out, H2.out, H3.out, H4.out⟩
    · obtain ⟨l, hl⟩ : ∃ l : Nat, (b : Int) - (a : Int) = (l : Int) := ⟨b - a, by omega⟩
      have l12 : ¬ (l : Int) ≤ 12 := by omega
      have z0 : ((lim : Int) == 0) = false := by rw [beq_eq_false_iff_ne]; omega
      have hb8 : a + 8 ≤ b := by omega
      go_upto_if 35 with fail
      go_cut [3] (fun s3 wx => ∃ (lim : Nat) (L2 : List Int), s3 = .int .i64 lim ∧ b ≤ a + 12 + lim ∧ lim ≤ 64 ∧ Hid (Okay a b n L2) ∧ Hid (Seg 0 n L L2) ∧ Hid (RowU wx g n cap L2) ∧ Hid (Chg (fun k => k = g) w wx))
      case first =>
        cases bal with
        | true =>
          go_wp2_with fail
          go_meet
          exact ⟨lim, L1, rfl, hl1, hl3, HO, HS, HR, HC⟩
        | false =>
          have hq := hl2 rfl
          obtain ⟨lim, rfl⟩ : ∃ m, lim = m + 1 := ⟨lim - 1, by omega⟩
          have e1 : (lim : Int) + 1 - 1 = (lim : Int) := by omega
          have HI := Lib.hid (breakU_any wr g n cap a b L1 HR.out (HS.out.nodup HND.out) hb8 hb h16)
          clear hl2
          go_wp2_with fail
          refine HI.out.mono ?_
          rintro e w2 ⟨rfl, L2, h1, h3, h4⟩
          have H := Lib.hid (HS.out.ofPart h1 hb); have H2 := Lib.hid (okay_seg hab hb HO.out h1); have H3 := Lib.hid h3; have H4 := Lib.hid (HC.out.trans h4)
          clear h1 h3 h4
          go_wp2_with fail
          go_meet
          exact ⟨lim, L2, rfl, by omega, by omega, H2, H, H3, H4⟩
      case rest =>
        clear hl1 hl2 hl3 HO HS HR HC z0
        obtain ⟨lim, L2, rfl, hl1, hl3, HO, HS, HR, HC⟩ := hcut
        have HPV := Lib.hid (pivotU_any wc g n cap a b L2 HR.out hb8 hb h16)
        go_wp2_with fail
        refine HPV.out.mono ?_
        rintro e w3 ⟨p, hint, rfl, hpa, hpb, hh, hbel⟩
        have HR3 := Lib.hid (HR.out.same (hbel.block g (HR.out.ptr hn).2.1))
        have HC3 := Lib.hid (HC.out.trans (Chg.of_below hbel))
        have hne2 : (hint == 2) = false := by rcases hh with rfl | rfl <;> rfl
        clear hbel HPV HR HC
        go_upto_region 15 with fail
        go_cut [68] (fun s68 wx => ∃ c : Bool, s68 = .bool c ∧ Hid (w3 = wx))
        case first =>
          rcases hh with rfl | rfl <;> cases bal <;> cases par <;> (go_wp2_with fail; go_meet; exact ⟨_, rfl, rfl⟩)
        case rest =>
          obtain ⟨c, rfl, hw⟩ := hcut
          obtain rfl := hw.out
          clear hw hh hne2
          go_upto_if 68 with fail
          go_cut [] (fun wx => Hid (RowU wx g n cap L2) ∧ Hid (Chg (fun k => k = g) w wx))
          case first =>
            cases c with
            | false =>
              go_wp2_with fail
              go_meet
              exact ⟨HR3, HC3⟩
            | true =>
              have HI := Lib.hid (partU_any w3 g n cap a b L2 HR3.out (HS.out.nodup HND.out) (by omega) hb h16)
              go_wp2_with fail
              refine HI.out.mono ?_
              rintro e w4 ⟨r, q, rfl, hr, rfl⟩
              cases r with
              | true =>
                have H2 := Lib.hid (rise_of_okay HO.out (hr rfl))
                clear hr
                go_wp2_with fail
                refine bodyPost_ret (results_none rfl _ _ _) rfl ?_
                exact ⟨rfl, L2, HS.out, H2.out, HR3.out.drewN _, HC3.out.drewN _⟩
              | false =>
                clear hr
                go_wp2_with fail
                go_meet
                exact ⟨HR3.out.drewN _, HC3.out.drewN _⟩
          case rest =>
            clear HR3 HC3
            obtain ⟨HR, HC⟩ := hcut
            go_upto_region 17 with fail
            go_cut [87] (fun s87 wx => s87 = .bool false ∧ Hid (RowU wx g n cap L2) ∧ Hid (Chg (fun k => k = g) w wx))
            case first =>
              obtain ⟨hLn, hg', hcap', hcell, hfz⟩ := HR.out.ptr hn
              by_cases ha : 0 < a
              · have za : (0 : Int) < (a : Int) := by omega
                obtain ⟨a1, ha1⟩ : ∃ a1 : Nat, (a : Int) - 1 = (a1 : Int) := ⟨a - 1, by omega⟩
                have c1 := hcell a1 (by omega)
                have c2 := hcell p (by omega)
                have z1 : (a1 : Int) < (n : Int) := by omega
                have z2 : (p : Int) < (n : Int) := by omega
                have hlt := HO.out a1 p (by omega) (by omega) (.inl (by omega))
                have hLL := fun W => lessU_any (L2.getD a1 0) (L2.getD p 0) W
                rw [decide_eq_true hlt] at hLL
                generalize L2.getD a1 0 = x at *
                generalize L2.getD p 0 = y at *
                have HLL := Lib.hid hLL
                clear hLL hlt hcell hfz hLn hl
                go_wp2_with fail
                go_quiet ((go_at_call 33; exact Calls.quiet_of_same (HLL.out _)))
                go_wp2_with fail
                go_meet
                exact ⟨rfl, HR.out.drewN _, HC.out.drewN _⟩
              · have za : ¬ (0 : Int) < (a : Int) := by omega
                clear hcell hfz hLn hl
                go_wp2_with fail
                go_quiet (fail)
                go_wp2_with fail
                go_meet
                exact ⟨rfl, HR.out.drewN _, HC.out.drewN _⟩
            case rest =>
              clear HR HC
              obtain ⟨rfl, HR, HC⟩ := hcut
              have HPT := Lib.hid (partitionU_any wc g n cap a b p L2 HR.out (HS.out.nodup HND.out) hpa hpb (by omega) hb h16)
              go_wp2_with fail
              refine HPT.out.mono ?_
              rintro e w5 ⟨m, r, L4, rfl, hm1, hm2, hsg, hpt, hr5, hc5⟩
              have HS4 := Lib.hid (HS.out.ofPart hsg hb)
              have HO4 := Lib.hid (okay_seg hab hb HO.out hsg)
              have HC4 := Lib.hid (HC.out.trans hc5)
              have HR4 := Lib.hid hr5
              have HPA := Lib.hid hpt
              obtain ⟨l1, hl1'⟩ : ∃ l1 : Nat, (m : Int) - (a : Int) = (l1 : Int) := ⟨m - a, by omega⟩
              obtain ⟨l2, hl2'⟩ : ∃ l2 : Nat, (b : Int) - (m : Int) = (l2 : Int) := ⟨b - m, by omega⟩
              obtain ⟨l8, hl8⟩ : ∃ l8 : Nat, Int.tdiv (l : Int) 8 = (l8 : Int) := ⟨l / 8, by simp⟩
              have hl8b : l8 ≤ 16 := by
                have : (l8 : Int) = ((l / 8 : Nat) : Int) := by rw [← hl8]; simp
                omega
              clear HR HC HPT hsg hpt hr5 hc5 HO HS
              by_cases hlr : l1 < l2
              · have zlr : (l1 : Int) < (l2 : Int) := by omega
                have HI := Lib.hid (pdqS_any w5 g n cap a m lim L4 HR4.out (HS4.out.nodup HND.out) hm1 (by omega) hn h16 (by omega))
                clear hl
                go_wp2_with fail
                refine HI.out.mono ?_
                rintro e w6 ⟨rfl, L5, h1, h2, h3, h4⟩
                have H1 := Lib.hid (HS4.out.ofPart h1 (by omega)); have H2 := Lib.hid (okay_left ⟨hm1, hm2⟩ hb HO4.out HPA.out h1 h2); have H3 := Lib.hid h3; have H4 := Lib.hid (HC4.out.trans h4)
                clear h1 h2 h3 h4 HI
                go_wp2_with fail
                go_roundw
                case rel => exact ⟨m + 1, b, lim, _, _, L5, by go_num, rfl, rfl, rfl, rfl, by omega, hb, by omega, (fun _ => by omega), hl3, H2, H1, H3, H4⟩
                case measure => simp [intOf]; omega
              · have zlr : ¬ (l1 : Int) < (l2 : Int) := by omega
                have HI := Lib.hid (pdqS_any w5 g n cap (m + 1) b lim L4 HR4.out (HS4.out.nodup HND.out) (by omega) (by omega) hn h16 (by omega))
                clear hl
                go_wp2_with fail
                refine HI.out.mono ?_
                rintro e w6 ⟨rfl, L5, h1, h2, h3, h4⟩
                have H1 := Lib.hid (HS4.out.ofPart h1 hb); have H2 := Lib.hid (okay_right ⟨hm1, hm2⟩ hb HO4.out HPA.out h1 h2); have H3 := Lib.hid h3; have H4 := Lib.hid (HC4.out.trans h4)
                clear h1 h2 h3 h4 HI
                go_wp2_with fail
                go_roundw
                case rel => exact ⟨a, m, lim, _, _, L5, rfl, rfl, rfl, rfl, rfl, by omega, by omega, by omega, (fun _ => by omega), hl3, H2, H1, H3, H4⟩
                case measure => simp [intOf]; omega

end Go.Proofs.Ytamjhblhkabpaaa
