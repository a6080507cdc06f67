/-
  What a tape leaves in a reservoir's slots: reservoir.Take; the reference's Limits and Take.
-/
import Derived.Test.YtcoohepkmhpdkaaGreatSTake
import Derived.Test.YtcoohepkmhpdkaaGreatRes3
namespace Go.Proofs.YtcoohepkmhpdkaaGreat
open Go.RowKit
set_option linter.unusedVariables false

/-- k + 1, .., n -/
def limR (n k : Nat) : List Nat := (List.range (n - k)).map fun i => k + i + 1
theorem limR_len (n k : Nat) : (limR n k).length = n - k := by simp [limR]
theorem limR_get {n k i : Nat} (h : i < n - k) : (limR n k).getD i 0 = k + i + 1 := by simp [limR, List.getD, h]
theorem limR_ok {n k : Nat} (hn : n ≤ 50000) : Lims (limR n k) := by
  intro x hx
  obtain ⟨i, hi, rfl⟩ := List.mem_map.1 hx
  have := List.mem_range.1 hi
  rw [p64]
  omega
theorem rowN_res {l : List Nat} (hw : W64 l) {n k k0 : Nat} (hk : k ≤ n) (hn : n ≤ 50000) {r : List Drw × Nat} (h : rowA l (limR n k) [] k0 = some r) : resRightB n k (numsI r.1) = true := by
  have hl := rowA_len h
  rw [limR_len] at hl
  simp only [List.length_nil, Nat.zero_add] at hl
  refine resRightB_iff.2 ⟨by rw [numsI_len, hl], fun i hi => ?_⟩
  rw [numsI_len, hl] at hi
  have := rowA_lt hw (limR_ok hn) h i (by rw [limR_len]; exact hi)
  rw [limR_get hi] at this
  simp only [List.length_nil, Nat.zero_add] at this
  have e : (numsI r.1).getD i 0 = ((r.1.getD i dwZ).1 : Int) := by
    simp [numsI, List.getD, List.getElem?_eq_getElem (show i < r.1.length by omega)]
  rw [e]
  omega

set_option maxRecDepth 100000 in
set_option maxHeartbeats 1000000 in
theorem rvtake_bad (w : World) (b : Nat) (n k : Int) (h : resChk n k ≠ 0) :
    Calls Tryz.prog 35 #[.pointer (some ⟨b, 0, none⟩), .int .i64 n, .int .i64 k] w fun e w' => e = .returned (.tuple #[.slice none 0 0, .slice none 0 0, .int .i64 (resChk n k)]) ∧ w = w' := by
  have h1 : ((resChk n k) != 0) = true := by simpa using h
  have C := Lib.hid (reschk_any n k w)
  generalize resChk n k = E at *
  clear h
  go_enter Tryz.func35, Tryz.ntmps35
  go_wp2_with fail
  refine C.out.mono ?_
  rintro e w' ⟨rfl, rfl⟩
  go_wp2_with fail
  go_ret3
  exact ⟨rfl, rfl⟩

set_option maxRecDepth 100000 in
set_option maxHeartbeats 8000000 in
theorem rvtake_any (W : World) (B b : Nat) (wv tv : Value) (l : List Nat) (k0 n k : Nat) (ht : TapeAt W B b wv tv (zsN l) k0) (hl : l.length < 50000) (hw : W64 l) (hk : k ≤ n) (hn : n ≤ 256) :
    Calls Tryz.prog 35 #[.pointer (some ⟨b, 0, none⟩), .int .i64 (n : Int), .int .i64 (k : Int)] W fun e w' => TkE (rowA l (limR n k) [] k0)
      (fun r => (∃ sp cp sd cd, e = .returned (.tuple #[.slice sp k cp, .slice sd (n - k) cd, .int .i64 0]) ∧ w'.ownsRow W.heap.size 3 1 (.slice sp k cp) k (i64s (slotsL k (numsI r.1))) ∧ w'.ownsRow W.heap.size 65 3 (.slice sd (n - k) cd) (n - k) (dwC r.1)) ∧ TapeTo W w' B b wv tv (zsN l) r.2 W.heap.size)
      (e = .returned (.tuple #[.slice none 0 0, .slice none 0 0, .int .i64 7]) ∧ TapeTo W w' B b wv tv (zsN l) l.length W.heap.size) := by
  have hck := resChk_zero.2 (show (0 : Int) ≤ (n : Int) ∧ (0 : Int) ≤ (k : Int) ∧ (k : Int) ≤ (n : Int) ∧ (n : Int) ≤ 256 by omega)
  have HCK := Lib.hid hck; clear hck
  obtain ⟨N, hN⟩ : ∃ N, N = n - k := ⟨_, rfl⟩
  rw [← hN]
  have HNK := Lib.hid hN; clear hN
  have HM := Lib.hid (Mid.start ht)
  have HW := Lib.hid hw
  clear ht hw
  obtain ⟨R, hR⟩ : ∃ R, R = rowA l (limR n k) [] k0 := ⟨_, rfl⟩
  rw [← hR]
  have HR0 := Lib.hid hR; clear hR
  go_enter Tryz.func35, Tryz.ntmps35
  go_wp2_with fail
  refine (reschk_any (n : Int) (k : Int) W).mono ?_
  rintro e w' ⟨rfl, rfl⟩
  rw [HCK.out]
  go_wp2_with fail
  go_loopw [10, 11, 12] (fun s10 s11 s12 wr => ∃ (i j used : Nat) (acc : List Drw) (tv2 : Value) (sc : Option Addr) (cc : Nat) (sd : Option Addr) (cd : Nat), i ≤ n ∧ s12 = .int .i64 i ∧ s10 = .slice sc j cc ∧ s11 = .slice sd j cd ∧ j ≤ 256 ∧ Hid (i = k + j) ∧ Hid (acc.length = j) ∧ Hid (Mid W wr B b wv tv tv2 (zsN l) used (.slice sc j cc) (.slice sd j cd) acc) ∧ Hid (R = rowA l ((limR n k).drop j) acc used)) (fun _ _ i _ => n - (intOf i).toNat)
  case atStart => exact ⟨k, 0, k0, [], tv, none, 0, none, 0, hk, rfl, rfl, rfl, by omega, Lib.hid rfl, Lib.hid rfl, HM, HR0⟩
  case round =>
    obtain ⟨i, j, used, acc, tv2, sc, cc, sd, cd, hj, rfl, rfl, rfl, hj2, HIJ, HA, HMj, HRj⟩ := hrel
    clear HM
    by_cases hlt : i < n
    · have hjk : j < n - k := by have := HIJ.out; omega
      have hst := rowA_step (l := l) (ns := limR n k) (i := j) (by rw [limR_len]; exact hjk) acc used
      rw [limR_get hjk, ← HIJ.out] at hst
      obtain ⟨m, hm⟩ : ∃ m, m = i + 1 := ⟨_, rfl⟩
      have e1 : ((i : Int) + 1) = (m : Int) := by omega
      rw [← hm] at hst
      have hp : 0 < m := by omega
      have hp2 : m < 2 ^ 64 := by rw [p64]; omega
      have hT := ltake_any wr B b wv tv2 l used m HMj.out.tape hl HW.out hp hp2
      have bnj : m ≤ 256 := by omega
      have HMI := Lib.hid hm
      have HST := Lib.hid hst; have HT := Lib.hid hT; have HP := Lib.hid hp
      clear hst hT hp hp2 hm hjk
      go_wp2_with fail
      cases htk : takeN m 0 (l.drop used) with
      | none =>
        have hT := HT.out
        rw [htk] at hT
        refine hT.mono ?_
        rintro e w1 ⟨rfl, ht1⟩
        have hE : R = none := by rw [HRj.out, HST.out, htk]
        obtain ⟨tv3, hm3⟩ := HMj.out.drawn ht1
        have HM3 := Lib.hid hm3; have HE := Lib.hid hE
        clear hm3 hE ht1 hT htk
        go_wp2_with fail
        go_ret3
        rw [HE.out]
        obtain ⟨⟨tv4, h6, h7⟩, h8⟩ := HM3.out.to
        exact ⟨rfl, ⟨tv4, h6.below ((Below.refl _ _).alloc (Nat.le_refl _) _), h7⟩, h8.alloc _⟩
      | some d =>
        have hT := HT.out
        rw [htk] at hT
        refine hT.mono ?_
        rintro e w1 ⟨rfl, ht1⟩
        have hE : R = rowA l ((limR n k).drop (j + 1)) (acc ++ [d]) (used + d.2.2) := by rw [HRj.out, HST.out, htk]
        obtain ⟨tv3, hm3⟩ := HMj.out.drawn ht1
        have hd1 : d.1 < m := by
          have h2 := takeN_word htk
          have hu := takeN_used htk
          rw [h2.2.1]
          refine telN_lt (W64.at (l := l.drop used) (fun a ha => HW.out a (List.mem_of_mem_drop ha)) ?_) HP.out
          omega
        have hj2 := HA.out
        have ht0 : Two W.heap.size w1 w1 (.slice sc j cc) (.slice sd j cd) (.slice sc j cc) (.slice sd j cd) j j (i64s (numsI acc)) (dwC acc) := by
          have h1 := hm3.cs
          have h2 := hm3.ds
          rw [hj2] at h1 h2
          exact Two.start h1 h2 hm3.chg.size
        have HT0 := Lib.hid ht0
        have hbc : ∀ k, (Value.slice sc j cc).ownBlock = some k → k < w1.heap.size := fun k hk => (ht0.cs.lt k hk).2
        have hbd : ∀ k, (Value.slice sd j cd).ownBlock = some k → k < w1.heap.size := fun k hk => (ht0.ds.lt k hk).2
        have HBC := Lib.hid hbc; have HBD := Lib.hid hbd
        have HM3 := Lib.hid hm3; have HE := Lib.hid hE
        clear hm3 hE ht1 hT htk ht0 hbc hbd hj2
        obtain ⟨d1, d2, d3⟩ := d
        simp only at hd1
        have hwr : IntKind.i64.wrap (d1 : Int) = (d1 : Int) := by rw [IntKind.wrap_i64]; omega
        go_wp2_with fail
        go_region_held3 (fun w' => w'.cell? ⟨w1.heap.size, 0, none⟩ = some (.int .u64 (d1 : Int)) ∧ w'.cell? ⟨w1.heap.size, 1, none⟩ = some (.int .u64 (d2 : Int)) ∧ w'.cell? ⟨w1.heap.size, 2, none⟩ = some (.int .i64 (d3 : Int)))
          (first | go_keep | (go_split_ands; refine ⟨?_, ?_, ?_⟩ <;> (rw [hkeep _ _ (by first | (simp; done) | (simp; omega) | omega) (fun k hk => by first | exact HBC.out k hk | exact HBD.out k hk)]; assumption)))
          (first
            | (refine step_appc (vc := .slice sc j cc) (o := ⟨some 45, _, _, _, _, _⟩) (by rfl) _ _ (by rfl) (by rfl) (by repeat (first | with_reducible exact HTn | with_reducible exact HT0.out | with_reducible apply Two.alloc | with_reducible apply Two.drew)) _ (.int .i64 (d1 : Int)) (by rfl) (by first | (go_simp; done) | (rw [hkeep _ _ (by first | (simp; done) | (simp; omega)) (fun k hk => by first | (have := HBC.out k hk; omega) | (have := HBD.out k hk; omega))]; go_simp; done)) (by rfl) (by omega) ?_; intro sa1 ca1 w2 HTn hkeep hsz; have hsz2 : w1.heap.size + 2 ≤ w2.heap.size := (by first | (simp at hsz; omega) | omega); clear hsz)
            | (refine step_appd (vd := .slice sd j cd) (o := ⟨some 49, _, _, _, _, _⟩) (by rfl) _ _ (by rfl) (by rfl) (by repeat (first | with_reducible exact HTn | with_reducible exact HT0.out | with_reducible apply Two.alloc | with_reducible apply Two.drew)) _ (.int .u64 (d1 : Int)) (.int .u64 (d2 : Int)) (.int .i64 (d3 : Int)) (by rfl) (by first | (go_simp; done) | (rw [hkeep _ _ (by first | (simp; done) | (simp; omega)) (fun k hk => by first | (have := HBC.out k hk; omega) | (have := HBD.out k hk; omega))]; go_simp; done)) (by first | (go_simp; done) | (rw [hkeep _ _ (by first | (simp; done) | (simp; omega)) (fun k hk => by first | (have := HBC.out k hk; omega) | (have := HBD.out k hk; omega))]; go_simp; done)) (by first | (go_simp; done) | (rw [hkeep _ _ (by first | (simp; done) | (simp; omega)) (fun k hk => by first | (have := HBC.out k hk; omega) | (have := HBD.out k hk; omega))]; go_simp; done)) (by rfl) (by rfl) (by rfl) (by omega) ?_; intro sd1 cd1 w2 HTn hkeep hsz; have hsz2 : w1.heap.size + 2 ≤ w2.heap.size := (by first | (simp at hsz; omega) | omega); clear hsz))
        all_goals
          have hM : Mid W w2 B b wv tv tv3 (zsN l) (used + d3) (.slice sa1 (j + 1) ca1) (.slice sd1 (j + 1) cd1) (acc ++ [(d1, d2, d3)]) := by
            have h1 := HTn
            rw [← HA.out] at h1
            have h2 := HM3.out
            rw [← HA.out] at h2 ⊢
            exact h2.more h1
          have HMn := Lib.hid hM
          clear hM HTn hkeep hwr
          go_wp2_with fail
          go_roundw
          case rel => exact ⟨m, j + 1, used + d3, acc ++ [(d1, d2, d3)], tv3, sa1, ca1, sd1, cd1, by have := HMI.out; omega, rfl, rfl, rfl, by have := HMI.out; have := HIJ.out; omega, Lib.hid (by rw [HMI.out, HIJ.out]; rfl), Lib.hid (by rw [List.length_append, HA.out]; rfl), HMn, HE⟩
          case measure => have := HMI.out; simp [intOf]; omega
    · have hjk : j = N := by have := HIJ.out; have := HNK.out; omega
      have hjn : j = n - k := by have := HIJ.out; omega
      subst hjk
      have hE : R = some (acc, used) := by rw [HRj.out, show (limR n k).drop j = [] from List.drop_of_length_le (by rw [limR_len]; omega)]; rfl
      have hsb : resRightB n k (numsI acc) = true := by
        have h5 := HR0.out
        rw [hE] at h5
        exact rowN_res HW.out hk (by omega) h5.symm
      have hcs := HMj.out.cs
      rw [HA.out] at hcs
      have hP := slots_ok wr n k (.slice sc j cc) j (numsI acc) (rd_of_row hcs) hk hn hsb
      have HP := Lib.hid hP; have HE := Lib.hid hE
      clear hP hE hsb hcs hjn
      go_wp2_with fail
      refine HP.out.mono ?_
      rintro e w1 ⟨sp, cp, rfl, hrd, hb⟩
      have HRD := Lib.hid hrd; have HB := Lib.hid hb
      clear hrd hb
      go_wp2_with fail
      go_ret3
      rw [HE.out]
      have hds := HMj.out.ds
      rw [HA.out] at hds
      obtain ⟨⟨tv4, h6, h7⟩, h8⟩ := HMj.out.to
      exact ⟨⟨sp, cp, sd, cd, rfl, row_mono HRD.out HMj.out.chg.size, row_chg hds (Chg.of_below (S := fun _ => False) HB.out) (fun _ _ h => h)⟩, ⟨tv4, h6.below HB.out, h7⟩, h8.trans (Chg.of_below HB.out)⟩

set_option maxRecDepth 100000 in
set_option maxHeartbeats 1000000 in
theorem rlim42_any (w : World) (n k : Nat) (hk : k ≤ n) (hn : n ≤ 50000) :
    Calls Tryz.prog 43 #[.int .i64 (n : Int), .int .i64 (k : Int)] w fun e w' => ∃ sa cap, e = .returned (.slice sa (n - k) cap) ∧ w'.ownsRow w.heap.size 48 1 (.slice sa (n - k) cap) (n - k) (u64s (zsN (limR n k))) ∧ Below w.heap.size w w' := by
  obtain ⟨N, hN⟩ : ∃ N, N = n - k := ⟨_, rfl⟩
  have HNK := Lib.hid hN
  rw [← hN]
  clear hN
  go_enter Tryz.func43, Tryz.ntmps43
  go_wp2
  go_loopw [5, 6] (fun v s wr => ∃ (i j : Nat) (sa : Option Addr) (cap : Nat), i ≤ n ∧ s = .int .i64 i ∧ v = .slice sa j cap ∧ j ≤ 50000 ∧ Hid (i = k + j) ∧ Hid (wr.ownsRow w.heap.size 48 1 (.slice sa j cap) j (u64s (zsN ((limR n k).take j)))) ∧ Hid (Below w.heap.size w wr)) (fun _ i _ => n - (intOf i).toNat)
  case atStart => exact ⟨k, 0, none, 0, hk, rfl, rfl, by omega, Lib.hid rfl, World.ownsRow_nil _ _ _ _, Below.refl _ _⟩
  case round =>
    obtain ⟨i, j, sa, cap, hj, rfl, rfl, hj2, HIJ, HO, HB⟩ := hrel
    by_cases hlt : i < n
    · have hjk : j < n - k := by have := HIJ.out; omega
      have hs : (limR n k).take (j + 1) = (limR n k).take j ++ [i + 1] := by
        rw [List.take_succ_eq_append_getElem (by rw [limR_len]; exact hjk)]
        have h1 := limR_get hjk
        rw [List.getD_eq_getElem?_getD, List.getElem?_eq_getElem (by rw [limR_len]; exact hjk)] at h1
        simp only [Option.getD_some] at h1
        rw [h1, HIJ.out]
      obtain ⟨m, hm⟩ : ∃ m, m = i + 1 := ⟨_, rfl⟩
      have e1 : ((i : Int) + 1) = (m : Int) := by omega
      rw [← hm] at hs
      have HS := Lib.hid hs; have HMI := Lib.hid hm; clear hs hm hjk
      go_wp2_with (at_builtin; refine app_u64 _ rfl _ _ rfl w.heap.size _ _ _ rfl HO.out _ _ rfl ?qg ?qn ?qb ?_)
      case qg => rfl
      case qn => omega
      case qb => exact HB.out.size
      intro v' w1 hown hchg hfresh
      obtain ⟨sa', cap', rfl⟩ := (rd_of_row hown).form
      rw [← u64s_snoc, ← zsN_snoc, ← HS.out] at hown
      have HO1 := Lib.hid hown; have HC1 := Lib.hid hchg
      clear hown hchg hfresh
      go_wp2
      go_roundw
      case rel => exact ⟨m, j + 1, sa', cap', by have := HMI.out; omega, rfl, rfl, by have := HMI.out; have := HIJ.out; omega, Lib.hid (by rw [HMI.out, HIJ.out]; rfl), HO1, HB.out.trans (HC1.out.below HB.out.size fun i hi => (HO.out.lt i hi).1)⟩
      case measure => have := HMI.out; simp [intOf]; omega
    · have hjk : j = N := by have := HIJ.out; have := HNK.out; omega
      subst hjk
      have hO := HO.out
      rw [List.take_of_length_le (by rw [limR_len]; have := HNK.out; omega)] at hO
      have HO' := Lib.hid hO; clear hO
      go_wp2
      go_ret
      exact ⟨sa, cap, rfl, HO'.out, HB.out⟩

set_option maxRecDepth 100000 in
set_option maxHeartbeats 4000000 in
theorem rtake42_any (w : World) (v : Value) (m : Nat) (l : List Nat) (n k : Nat) (hr : Rd w 1 v m (u64s (zsN l))) (hm : m < 50000) (hw : W64 l) (hk : k ≤ n) (hn : n ≤ 256) :
    Calls Tryz.prog 15 #[v, .int .i64 (n : Int), .int .i64 (k : Int)] w fun e w' => TkE (rowN l (limR n k))
      (fun r => ∃ sp cp sd cd, e = .returned (.tuple #[.slice sp k cp, .slice sd (n - k) cd, .int .i64 (r.2 : Int), .bool true]) ∧ Rd w' 1 (.slice sp k cp) k (i64s (slotsR k (numsI r.1))) ∧ Rd w' 3 (.slice sd (n - k) cd) (n - k) (dwC r.1))
      (e = .returned (.tuple #[.slice none 0 0, .slice none 0 0, .int .i64 (l.length : Int), .bool false])) ∧ Below w.heap.size w w' := by
  obtain rfl := hr.len_u64
  rw [zsN_len] at *
  obtain ⟨sa, cap, rfl⟩ := hr.form
  obtain ⟨N, hN⟩ : ∃ N, N = n - k := ⟨_, rfl⟩
  have hL := rlim42_any w n k hk (by omega)
  rw [← hN] at hL ⊢
  have hN256 : N ≤ 256 := by omega
  have HL0 := Lib.hid hL
  have HNK := Lib.hid hN; clear hN hL
  have HR := Lib.hid hr; have HW := Lib.hid hw
  clear hr hw
  go_enter Tryz.func15, Tryz.ntmps15
  go_wp2_with fail
  refine HL0.out.mono ?_
  rintro e w1 ⟨sl, cl, rfl, hown, hb1⟩
  have HL := Lib.hid hown; have HB1 := Lib.hid hb1
  clear hown hb1
  go_wp2_with fail
  refine (rrow_any w1 _ _ l.length N l (limR n k) (HR.out.below HB1.out) (rd_of_row HL.out) hm (by omega) HW.out (limR_ok (by omega))).mono ?_
  rintro e w2 ⟨he, hb2⟩
  have HB2 := Lib.hid (below_two HB1.out hb2)
  cases hrow : rowN l (limR n k) with
  | none =>
    rw [hrow] at he
    obtain rfl : e = .returned (.tuple #[.slice none 0 0, .int .i64 (l.length : Int), .bool false]) := he
    have HROW := Lib.hid hrow
    clear hb2 hrow
    go_wp2_with fail
    refine bodyPost_ret (v := .tuple #[.slice none 0 0, .slice none 0 0, .int .i64 (l.length : Int), .bool false]) (by simp [results, Tryz.results15, go_sem]) rfl ⟨?_, HB2.out⟩
    rw [HROW.out]
    exact (rfl : _ = _)
  | some r =>
    rw [hrow] at he
    obtain ⟨sd, cd, rfl, hd⟩ := he
    have hsb := rowN_res HW.out hk (by omega) hrow
    have hrl : r.1.length = N := by
      have := (resRightB_iff.1 hsb).1
      rw [numsI_len] at this
      rw [this, HNK.out]
    rw [hrl] at hd ⊢
    have hd' : w2.ownsRow w.heap.size 65 3 (.slice sd N cd) N (dwC r.1) := row_mono hd HB1.out.size
    have HROW := Lib.hid hrow
    have HD := Lib.hid hd'; have HRL := Lib.hid hrl; have HSB := Lib.hid hsb
    clear hb2 hrow hd hd' hrl hsb
    go_wp2_with fail
    go_loopw [13, 30] (fun v i wr => ∃ (j : Nat) (sa : Option Addr) (cap : Nat), j ≤ N ∧ i = .int .i64 j ∧ v = .slice sa j cap ∧ Hid (wr.ownsRow w2.heap.size 3 1 (.slice sa j cap) j (i64s (numsI (r.1.take j)))) ∧ Hid (Below w2.heap.size w2 wr)) (fun _ i _ => N - (intOf i).toNat)
    case atStart => exact ⟨0, none, 0, Nat.zero_le _, rfl, rfl, World.ownsRow_nil _ _ _ _, Below.refl _ _⟩
    case round =>
      obtain ⟨j, sc, cc, hj, rfl, rfl, HO, HB⟩ := hrel
      by_cases hlt : j < N
      · have hrd := (rd_of_row HD.out).below HB.out
        obtain ⟨bb, off, rfl, hc⟩ := hrd.at (by omega)
        obtain ⟨c0, c1, c2⟩ := dwC_at r.1 j (by rw [HRL.out]; exact hlt)
        have x0 := hc _ _ c0
        have x1 := hc _ _ c1
        have x2 := hc _ _ c2
        rw [← Nat.add_assoc] at x1 x2
        have hsn : numsI (r.1.take (j + 1)) = numsI (r.1.take j) ++ [((r.1.getD j dwZ).1 : Int)] := by
          rw [List.take_succ_eq_append_getElem (by rw [HRL.out]; exact hlt), numsI_snoc]
          simp [List.getD, List.getElem?_eq_getElem (show j < r.1.length by rw [HRL.out]; exact hlt)]
        have hlt1 : (r.1.getD j dwZ).1 ≤ 256 := by
          have h1 := (resRightB_iff.1 HSB.out).2 j (by rw [numsI_len, HRL.out]; exact hlt)
          have := HNK.out
          have e : (numsI r.1).getD j 0 = ((r.1.getD j dwZ).1 : Int) := by
            simp [numsI, List.getD, List.getElem?_eq_getElem (show j < r.1.length by rw [HRL.out]; exact hlt)]
          rw [e] at h1
          omega
        generalize r.1.getD j dwZ = d at *
        obtain ⟨d1, d2, d3⟩ := d
        simp only at x0 x1 x2 hlt1 hsn
        have HSN := Lib.hid hsn
        clear hrd hc c0 c1 c2 hsn
        go_wp2_with (at_builtin; refine app_i64 _ rfl _ _ rfl w2.heap.size _ _ _ rfl (HO.out.alloc _) _ _ rfl ?qg ?qn ?qb ?_)
        case qg => simp
        case qn => omega
        case qb => have := HB.out.size; simp; omega
        intro v' w3 hown hchg hfresh
        obtain ⟨sa', cap', rfl⟩ := (rd_of_row hown).form
        rw [← i64s_snoc, ← HSN.out] at hown
        have hbb : Below w2.heap.size w2 w3 := (HB.out.alloc HB.out.size _).trans (hchg.below (B := w2.heap.size) (by have := HB.out.size; simp; omega) fun i hi => (HO.out.lt i hi).1)
        have HO1 := Lib.hid hown; have HB3 := Lib.hid hbb
        clear hown hchg hfresh hbb
        go_wp2_with fail
        go_roundw
        case rel => exact ⟨j + 1, sa', cap', by omega, by go_num, rfl, HO1, HB3⟩
        case measure => simp [intOf]; omega
      · obtain rfl : j = N := by omega
        have hO := HO.out
        rw [List.take_of_length_le (by rw [HRL.out]; exact Nat.le_refl _)] at hO
        have hP := refslots_any wr (n : Int) k (.slice sc j cc) j (numsI r.1) (rd_of_row hO) (by omega) (by omega)
        have HP := Lib.hid hP
        clear hO hP
        go_wp2_with fail
        refine HP.out.mono ?_
        rintro e w4 ⟨sp, cp, rfl, hp, hb4⟩
        have HPO := Lib.hid hp; have HB4 := Lib.hid (below_two HB.out hb4)
        clear hp hb4
        go_wp2_with fail
        refine bodyPost_ret (v := .tuple #[.slice sp k cp, .slice sd j cd, .int .i64 (r.2 : Int), .bool true]) (by simp [results, Tryz.results15, go_sem]) rfl ⟨?_, below_two HB2.out HB4.out⟩
        rw [HROW.out]
        exact ⟨sp, cp, sd, cd, rfl, rd_of_row HPO.out, (rd_of_row HD.out).below HB4.out⟩

end Go.Proofs.YtcoohepkmhpdkaaGreat
