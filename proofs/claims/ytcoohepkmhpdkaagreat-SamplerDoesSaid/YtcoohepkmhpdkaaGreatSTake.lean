/-
  A subset that a tape tells: subset.Take.
-/
import Derived.Test.YtcoohepkmhpdkaaGreatTake
import Derived.Test.YtcoohepkmhpdkaaGreatRt
import Derived.Test.YtcoohepkmhpdkaaGreatSub3
import Derived.Deep.CutBlock
import Derived.Deep.DeepCutAuto
import Derived.Deep.RegionHeld3
namespace Go.Proofs.YtcoohepkmhpdkaaGreat
open Go.RowKit
set_option linter.unusedVariables false

/-- what draws tell -/
def numsI (ds : List Drw) : List Int := ds.map fun d => (d.1 : Int)
theorem numsI_len (ds : List Drw) : (numsI ds).length = ds.length := by simp [numsI]
theorem numsI_snoc (ds : List Drw) (d : Drw) : numsI (ds ++ [d]) = numsI ds ++ [(d.1 : Int)] := by simp [numsI]
/-- n, n - 1, .., k of them -/
def limS (n k : Nat) : List Nat := (List.range k).map fun i => n - i
theorem limS_len (n k : Nat) : (limS n k).length = k := by simp [limS]
theorem limS_get {n k i : Nat} (h : i < k) : (limS n k).getD i 0 = n - i := by simp [limS, List.getD, h]
theorem limS_ok {n k : Nat} (hk : k ≤ n) (hn : n ≤ 50000) : Lims (limS n k) := by
  intro x hx
  obtain ⟨i, hi, rfl⟩ := List.mem_map.1 hx
  have := List.mem_range.1 hi
  rw [p64]
  omega

/-- the numbers that were drawn lie below their limits -/
theorem rowA_lt {l : List Nat} (hw : W64 l) : ∀ {ns : List Nat} {acc : List Drw} {used : Nat} {r : List Drw × Nat}, Lims ns → rowA l ns acc used = some r →
    ∀ i, i < ns.length → (r.1.getD (acc.length + i) dwZ).1 < ns.getD i 0
  | [], acc, used, r, _, h, i, hi => by simp at hi
  | n :: ns, acc, used, r, hns, h, i, hi => by
    simp only [rowA] at h
    cases ht : takeN n 0 (l.drop used) with
    | none => rw [ht] at h; cases h
    | some d =>
      rw [ht] at h
      have hpre : ∀ {ns : List Nat} {acc : List Drw} {used : Nat} {r : List Drw × Nat}, rowA l ns acc used = some r → ∀ j, j < acc.length → r.1.getD j dwZ = acc.getD j dwZ := by
        intro ns
        induction ns with
        | nil => intro acc used r h j hj; simp only [rowA, Option.some.injEq] at h; subst h; rfl
        | cons n ns ih =>
          intro acc used r h j hj
          simp only [rowA] at h
          cases ht : takeN n 0 (l.drop used) with
          | none => rw [ht] at h; cases h
          | some d =>
            rw [ht] at h
            rw [ih h j (by simp; omega)]
            simp [List.getD, List.getElem?_append_left hj]
      cases i with
      | zero =>
        have h1 := hpre h acc.length (by simp)
        rw [Nat.add_zero, h1]
        have h2 := takeN_word ht
        have h3 : (acc ++ [d]).getD acc.length dwZ = d := by simp [List.getD]
        rw [h3, h2.2.1]
        have hu := takeN_used ht
        have hd : (l.drop used).getD (d.2.2 - 0 - 1) 0 < 2 ^ 64 := by
          refine W64.at (l := l.drop used) (fun a ha => hw a (List.mem_of_mem_drop ha)) ?_
          omega
        exact telN_lt hd (hns n (List.mem_cons_self ..)).1
      | succ i =>
        have := rowA_lt hw (ns := ns) (acc := acc ++ [d]) (fun x hx => hns x (List.mem_cons_of_mem _ hx)) h i (by simpa using hi)
        rw [List.length_append] at this
        simp only [List.length_cons, List.length_nil] at this
        rw [show acc.length + (i + 1) = acc.length + (0 + 1) + i by omega]
        exact this
theorem rowN_sub {l : List Nat} (hw : W64 l) {n k k0 : Nat} (hk : k ≤ n) (hn : n ≤ 50000) {r : List Drw × Nat} (h : rowA l (limS n k) [] k0 = some r) : r.1.length = k ∧ sbRight (n : Int) (numsI r.1) := by
  have hl := rowA_len h
  rw [limS_len] at hl
  simp only [List.length_nil, Nat.zero_add] at hl
  refine ⟨hl, fun i hi => ?_⟩
  rw [numsI_len, hl] at hi
  have := rowA_lt hw (limS_ok hk hn) h i (by rw [limS_len]; exact hi)
  rw [limS_get hi] at this
  simp only [List.length_nil, Nat.zero_add] at this
  have e : (numsI r.1).getD i 0 = ((r.1.getD i dwZ).1 : Int) := by
    simp [numsI, List.getD, List.getElem?_eq_getElem (show i < r.1.length by omega)]
  rw [e]
  omega

set_option maxRecDepth 100000 in
set_option maxHeartbeats 1000000 in
theorem stake_arg (w : World) (b : Nat) (n k : Int) (h : n < 0 ∨ k < 0 ∨ n < k) :
    Calls Tryz.prog 58 #[.pointer (some ⟨b, 0, none⟩), .int .i64 n, .int .i64 k] w fun e w' => e = .returned (.tuple #[.slice none 0 0, .slice none 0 0, .int .i64 1]) ∧ w = w' := by
  by_cases h1 : n < 0
  · go_enter Tryz.func58, Tryz.ntmps58
    go_wp2
    go_ret3
    exact ⟨rfl, rfl⟩
  · by_cases h2 : k < 0
    · go_enter Tryz.func58, Tryz.ntmps58
      go_wp2
      go_ret3
      exact ⟨rfl, rfl⟩
    · have h3 : n < k := by omega
      clear h
      go_enter Tryz.func58, Tryz.ntmps58
      go_wp2
      go_ret3
      exact ⟨rfl, rfl⟩
set_option maxRecDepth 100000 in
set_option maxHeartbeats 1000000 in
theorem stake_over (w : World) (b : Nat) (n k : Int) (h0 : 0 ≤ k) (hk : k ≤ n) (h : 256 < n) :
    Calls Tryz.prog 58 #[.pointer (some ⟨b, 0, none⟩), .int .i64 n, .int .i64 k] w fun e w' => e = .returned (.tuple #[.slice none 0 0, .slice none 0 0, .int .i64 9]) ∧ w = w' := by
  have h1 : ¬ n < 0 := by omega
  have h2 : ¬ k < 0 := by omega
  have h3 : ¬ n < k := by omega
  go_enter Tryz.func58, Tryz.ntmps58
  go_wp2
  go_ret3
  exact ⟨rfl, rfl⟩

/-- what lies in the blocks of the call's own, and in the tape's, between two draws -/
structure Mid (W wr : World) (B b : Nat) (wv tv0 tv : Value) (l : List Int) (used : Nat) (vc vd : Value) (acc : List Drw) : Prop where
  tape : TapeAt wr B b wv tv l used
  fresh : ∀ g, tv.ownBlock = some g → tv0.ownBlock = some g ∨ W.heap.size ≤ g
  chg : Chg (tapeBlocks b tv0) W wr
  cs : wr.ownsRow W.heap.size 3 1 vc acc.length (i64s (numsI acc))
  ds : wr.ownsRow W.heap.size 65 3 vd acc.length (dwC acc)
  bl : b < W.heap.size
  tl : ∀ g, tv0.ownBlock = some g → g < W.heap.size

theorem Mid.start {W : World} {B b : Nat} {wv tv : Value} {l : List Int} {k : Nat} (h : TapeAt W B b wv tv l k) : Mid W W B b wv tv tv l k (.slice none 0 0) (.slice none 0 0) [] :=
  ⟨h, fun g hg => .inl hg, Chg.refl _ _, World.ownsRow_nil _ _ _ _, World.ownsRow_nil _ _ _ _, block_lt h.2.2.1, fun g hg => (h.2.2.2.2.1.lt g hg).2⟩

theorem Mid.drawn {W wr w' : World} {B b : Nat} {wv tv0 tv : Value} {l : List Int} {used k : Nat} {vc vd : Value} {acc : List Drw} (h : Mid W wr B b wv tv0 tv l used vc vd acc) (ht : TapeTo wr w' B b wv tv l k wr.heap.size) :
    ∃ tv2, Mid W w' B b wv tv0 tv2 l k vc vd acc := by
  obtain ⟨⟨tv2, h1, h2⟩, hc⟩ := ht
  have hb := h.bl
  have hn : ∀ g, W.heap.size ≤ g → (∀ h : tv.ownBlock = some g, False) → ¬ tapeBlocks b tv g := fun g h1 h2 hx => by
    rcases hx with rfl | hx
    · omega
    · exact h2 hx
  have htr := h.tape.2.2.2.2.1
  refine ⟨tv2, h1, fun g hg => ?_, h.chg.trans' hc fun i hi hlt => ?_, row_chg h.cs hc fun g hg => hn g (h.cs.lt g hg).1 fun hx => row_ne_row h.cs htr (by decide) hg hx, row_chg h.ds hc fun g hg => hn g (h.ds.lt g hg).1 fun hx => row_ne_row h.ds htr (by decide) hg hx, hb, h.tl⟩
  · rcases h2 g hg with h3 | h3
    · exact h.fresh g h3
    · exact .inr (Nat.le_trans h.chg.size h3)
  · rcases hi with rfl | hi
    · exact .inl rfl
    · rcases h.fresh i hi with h3 | h3
      · exact .inr h3
      · omega

theorem Mid.more {W w1 w2 : World} {B b : Nat} {wv tv0 tv : Value} {l : List Int} {used : Nat} {vc vd vc' vd' : Value} {acc : List Drw} {d : Drw} (h : Mid W w1 B b wv tv0 tv l used vc vd acc)
    (ht : Two W.heap.size w1 w2 vc vd vc' vd' (acc.length + 1) (acc.length + 1) (i64s (numsI acc) ++ [.int .i64 (d.1 : Int)]) (dwC acc ++ [.int .u64 (d.1 : Int), .int .u64 (d.2.1 : Int), .int .i64 (d.2.2 : Int)])) :
    Mid W w2 B b wv tv0 tv l used vc' vd' (acc ++ [d]) := by
  have hb := h.bl
  have hcs := ht.cs
  have hds := ht.ds
  rw [← i64s_snoc, ← numsI_snoc] at hcs
  rw [← dwC_snoc] at hds
  have hln : acc.length + 1 = (acc ++ [d]).length := by simp
  rw [hln] at hcs hds
  refine ⟨h.tape.chg ht.chg (fun hx => ?_) (fun g hg hx => ?_) (fun g hg hx => ?_), h.fresh, h.chg.trans' ht.chg fun i hi hlt => ?_, hcs, hds, hb, h.tl⟩
  · rcases hx with hx | hx
    · have := (h.cs.lt _ hx).1; omega
    · have := (h.ds.lt _ hx).1; omega
  · rcases hx with hx | hx
    · exact row_ne_row h.tape.2.2.2.1 h.cs (by decide) hg hx
    · exact row_ne_row h.tape.2.2.2.1 h.ds (by decide) hg hx
  · rcases hx with hx | hx
    · exact row_ne_row h.tape.2.2.2.2.1 h.cs (by decide) hg hx
    · exact row_ne_row h.tape.2.2.2.2.1 h.ds (by decide) hg hx
  · rcases hi with hx | hx
    · have := (h.cs.lt _ hx).1; omega
    · have := (h.ds.lt _ hx).1; omega

theorem Mid.to {W wr : World} {B b : Nat} {wv tv0 tv : Value} {l : List Int} {used : Nat} {vc vd : Value} {acc : List Drw} (h : Mid W wr B b wv tv0 tv l used vc vd acc) : TapeTo W wr B b wv tv0 l used W.heap.size :=
  ⟨⟨tv, h.tape, h.fresh⟩, h.chg⟩

set_option maxRecDepth 100000 in
set_option maxHeartbeats 8000000 in
theorem stake_own (W : World) (B b : Nat) (wv tv : Value) (l : List Nat) (k0 n k : Nat) (ht : TapeAt W B b wv tv (zsN l) k0) (hl : l.length < 50000) (hw : W64 l) (hk : k ≤ n) (hn : n ≤ 256) :
    Calls Tryz.prog 58 #[.pointer (some ⟨b, 0, none⟩), .int .i64 (n : Int), .int .i64 (k : Int)] W fun e w' => TkE (rowA l (limS n k) [] k0)
      (fun r => (∃ sp cp sd cd, e = .returned (.tuple #[.slice sp k cp, .slice sd k cd, .int .i64 0]) ∧ Own w' W.heap.size 1 (.slice sp k cp) k (i64s (pickL n (numsI r.1))) ∧ w'.ownsRow W.heap.size 65 3 (.slice sd k cd) k (dwC r.1)) ∧ TapeTo W w' B b wv tv (zsN l) r.2 W.heap.size)
      (e = .returned (.tuple #[.slice none 0 0, .slice none 0 0, .int .i64 7]) ∧ TapeTo W w' B b wv tv (zsN l) l.length W.heap.size) := by
  have h1 : ¬ (n : Int) < 0 := by omega
  have h2 : ¬ (k : Int) < 0 := by omega
  have h3 : ¬ (n : Int) < (k : Int) := by omega
  have h4 : ¬ (256 : Int) < (n : Int) := by omega
  have HM := Lib.hid (Mid.start ht)
  have HW := Lib.hid hw
  clear ht hw
  obtain ⟨R, hR⟩ : ∃ R, R = rowA l (limS n k) [] k0 := ⟨_, rfl⟩
  rw [← hR]
  have HR0 := Lib.hid hR; clear hR
  go_enter Tryz.func58, Tryz.ntmps58
  go_wp2
  go_loopw [9, 10, 32] (fun s9 s10 i wr => ∃ (j used : Nat) (acc : List Drw) (tv2 : Value) (sc : Option Addr) (cc : Nat) (sd : Option Addr) (cd : Nat), j ≤ k ∧ i = .int .i64 j ∧ s9 = .slice sc j cc ∧ s10 = .slice sd j cd ∧ Hid (acc.length = j) ∧ Hid (Mid W wr B b wv tv tv2 (zsN l) used (.slice sc j cc) (.slice sd j cd) acc) ∧ Hid (R = rowA l ((limS n k).drop j) acc used)) (fun _ _ i _ => k - (intOf i).toNat)
  case atStart => exact ⟨0, k0, [], tv, none, 0, none, 0, Nat.zero_le _, rfl, rfl, rfl, Lib.hid rfl, HM, HR0⟩
  case round =>
    obtain ⟨j, used, acc, tv2, sc, cc, sd, cd, hj, rfl, rfl, rfl, HA, HMj, HRj⟩ := hrel
    clear HM
    by_cases hlt : j < k
    · have e1 : ((n : Int) - (j : Int)) = ((n - j : Nat) : Int) := by omega
      have hst := rowA_step (l := l) (ns := limS n k) (i := j) (by rw [limS_len]; exact hlt) acc used
      rw [limS_get hlt] at hst
      have hp : 0 < n - j := by omega
      have hp2 : n - j < 2 ^ 64 := by rw [p64]; omega
      have hT := ltake_any wr B b wv tv2 l used (n - j) HMj.out.tape hl HW.out hp hp2
      have bnj : n - j ≤ 256 := by omega
      generalize n - j = m at *
      have HST := Lib.hid hst; have HT := Lib.hid hT; have HP := Lib.hid hp
      clear hst hT hp hp2
      go_wp2_with fail
      cases htk : takeN m 0 (l.drop used) with
      | none =>
        have hT := HT.out
        rw [htk] at hT
        refine hT.mono ?_
        rintro e w1 ⟨rfl, ht1⟩
        have hE : R = none := by rw [HRj.out, HST.out, htk]
        obtain ⟨tv3, hm3⟩ := HMj.out.drawn ht1
        have HM3 := Lib.hid hm3; have HE := Lib.hid hE
        clear hm3 hE ht1 hT htk
        go_wp2_with fail
        go_ret3
        rw [HE.out]
        obtain ⟨⟨tv4, h6, h7⟩, h8⟩ := HM3.out.to
        exact ⟨rfl, ⟨tv4, h6.below ((Below.refl _ _).alloc (Nat.le_refl _) _), h7⟩, h8.alloc _⟩
      | some d =>
        have hT := HT.out
        rw [htk] at hT
        refine hT.mono ?_
        rintro e w1 ⟨rfl, ht1⟩
        have hE : R = rowA l ((limS n k).drop (j + 1)) (acc ++ [d]) (used + d.2.2) := by rw [HRj.out, HST.out, htk]
        obtain ⟨tv3, hm3⟩ := HMj.out.drawn ht1
        have hd1 : d.1 < m := by
          have h2 := takeN_word htk
          have hu := takeN_used htk
          rw [h2.2.1]
          refine telN_lt (W64.at (l := l.drop used) (fun a ha => HW.out a (List.mem_of_mem_drop ha)) ?_) HP.out
          omega
        have hj2 := HA.out
        have ht0 : Two W.heap.size w1 w1 (.slice sc j cc) (.slice sd j cd) (.slice sc j cc) (.slice sd j cd) j j (i64s (numsI acc)) (dwC acc) := by
          have h1 := hm3.cs
          have h2 := hm3.ds
          rw [hj2] at h1 h2
          exact Two.start h1 h2 hm3.chg.size
        have HT0 := Lib.hid ht0
        have hbc : ∀ k, (Value.slice sc j cc).ownBlock = some k → k < w1.heap.size := fun k hk => (ht0.cs.lt k hk).2
        have hbd : ∀ k, (Value.slice sd j cd).ownBlock = some k → k < w1.heap.size := fun k hk => (ht0.ds.lt k hk).2
        have HBC := Lib.hid hbc; have HBD := Lib.hid hbd
        have HM3 := Lib.hid hm3; have HE := Lib.hid hE
        clear hm3 hE ht1 hT htk ht0 hbc hbd hj2
        obtain ⟨d1, d2, d3⟩ := d
        simp only at hd1
        have hwr : IntKind.i64.wrap (d1 : Int) = (d1 : Int) := by rw [IntKind.wrap_i64]; omega
        go_wp2_with fail
        go_region_held3 (fun w' => w'.cell? ⟨w1.heap.size, 0, none⟩ = some (.int .u64 (d1 : Int)) ∧ w'.cell? ⟨w1.heap.size, 1, none⟩ = some (.int .u64 (d2 : Int)) ∧ w'.cell? ⟨w1.heap.size, 2, none⟩ = some (.int .i64 (d3 : Int)))
          (first | go_keep | (go_split_ands; refine ⟨?_, ?_, ?_⟩ <;> (rw [hkeep _ _ (by first | (simp; done) | (simp; omega) | omega) (fun k hk => by first | exact HBC.out k hk | exact HBD.out k hk)]; assumption)))
          (first
            | (refine step_appc (vc := .slice sc j cc) (o := ⟨some 52, _, _, _, _, _⟩) (by rfl) _ _ (by rfl) (by rfl) (by repeat (first | with_reducible exact HTn | with_reducible exact HT0.out | with_reducible apply Two.alloc | with_reducible apply Two.drew)) _ (.int .i64 (d1 : Int)) (by rfl) (by first | (go_simp; done) | (rw [hkeep _ _ (by first | (simp; done) | (simp; omega)) (fun k hk => by first | (have := HBC.out k hk; omega) | (have := HBD.out k hk; omega))]; go_simp; done)) (by rfl) (by omega) ?_; intro sa1 ca1 w2 HTn hkeep hsz; have hsz2 : w1.heap.size + 2 ≤ w2.heap.size := (by first | (simp at hsz; omega) | omega); clear hsz)
            | (refine step_appd (vd := .slice sd j cd) (o := ⟨some 56, _, _, _, _, _⟩) (by rfl) _ _ (by rfl) (by rfl) (by repeat (first | with_reducible exact HTn | with_reducible exact HT0.out | with_reducible apply Two.alloc | with_reducible apply Two.drew)) _ (.int .u64 (d1 : Int)) (.int .u64 (d2 : Int)) (.int .i64 (d3 : Int)) (by rfl) (by first | (go_simp; done) | (rw [hkeep _ _ (by first | (simp; done) | (simp; omega)) (fun k hk => by first | (have := HBC.out k hk; omega) | (have := HBD.out k hk; omega))]; go_simp; done)) (by first | (go_simp; done) | (rw [hkeep _ _ (by first | (simp; done) | (simp; omega)) (fun k hk => by first | (have := HBC.out k hk; omega) | (have := HBD.out k hk; omega))]; go_simp; done)) (by first | (go_simp; done) | (rw [hkeep _ _ (by first | (simp; done) | (simp; omega)) (fun k hk => by first | (have := HBC.out k hk; omega) | (have := HBD.out k hk; omega))]; go_simp; done)) (by rfl) (by rfl) (by rfl) (by omega) ?_; intro sd1 cd1 w2 HTn hkeep hsz; have hsz2 : w1.heap.size + 2 ≤ w2.heap.size := (by first | (simp at hsz; omega) | omega); clear hsz))
        all_goals
          have hM : Mid W w2 B b wv tv tv3 (zsN l) (used + d3) (.slice sa1 (j + 1) ca1) (.slice sd1 (j + 1) cd1) (acc ++ [(d1, d2, d3)]) := by
            have h1 := HTn
            rw [← HA.out] at h1
            have h2 := HM3.out
            rw [← HA.out] at h2 ⊢
            exact h2.more h1
          have HMn := Lib.hid hM
          clear hM HTn hkeep hwr
          go_wp2_with fail
          go_roundw
          case rel => exact ⟨j + 1, used + d3, acc ++ [(d1, d2, d3)], tv3, sa1, ca1, sd1, cd1, by omega, by go_num, rfl, rfl, Lib.hid (by rw [List.length_append, HA.out]; rfl), HMn, HE⟩
          case measure => simp [intOf]; omega
    · obtain rfl : j = k := by omega
      have hE : R = some (acc, used) := by rw [HRj.out, show (limS n j).drop j = [] from List.drop_of_length_le (by rw [limS_len]; omega)]; rfl
      have hsb : acc.length = j ∧ sbRight (n : Int) (numsI acc) := by
        have h5 := HR0.out
        rw [hE] at h5
        exact rowN_sub HW.out hk (by omega) h5.symm
      have hcs := HMj.out.cs
      rw [HA.out] at hcs
      have hP := pick_own wr n (.slice sc j cc) j (numsI acc) (rd_of_row hcs) hn hk
      have HP := Lib.hid hP; have HE := Lib.hid hE; have HSB := Lib.hid hsb
      clear hP hE hsb hcs
      go_wp2_with fail
      refine HP.out.mono ?_
      rintro e w1 (⟨hr, sp, cp, rfl, hrd, hb⟩ | ⟨hr, -, -⟩)
      · have HRD := Lib.hid hrd; have HB := Lib.hid hb
        clear hrd hb hr
        go_wp2_with fail
        go_ret3
        rw [HE.out]
        have hds := HMj.out.ds
        rw [HA.out] at hds
        obtain ⟨⟨tv4, h6, h7⟩, h8⟩ := HMj.out.to
        exact ⟨⟨sp, cp, sd, cd, rfl, HRD.out.base h8.size, row_chg hds (Chg.of_below (S := fun _ => False) HB.out) (fun _ _ h => h)⟩, ⟨tv4, h6.below HB.out, h7⟩, h8.trans (Chg.of_below HB.out)⟩
      · rw [sbRightB_iff.2 HSB.out.2] at hr
        cases hr

theorem TkE.mono {α : Type} {o : Option α} {f f' : α → Prop} {g : Prop} (h : ∀ r, f r → f' r) : TkE o f g → TkE o f' g := by
  cases o with
  | none => exact id
  | some r => exact h r

theorem stake_any (W : World) (B b : Nat) (wv tv : Value) (l : List Nat) (k0 n k : Nat) (ht : TapeAt W B b wv tv (zsN l) k0) (hl : l.length < 50000) (hw : W64 l) (hk : k ≤ n) (hn : n ≤ 256) :
    Calls Tryz.prog 58 #[.pointer (some ⟨b, 0, none⟩), .int .i64 (n : Int), .int .i64 (k : Int)] W fun e w' => TkE (rowA l (limS n k) [] k0)
      (fun r => (∃ sp cp sd cd, e = .returned (.tuple #[.slice sp k cp, .slice sd k cd, .int .i64 0]) ∧ Rd w' 1 (.slice sp k cp) k (i64s (pickL n (numsI r.1))) ∧ w'.ownsRow W.heap.size 65 3 (.slice sd k cd) k (dwC r.1)) ∧ TapeTo W w' B b wv tv (zsN l) r.2 W.heap.size)
      (e = .returned (.tuple #[.slice none 0 0, .slice none 0 0, .int .i64 7]) ∧ TapeTo W w' B b wv tv (zsN l) l.length W.heap.size) :=
  (stake_own W B b wv tv l k0 n k ht hl hw hk hn).mono fun e w' hh => hh.mono fun r ⟨⟨sp, cp, sd, cd, h1, h2, h3⟩, h4⟩ => ⟨⟨sp, cp, sd, cd, h1, h2.rd, h3⟩, h4⟩

end Go.Proofs.YtcoohepkmhpdkaaGreat
