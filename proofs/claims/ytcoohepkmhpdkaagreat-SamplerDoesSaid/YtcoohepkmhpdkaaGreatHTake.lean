/-
  An order that a tape tells: shuffle.Take.
-/
import Derived.Test.YtcoohepkmhpdkaaGreatSTake
import Derived.Test.YtcoohepkmhpdkaaGreatShuf2
namespace Go.Proofs.YtcoohepkmhpdkaaGreat
open Go.RowKit
set_option linter.unusedVariables false

/-- n, n - 1, .., 2 -/
def limH (n : Nat) : List Nat := (List.range (n - 1)).map fun i => n - i
theorem limH_len (n : Nat) : (limH n).length = n - 1 := by simp [limH]
theorem limH_get {n i : Nat} (h : i < n - 1) : (limH n).getD i 0 = n - i := by simp [limH, List.getD, h]
theorem limH_ok {n : Nat} (hn : n ≤ 50000) : Lims (limH n) := by
  intro x hx
  obtain ⟨i, hi, rfl⟩ := List.mem_map.1 hx
  have := List.mem_range.1 hi
  rw [p64]
  omega
/-- the choices that draws tell, what isn't drawn yet being z j -/
def choH (z : Nat → Int) (n : Nat) (ds : List Drw) : List Int := (List.range n).map fun j => if n - ds.length ≤ j then ((ds.getD (n - 1 - j) dwZ).1 : Int) else z j
theorem choH_len (z : Nat → Int) (n : Nat) (ds : List Drw) : (choH z n ds).length = n := by simp [choH]
theorem choH_get {z : Nat → Int} {n j : Nat} {ds : List Drw} (h : j < n) : (choH z n ds).getD j 0 = if n - ds.length ≤ j then ((ds.getD (n - 1 - j) dwZ).1 : Int) else z j := by
  simp [choH, List.getD, h]
theorem choH_nil (z : Nat → Int) (n : Nat) : choH z n [] = (List.range n).map z := by
  refine List.map_congr_left fun j hj => ?_
  have := List.mem_range.1 hj
  rw [if_neg (by simp; omega)]
theorem choH_snoc (z : Nat → Int) {n : Nat} {ds : List Drw} (d : Drw) (h : ds.length < n) : choH z n (ds ++ [d]) = (choH z n ds).set (n - 1 - ds.length) (d.1 : Int) := by
  refine ext_getD (by simp [choH_len]) fun j hj => ?_
  rw [choH_len] at hj
  rw [choH_get hj, getD_set _ _ _ _ (by rw [choH_len]; omega), choH_get hj]
  simp only [List.length_append, List.length_cons, List.length_nil]
  by_cases h1 : n - 1 - ds.length = j
  · rw [if_pos (by omega), if_pos h1, show n - 1 - j = ds.length by omega]
    simp [List.getD]
  · rw [if_neg h1]
    by_cases h2 : n - ds.length ≤ j
    · rw [if_pos (by omega), if_pos h2]
      rw [List.getD_eq_getElem?_getD, List.getElem?_append_left (by omega), ← List.getD_eq_getElem?_getD]
    · rw [if_neg (by omega), if_neg h2]
theorem choH_full (z z' : Nat → Int) {n : Nat} {ds : List Drw} (h : ds.length = n - 1) (hz : z 0 = z' 0) : choH z n ds = choH z' n ds := by
  refine List.map_congr_left fun j hj => ?_
  have := List.mem_range.1 hj
  by_cases h1 : n - ds.length ≤ j
  · rw [if_pos h1, if_pos h1]
  · rw [if_neg h1, if_neg h1, show j = 0 by omega, hz]
/-- the choices of draws -/
def choD (n : Nat) (ds : List Drw) : List Int := choH (fun _ => 0) n ds
theorem choD_right {l : List Nat} (hw : W64 l) {n k0 : Nat} (hn : n ≤ 50000) {r : List Drw × Nat} (h : rowA l (limH n) [] k0 = some r) : r.1.length = n - 1 ∧ shRight (choD n r.1) := by
  have hl := rowA_len h
  rw [limH_len] at hl
  simp only [List.length_nil, Nat.zero_add] at hl
  refine ⟨hl, fun i hi => ?_⟩
  unfold choD at *
  rw [choH_len] at hi
  rw [choH_get hi]
  by_cases h1 : n - r.1.length ≤ i
  · rw [if_pos h1]
    have := rowA_lt hw (limH_ok hn) h (n - 1 - i) (by rw [limH_len]; omega)
    rw [limH_get (by omega)] at this
    simp only [List.length_nil, Nat.zero_add] at this
    omega
  · rw [if_neg h1]
    omega

/-- what lies in the blocks of the call's own, and in the tape's, between two draws -/
structure MidH (W wr : World) (B b : Nat) (wv tv0 tv : Value) (l : List Int) (used : Nat) (vc : Value) (xc : List Int) (vd : Value) (acc : List Drw) : Prop where
  tape : TapeAt wr B b wv tv l used
  fresh : ∀ g, tv.ownBlock = some g → tv0.ownBlock = some g ∨ W.heap.size ≤ g
  chg : Chg (tapeBlocks b tv0) W wr
  cs : wr.ownsRow W.heap.size 3 1 vc xc.length (i64s xc)
  ds : wr.ownsRow W.heap.size 65 3 vd acc.length (dwC acc)
  bl : b < W.heap.size
  tl : ∀ g, tv0.ownBlock = some g → g < W.heap.size

section
variable {W wr w' : World} {B b : Nat} {wv tv0 tv : Value} {l : List Int} {used k : Nat} {vc vd : Value} {xc : List Int} {acc : List Drw}

theorem MidH.start (h : TapeAt W B b wv tv l k) (hb : Below W.heap.size W wr) (hc : wr.ownsRow W.heap.size 3 1 vc xc.length (i64s xc)) : MidH W wr B b wv tv tv l k vc xc (.slice none 0 0) [] :=
  ⟨h.below hb, fun g hg => .inl hg, Chg.of_below hb, hc, World.ownsRow_nil _ _ _ _, block_lt h.2.2.1, fun g hg => (h.2.2.2.2.1.lt g hg).2⟩

theorem MidH.drawn (h : MidH W wr B b wv tv0 tv l used vc xc vd acc) (ht : TapeTo wr w' B b wv tv l k wr.heap.size) :
    ∃ tv2, MidH W w' B b wv tv0 tv2 l k vc xc vd acc := by
  obtain ⟨⟨tv2, h1, h2⟩, hc⟩ := ht
  have hb := h.bl
  have hn : ∀ g, W.heap.size ≤ g → (∀ h : tv.ownBlock = some g, False) → ¬ tapeBlocks b tv g := fun g h1 h2 hx => by
    rcases hx with rfl | hx
    · omega
    · exact h2 hx
  have htr := h.tape.2.2.2.2.1
  refine ⟨tv2, h1, fun g hg => ?_, h.chg.trans' hc fun i hi hlt => ?_, row_chg h.cs hc fun g hg => hn g (h.cs.lt g hg).1 fun hx => row_ne_row h.cs htr (by decide) hg hx, row_chg h.ds hc fun g hg => hn g (h.ds.lt g hg).1 fun hx => row_ne_row h.ds htr (by decide) hg hx, hb, h.tl⟩
  · rcases h2 g hg with h3 | h3
    · exact h.fresh g h3
    · exact .inr (Nat.le_trans h.chg.size h3)
  · rcases hi with rfl | hi
    · exact .inl rfl
    · rcases h.fresh i hi with h3 | h3
      · exact .inr h3
      · omega

theorem MidH.below (h : MidH W wr B b wv tv0 tv l used vc xc vd acc) (hb : Below wr.heap.size wr w') : MidH W w' B b wv tv0 tv l used vc xc vd acc :=
  ⟨h.tape.below hb, h.fresh, h.chg.trans (Chg.of_below hb), row_chg h.cs (Chg.of_below (S := fun _ => False) hb) (fun _ _ h => h), row_chg h.ds (Chg.of_below (S := fun _ => False) hb) (fun _ _ h => h), h.bl, h.tl⟩

theorem MidH.setc {g n cap : Nat} (h : MidH W wr B b wv tv0 tv l used (.slice (some ⟨g, 0, none⟩) n cap) xc vd acc) {i : Nat} (hi : i < xc.length) (x : Int) :
    MidH W (wr.setCell ⟨g, i, none⟩ (.int .i64 x)) B b wv tv0 tv l used (.slice (some ⟨g, 0, none⟩) n cap) (xc.set i x) vd acc := by
  have hb := h.bl
  have hn : n = xc.length := (rd_of_row h.cs).cap_le.2
  subst hn
  have hg := (h.cs.lt g rfl).1
  have hc : Chg (fun k => k = g) wr (wr.setCell ⟨g, i, none⟩ (.int .i64 x)) := (Chg.refl (fun k => k = g) wr).setCell (p := ⟨g, i, none⟩) (.inl rfl) _
  refine ⟨h.tape.chg hc (by omega) (fun k hk hx => ?_) (fun k hk hx => ?_), h.fresh, h.chg.trans' hc fun i hi hlt => by omega, ?_, row_chg h.ds hc fun k hk hx => ?_, hb, h.tl⟩
  · subst hx; exact row_ne_row h.tape.2.2.2.1 h.cs (by decide) hk rfl
  · subst hx; exact row_ne_row h.tape.2.2.2.2.1 h.cs (by decide) hk rfl
  · rw [List.length_set, i64s_set]
    exact row_set h.cs hi _
  · subst hx; exact row_ne_row h.ds h.cs (by decide) hk rfl

theorem MidH.appd {vd' : Value} {d : Drw} (h : MidH W wr B b wv tv0 tv l used vc xc vd acc) (hown : w'.ownsRow W.heap.size 65 3 vd' (acc.length + 1) (dwC acc ++ [.int .u64 (d.1 : Int), .int .u64 (d.2.1 : Int), .int .i64 (d.2.2 : Int)])) (hc : Chg (fun k => vd.ownBlock = some k) wr w') :
    MidH W w' B b wv tv0 tv l used vc xc vd' (acc ++ [d]) := by
  have hb := h.bl
  rw [← dwC_snoc, show acc.length + 1 = (acc ++ [d]).length by simp] at hown
  refine ⟨h.tape.chg hc (fun hx => ?_) (fun k hk hx => ?_) (fun k hk hx => ?_), h.fresh, h.chg.trans' hc fun i hi hlt => ?_, row_chg h.cs hc fun k hk hx => ?_, hown, hb, h.tl⟩
  · have := (h.ds.lt _ hx).1; omega
  · exact row_ne_row h.tape.2.2.2.1 h.ds (by decide) hk hx
  · exact row_ne_row h.tape.2.2.2.2.1 h.ds (by decide) hk hx
  · have := (h.ds.lt _ hi).1; omega
  · exact row_ne_row h.cs h.ds (by decide) hk hx

theorem MidH.to (h : MidH W wr B b wv tv0 tv l used vc xc vd acc) : TapeTo W wr B b wv tv0 l used W.heap.size := ⟨⟨tv, h.tape, h.fresh⟩, h.chg⟩
end

set_option maxRecDepth 100000 in
set_option maxHeartbeats 1000000 in
theorem htake_arg (w : World) (b : Nat) (n : Int) (h : n < 0) :
    Calls Tryz.prog 56 #[.pointer (some ⟨b, 0, none⟩), .int .i64 n] w fun e w' => e = .returned (.tuple #[.slice none 0 0, .slice none 0 0, .int .i64 1]) ∧ w = w' := by
  go_enter Tryz.func56, Tryz.ntmps56
  go_wp2
  go_ret3
  exact ⟨rfl, rfl⟩
set_option maxRecDepth 100000 in
set_option maxHeartbeats 1000000 in
theorem htake_over (w : World) (b : Nat) (n : Int) (h : 256 < n) :
    Calls Tryz.prog 56 #[.pointer (some ⟨b, 0, none⟩), .int .i64 n] w fun e w' => e = .returned (.tuple #[.slice none 0 0, .slice none 0 0, .int .i64 9]) ∧ w = w' := by
  have h1 : ¬ n < 0 := by omega
  go_enter Tryz.func56, Tryz.ntmps56
  go_wp2
  go_ret3
  exact ⟨rfl, rfl⟩

set_option maxRecDepth 100000 in
set_option maxHeartbeats 8000000 in
theorem htake_any (W : World) (B b : Nat) (wv tv : Value) (l : List Nat) (k0 n : Nat) (ht : TapeAt W B b wv tv (zsN l) k0) (hl : l.length < 50000) (hw : W64 l) (hn : n ≤ 256) :
    Calls Tryz.prog 56 #[.pointer (some ⟨b, 0, none⟩), .int .i64 (n : Int)] W fun e w' => TkE (rowA l (limH n) [] k0)
      (fun r => (∃ sp cp sd cd, e = .returned (.tuple #[.slice sp n cp, .slice sd (n - 1) cd, .int .i64 0]) ∧ w'.ownsRow W.heap.size 3 1 (.slice sp n cp) n (i64s (permL (choD n r.1))) ∧ w'.ownsRow W.heap.size 65 3 (.slice sd (n - 1) cd) (n - 1) (dwC r.1)) ∧ TapeTo W w' B b wv tv (zsN l) r.2 W.heap.size)
      (e = .returned (.tuple #[.slice none 0 0, .slice none 0 0, .int .i64 7]) ∧ TapeTo W w' B b wv tv (zsN l) l.length W.heap.size) := by
  have h1 : ¬ (n : Int) < 0 := by omega
  have h4 : ¬ (256 : Int) < (n : Int) := by omega
  have HT0 := Lib.hid ht
  have HW := Lib.hid hw
  clear ht hw
  obtain ⟨R, hR⟩ : ∃ R, R = rowA l (limH n) [] k0 := ⟨_, rfl⟩
  rw [← hR]
  have HR0 := Lib.hid hR; clear hR
  obtain ⟨N, hN⟩ : ∃ N, N = n - 1 := ⟨_, rfl⟩
  rw [← hN]
  have HNK := Lib.hid hN; clear hN
  go_enter Tryz.func56, Tryz.ntmps56
  go_wp2_with (at_make; refine mk_i64 _ rfl _ _ rfl W.heap.size _ _ n rfl rfl ?hL ?hC ?hN ?hB ?_)
  case hL => rfl
  case hC => rfl
  case hN => omega
  intro W1 hown1 hc1 hsz1
  have hB1 : Below W.heap.size W W1 := hc1.below (Nat.le_refl _) (fun _ h => h.elim)
  have hcz : List.replicate n (0 : Int) = choH (fun _ => 0) n [] := by
    rw [choH_nil]
    refine List.ext_getElem (by simp) fun j h1 h2 => by simp
  rw [hcz] at hown1
  have hm0 := MidH.start HT0.out hB1 (vc := .slice (some ⟨W.heap.size, 0, none⟩) n n) (xc := choH (fun _ => 0) n []) (by rw [choH_len]; exact hown1)
  have HM := Lib.hid hm0
  clear hown1 hc1 hsz1 hB1 hcz hm0
  generalize hG : W.heap.size = G at HM ⊢
  have HG := Lib.hid hG; clear hG
  go_wp2_with fail
  go_loopw [8, 9] (fun s8 s9 wr => ∃ (i : Int) (j used : Nat) (acc : List Drw) (tv2 : Value) (sd : Option Addr) (cd : Nat), -1 ≤ i ∧ i ≤ 255 ∧ s9 = .int .i64 i ∧ s8 = .slice sd j cd ∧ Hid (i = (n : Int) - 1 - (j : Int)) ∧ Hid (j ≤ n - 1) ∧ Hid (acc.length = j) ∧ Hid (MidH W wr B b wv tv tv2 (zsN l) used (.slice (some ⟨G, 0, none⟩) n n) (choH (fun _ => 0) n acc) (.slice sd j cd) acc) ∧ Hid (R = rowA l ((limH n).drop j) acc used)) (fun _ s _ => (intOf s + 1).toNat)
  case atStart => exact ⟨(n : Int) - 1, 0, k0, [], tv, none, 0, by omega, by omega, rfl, rfl, Lib.hid (by simp), Lib.hid (Nat.zero_le _), Lib.hid rfl, HM, HR0⟩
  case round =>
    obtain ⟨i, j, used, acc, tv2, sd, cd, hi1, hi2, rfl, rfl, HIJ, HJN, HA, HMj, HRj⟩ := hrel
    clear HM
    by_cases hlt : 0 < i
    · have hij := HIJ.out
      obtain ⟨q, rfl⟩ : ∃ q : Nat, i = (q : Int) := ⟨i.toNat, by omega⟩
      have hjk : j < n - 1 := by omega
      have hst := rowA_step (l := l) (ns := limH n) (i := j) (by rw [limH_len]; exact hjk) acc used
      rw [limH_get hjk] at hst
      obtain ⟨m, hm⟩ : ∃ m, m = n - j := ⟨_, rfl⟩
      have e1 : ((q : Int) + 1) = (m : Int) := by omega
      rw [← hm] at hst
      have hp : 0 < m := by omega
      have hp2 : m < 2 ^ 64 := by rw [p64]; omega
      have hT := ltake_any wr B b wv tv2 l used m HMj.out.tape hl HW.out hp hp2
      have bnj : m ≤ 256 := by omega
      have hqn : q < n := by omega
      have hq1 : 0 < q := by omega
      have HJK := Lib.hid (show j + 1 ≤ n - 1 by omega)
      have HQ := Lib.hid (show q = n - 1 - j by omega)
      have HST := Lib.hid hst; have HT := Lib.hid hT; have HP := Lib.hid hp
      clear hst hT hp hp2 hm hjk hij hlt
      go_wp2_with fail
      cases htk : takeN m 0 (l.drop used) with
      | none =>
        have hT := HT.out
        rw [htk] at hT
        refine hT.mono ?_
        rintro e w1 ⟨rfl, ht1⟩
        have hE : R = none := by rw [HRj.out, HST.out, htk]
        obtain ⟨tv3, hm3⟩ := HMj.out.drawn ht1
        have HM3 := Lib.hid hm3; have HE := Lib.hid hE
        clear hm3 hE ht1 hT htk
        go_wp2_with fail
        go_ret3
        rw [HE.out]
        obtain ⟨⟨tv4, h6, h7⟩, h8⟩ := HM3.out.to
        exact ⟨rfl, ⟨tv4, h6.below ((Below.refl _ _).alloc (Nat.le_refl _) _), h7⟩, h8.alloc _⟩
      | some d =>
        have hT := HT.out
        rw [htk] at hT
        refine hT.mono ?_
        rintro e w1 ⟨rfl, ht1⟩
        have hE : R = rowA l ((limH n).drop (j + 1)) (acc ++ [d]) (used + d.2.2) := by rw [HRj.out, HST.out, htk]
        obtain ⟨tv3, hm3⟩ := HMj.out.drawn ht1
        have hd1 : d.1 < m := by
          have h2 := takeN_word htk
          have hu := takeN_used htk
          rw [h2.2.1]
          refine telN_lt (W64.at (l := l.drop used) (fun a ha => HW.out a (List.mem_of_mem_drop ha)) ?_) HP.out
          omega
        have hj2 := HA.out
        have hcg := hm3.cs
        rw [choH_len] at hcg
        obtain ⟨g', hs3, hh1, hh2, hh3, hcell3, hfz3⟩ := row_ptr hcg (by omega)
        cases hs3
        have xq := hcell3 q _ (i64s_at _ q (by rw [choH_len]; exact hqn))
        have fq := hfz3 q
        have hGs : G < w1.heap.size := hh2
        have hq0 : (0 : Int) ≤ (q : Int) := by omega
        have hqi : (q : Int) < (n : Int) := by omega
        generalize (choH (fun _ => 0) n acc).getD q 0 = old at xq
        have HM3 := Lib.hid hm3; have HE := Lib.hid hE
        clear hm3 hE ht1 hT htk hj2 hcg hh1 hh2 hh3 hcell3 hfz3
        obtain ⟨d1, d2, d3⟩ := d
        simp only at hd1
        have hm4 := HM3.out.setc (i := q) (by rw [choH_len]; exact hqn) (d1 : Int)
        rw [show (choH (fun _ => 0) n acc).set q (d1 : Int) = choH (fun _ => 0) n (acc ++ [(d1, d2, d3)]) by rw [choH_snoc _ _ (by rw [HA.out]; have := HIJ.out; omega), HA.out, ← HQ.out]] at hm4
        have hds := hm4.ds
        rw [HA.out] at hds
        have HM4 := Lib.hid hm4; have HDS := Lib.hid hds
        clear hm4 hds
        go_wp2_with (at_builtin; go_must (refine app_dw _ rfl _ _ rfl W.heap.size _ _ _ rfl (HDS.out.alloc _) _ _ _ _ rfl ?qg ?qn ?qb ?_))
        case qg => simp [World.setCell]
        case qn => have := HIJ.out; omega
        case qb => rw [HG.out]; simp [World.setCell]; omega
        intro v' w2 hown hchg hfresh
        obtain ⟨sa', cap', rfl⟩ := (rd_of_row hown).form
        rw [← HA.out] at hown
        have hm5 := (HM4.out.below ((Below.refl _ _).alloc (Nat.le_refl _) _)).appd (d := (d1, d2, d3)) hown hchg
        rw [HA.out] at hm5
        have HM5 := Lib.hid hm5
        clear hown hchg hfresh hm5
        go_wp2_with fail
        go_roundw
        case rel => exact ⟨(q : Int) - 1, j + 1, used + d3, acc ++ [(d1, d2, d3)], tv3, sa', cap', by omega, by omega, by go_num, rfl, Lib.hid (by have := HIJ.out; omega), HJK, Lib.hid (by rw [List.length_append, HA.out]; rfl), HM5, HE⟩
        case measure => simp [intOf]
    · have hjk : j = N := by have := HIJ.out; have := HNK.out; have := HJN.out; omega
      have hjn : n - 1 = j := by have := HNK.out; omega
      subst hjk
      have hE : R = some (acc, used) := by rw [HRj.out, show (limH n).drop j = [] from List.drop_of_length_le (by rw [limH_len]; omega)]; rfl
      have hsb : shRight (choD n acc) := by
        have h5 := HR0.out
        rw [hE] at h5
        exact (choD_right HW.out (by omega) h5.symm).2
      have hcs := HMj.out.cs
      rw [choH_len] at hcs
      have hP := perm_ok wr (.slice (some ⟨G, 0, none⟩) n n) n (choD n acc) (rd_of_row hcs) (by omega) hsb
      have HP := Lib.hid hP; have HE := Lib.hid hE
      clear hP hE hsb hcs hjn
      go_wp2_with fail
      refine HP.out.mono ?_
      rintro e w1 ⟨sp, cp, rfl, hrd, hb⟩
      have HRD := Lib.hid hrd; have HB := Lib.hid hb
      clear hrd hb
      go_wp2_with fail
      go_ret3
      rw [HE.out]
      have hds := HMj.out.ds
      rw [HA.out] at hds
      obtain ⟨⟨tv4, h6, h7⟩, h8⟩ := HMj.out.to
      exact ⟨⟨sp, cp, sd, cd, rfl, row_mono HRD.out HMj.out.chg.size, row_chg hds (Chg.of_below (S := fun _ => False) HB.out) (fun _ _ h => h)⟩, ⟨tv4, h6.below HB.out, h7⟩, h8.trans (Chg.of_below HB.out)⟩

end Go.Proofs.YtcoohepkmhpdkaaGreat
