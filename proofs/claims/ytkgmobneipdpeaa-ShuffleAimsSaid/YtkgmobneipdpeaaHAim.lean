/-
  A tape aimed at an order: shuffle.Aim.
-/
import Derived.Test.YtkgmobneipdpeaaWord
import Derived.Test.YtkgmobneipdpeaaRShuf
namespace Go.Proofs.Ytkgmobneipdpeaa
open Go.RowKit
set_option linter.unusedVariables false

theorem tapeTo_below' {W w1 w' : World} {B b : Nat} {wv tv : Value} {l : List Int} {k S : Nat} (h : TapeTo w1 w' B b wv tv l k S) (hW : W.heap.size ≤ w1.heap.size) (hb : Below W.heap.size W w1) (hB : W.heap.size ≤ b) (ht : ∀ g, tv.ownBlock = some g → W.heap.size ≤ g) : Below W.heap.size W w' :=
  hb.trans (h.chg.below hW fun k hk => by
    rcases hk with rfl | hk
    · exact hB
    · exact ht k hk)

/-- what a step of aiming leaves: the place in the words is further, one word is another one -/
structure AimD (w w' : World) (B ba go L lo at' : Nat) (out' : List Nat) : Prop where
  atc : w'.heap[ba]? = some (.cells #[.int .i64 (at' : Int)] 3 (0, 0))
  row : w'.ownsRow B 55 1 (.slice (some ⟨go, 0, none⟩) L lo) L (u64s (zsN out'))
  chg : Chg (fun k => k = ba ∨ k = go) w w'

set_option maxRecDepth 100000 in
set_option maxHeartbeats 8000000 in
theorem aim1_any (w : World) (B ba bc bo gc go n cc L lo i at' v q : Nat) (d1 d2 d3 : Nat) (out : List Nat)
    (hA : w.heap[ba]? = some (.cells #[.int .i64 (at' : Int)] 3 (0, 0))) (hC : w.cell? ⟨bc, 0, none⟩ = some (.slice (some ⟨gc, 0, none⟩) n cc)) (hO : w.cell? ⟨bo, 0, none⟩ = some (.slice (some ⟨go, 0, none⟩) L lo))
    (hci : w.cell? ⟨gc, i, none⟩ = some (.int .i64 (v : Int))) (hin : i < n) (hrow : w.ownsRow B 55 1 (.slice (some ⟨go, 0, none⟩) L lo) L (u64s (zsN out)))
    (hq : at' + d3 = q + 1) (hqL : q < L) (hL : L ≤ 50000) (hi : i ≤ 1000) (hv : v < i + 1) (hr : d2 < 2 ^ 64 / (i + 1))
    (hac : ba ≠ bc) (hao : ba ≠ bo) (hag : ba ≠ gc) (hcg : bc ≠ go) (hog : bo ≠ go) (hgg : gc ≠ go) :
    Calls Try.prog 82 #[.int .i64 (i : Int), .agg #[.int .u64 (d1 : Int), .int .u64 (d2 : Int), .int .i64 (d3 : Int)], .pointer (some ⟨ba, 0, none⟩), .pointer (some ⟨bc, 0, none⟩), .pointer (some ⟨bo, 0, none⟩)] w fun e w' =>
      e = .returned (.tuple #[]) ∧ AimD w w' B ba go L lo (at' + d3) (out.set q (wrdN v d2 (i + 1))) := by
  have la := block_lt hA
  have lc := World.block_lt_of_cell? w _ hC
  have lo' := World.block_lt_of_cell? w _ hO
  have lg := World.block_lt_of_cell? w _ hci
  have cA := cell_of hA 0 rfl
  have fA := frozen_of hA 0
  obtain ⟨g', hg', hb1, hb2, hb3, hcell, hfz⟩ := row_ptr hrow (by omega)
  cases hg'
  have hlen : (zsN out).length = L := by have := (rd_of_row hrow).len_u64; omega
  have cq := hcell q _ (u64s_at (zsN out) q (by omega))
  rw [zsN_get] at cq
  have fq := hfz q
  generalize out.getD q 0 = old at cq
  have bA : at' ≤ 50000 := by omega
  have b3 : d3 ≤ 50001 := by omega
  have e1 : ((at' : Int) + (d3 : Int) - 1) = (q : Int) := by omega
  obtain ⟨m, hm⟩ : ∃ m, m = i + 1 := ⟨_, rfl⟩
  have e2 : ((i : Int) + 1) = (m : Int) := by omega
  rw [← hm] at hv hr ⊢
  have hm64 : m < 2 ^ 64 := by rw [p64]; omega
  have W := Lib.hid (fun w' => lword_any w' v d2 m hv hm64 hr)
  have hvb : v ≤ 1001 := by omega
  generalize wrdN v d2 m = x at *
  have HA := Lib.hid hA; have HR := Lib.hid hrow
  clear hA hrow hcell hfz hm64 hr hlen
  go_enter Try.func82, Try.ntmps82
  go_wp2
  obtain ⟨W1, hW1⟩ : ∃ W1, W1 = ((w.setCell ⟨ba, 0, none⟩ (.int .i64 ((at' : Int) + (d3 : Int)))).alloc (.cells #[.int .u64 (d1 : Int), .int .u64 (d2 : Int), .int .i64 (d3 : Int)] 92)) := ⟨_, rfl⟩
  rw [← hW1]
  have hat : ((at' : Int) + (d3 : Int)) = ((at' + d3 : Nat) : Int) := by omega
  have hA1 : W1.heap[ba]? = some (.cells #[.int .i64 ((at' : Int) + (d3 : Int))] 3 (0, 0)) := by
    rw [hW1, Below.heap_alloc _ _ _ (by simpa [World.setCell] using la), set_of HA.out 0 _]
    simp
  have hchg : Chg (fun k => k = ba) w W1 := by
    rw [hW1]
    exact ((Chg.refl (fun k => k = ba) w).setCell (p := ⟨ba, 0, none⟩) (.inl rfl) _).alloc _
  have hag' : ba ≠ go := by
    intro h
    have h1 := HA.out
    rcases HR.out.2 with ⟨h0, _⟩ | ⟨g2, c2, cur2, h3, _, h2, _⟩
    · cases h0
    · cases h3
      rw [h] at h1
      rw [h1] at h2
      injection h2 with h2
      injection h2 with _ h4
      exact absurd h4 (by decide)
  have hkc : ∀ b o, b < w.heap.size → b ≠ ba → W1.cell? ⟨b, o, none⟩ = w.cell? ⟨b, o, none⟩ := fun b o hb hne => World.cell?_of_block (hchg.block b hb hne)
  have k1 := cell_of hA1 0 rfl
  have k2 := (hkc bc 0 lc (Ne.symm hac)).trans hC
  have k3 := (hkc bo 0 lo' (Ne.symm hao)).trans hO
  have k4 := (hkc gc i lg (Ne.symm hag)).trans hci
  have hnew : W1.heap[w.heap.size]? = some (.cells #[.int .u64 (d1 : Int), .int .u64 (d2 : Int), .int .i64 (d3 : Int)] 92 (0, 0)) := by
    have := heap_alloc_new (w.setCell ⟨ba, 0, none⟩ (.int .i64 ((at' : Int) + (d3 : Int)))) (.cells #[.int .u64 (d1 : Int), .int .u64 (d2 : Int), .int .i64 (d3 : Int)] 92)
    rw [hW1]
    simpa [World.setCell] using this
  have k5 := cell_of hnew 1 rfl
  have k6 := (hkc go q hb2 (Ne.symm hag')).trans cq
  have hrow1 : W1.ownsRow B 55 1 (.slice (some ⟨go, 0, none⟩) L lo) L (u64s (zsN out)) := row_chg HR.out hchg fun g hg hx => by cases hg; exact hag' hx.symm
  have k7 : W1.frozen? ⟨go, q, none⟩ = false := by
    obtain ⟨g', hg', _, _, _, _, hfz⟩ := row_ptr hrow1 (by omega)
    cases hg'
    exact hfz q
  have sA := block_lt hA1
  have sD := block_lt hnew
  have sG : go < W1.heap.size := Nat.lt_of_lt_of_le hb2 hchg.size
  have sC : bc < W1.heap.size := Nat.lt_of_lt_of_le lc hchg.size
  have sO : bo < W1.heap.size := Nat.lt_of_lt_of_le lo' hchg.size
  have sI : gc < W1.heap.size := Nat.lt_of_lt_of_le lg hchg.size
  have HA1 := Lib.hid hA1; have HC1 := Lib.hid hchg; have HR1 := Lib.hid hrow1; have HAT := Lib.hid hat
  clear hW1 hA1 hchg hkc hnew hrow1 cA fA cq fq hC hO hci hat
  have sDG : w.heap.size ≠ go := by omega
  have u1 : IntKind.i64.wrap (m : Int) = (m : Int) := by rw [IntKind.wrap_i64]; omega
  have u2 : IntKind.i64.wrap (q : Int) = (q : Int) := by rw [IntKind.wrap_i64]; omega
  have u3 : IntKind.u64.wrap (m : Int) = (m : Int) := by rw [IntKind.wrap_u64]; omega
  have u4 : IntKind.u64.wrap (v : Int) = (v : Int) := by rw [IntKind.wrap_u64]; omega
  have z1 : (0 : Int) ≤ (i : Int) := by omega
  have z2 : (i : Int) < (n : Int) := by omega
  have z3 : (0 : Int) ≤ (q : Int) := by omega
  have z4 : (q : Int) < (L : Int) := by omega
  have HQ := Lib.hid hq; have HM := Lib.hid hm
  clear hq hm
  go_region_held3 (fun w' => w'.cell? ⟨ba, 0, none⟩ = some (.int .i64 ((at' : Int) + (d3 : Int))) ∧ w'.cell? ⟨bc, 0, none⟩ = some (.slice (some ⟨gc, 0, none⟩) n cc) ∧ w'.cell? ⟨bo, 0, none⟩ = some (.slice (some ⟨go, 0, none⟩) L lo) ∧ w'.cell? ⟨gc, i, none⟩ = some (.int .i64 (v : Int)) ∧ w'.cell? ⟨w.heap.size, 1, none⟩ = some (.int .u64 (d2 : Int)))
    (first | go_keep | (go_split_ands; refine ⟨?_, ?_, ?_, ?_, ?_⟩ <;> first | exact (hb.cell (by assumption)).trans (by assumption) | (rw [World.cell?_setCell_other _ _ _ _ (by first | (simp; done) | (simp; omega))]; assumption)))
    ((go_at_call 83; refine (W.out _).mono ?_; rintro e w2 ⟨rfl, hb⟩; have g1 : w2.cell? ⟨go, q, none⟩ = some (.int .u64 (old : Int)) := (hb.cell (p := ⟨go, q, none⟩) sG).trans k6; have g2 : w2.frozen? ⟨go, q, none⟩ = false := (hb.frozen (p := ⟨go, q, none⟩) sG).trans k7; have HB := Lib.hid hb))
  all_goals
    go_end0
    refine ⟨rfl, ⟨?_, ?_, ((HC1.out.mono (fun k h => .inl h)).drew.trans (Chg.of_below HB.out)).setCell (p := ⟨go, q, none⟩) (.inl (.inr rfl)) _⟩⟩
    · rw [Below.heap_setCell _ _ _ _ (by show ba ≠ go; exact hag'), ← HAT.out]
      exact (HB.out.block ba sA).trans HA1.out
    · have h1 : w2.ownsRow B 55 1 (.slice (some ⟨go, 0, none⟩) L lo) L (u64s (zsN out)) := row_chg (w := W1.drew) HR1.out.drew (Chg.of_below (S := fun _ => False) HB.out) (fun _ _ h => h)
      have h2 := row_set h1 hqL (.int .u64 (x : Int))
      rw [← u64s_set] at h2
      rw [show zsN (out.set q x) = (zsN out).set q (x : Int) by simp [zsN, List.map_set]]
      exact h2

/-- the numbers of choices, as they are drawn -/
def vsH (n : Nat) (C : List Int) : List Nat := (List.range (n - 1)).map fun k => (C.getD (n - 1 - k) 0).toNat
theorem vsH_len (n : Nat) (C : List Int) : (vsH n C).length = n - 1 := by simp [vsH]
theorem vsH_get {n k : Nat} (C : List Int) (h : k < n - 1) : (vsH n C).getD k 0 = (C.getD (n - 1 - k) 0).toNat := by simp [vsH, List.getD, h]
theorem vsH_fits {n : Nat} {C : List Int} (hl : C.length = n) (h : shRight C) : Fits (limH n) (vsH n C) :=
  fits_of (by rw [vsH_len, limH_len]) fun i hi => by
    rw [limH_len] at hi
    rw [vsH_get C hi, limH_get hi]
    have := h (n - 1 - i) (by omega)
    omega

/-- what lies in the blocks of the call's own while words are aimed -/
structure AimAt (B : Nat) (wr : World) (ba bc bo n L : Nat) (vc vo vd : Value) (C : List Int) (ds : List Drw) (at' : Nat) (out : List Nat) : Prop where
  atc : wr.heap[ba]? = some (.cells #[.int .i64 (at' : Int)] 3 (0, 0))
  ccl : wr.heap[bc]? = some (.cells #[vc] 26 (0, 0))
  ocl : wr.heap[bo]? = some (.cells #[vo] 22 (0, 0))
  crow : wr.ownsRow B 3 1 vc n (i64s C)
  orow : wr.ownsRow B 55 1 vo L (u64s (zsN out))
  drow : wr.ownsRow B 92 3 vd ds.length (dwC ds)
  nca : vc.ownBlock ≠ some ba
  bA : B ≤ ba
theorem blk_ne {w : World} {a b : Nat} {ca cb : Array Value} {e e' : TypeId} {f f' : Nat × Nat} (h : w.heap[a]? = some (.cells ca e f)) (h' : w.heap[b]? = some (.cells cb e' f')) (hne : e ≠ e') : a ≠ b := by
  rintro rfl
  rw [h] at h'
  injection h' with h'
  injection h' with _ h3
  exact hne h3
theorem row_blk_ne {w : World} {B b : Nat} {e e' : TypeId} {sz n : Nat} {v : Value} {xs : List Value} {cb : Array Value} {f : Nat × Nat} (h : w.ownsRow B e sz v n xs) (h' : w.heap[b]? = some (.cells cb e' f)) (hne : e ≠ e') : v.ownBlock ≠ some b := by
  intro hg
  rcases h.2 with ⟨rfl, _⟩ | ⟨g1, c1, cur1, rfl, _, h1, _⟩
  · cases hg
  · cases hg
    exact blk_ne h1 h' hne rfl

theorem AimAt.below {B : Nat} {wr w' : World} {ba bc bo n L : Nat} {vc vo vd : Value} {C : List Int} {ds : List Drw} {at' : Nat} {out : List Nat} (h : AimAt B wr ba bc bo n L vc vo vd C ds at' out) (hb : Below wr.heap.size wr w') : AimAt B w' ba bc bo n L vc vo vd C ds at' out :=
  ⟨(hb.block _ (block_lt h.atc)).trans h.atc, (hb.block _ (block_lt h.ccl)).trans h.ccl, (hb.block _ (block_lt h.ocl)).trans h.ocl,
    row_chg h.crow (Chg.of_below (S := fun _ => False) hb) (fun _ _ h => h), row_chg h.orow (Chg.of_below (S := fun _ => False) hb) (fun _ _ h => h), row_chg h.drow (Chg.of_below (S := fun _ => False) hb) (fun _ _ h => h), h.nca, h.bA⟩

theorem AimAt.step {B : Nat} {wr w' : World} {ba bc bo n L go lo : Nat} {vc vd : Value} {C : List Int} {ds : List Drw} {at' at2 : Nat} {out out2 : List Nat} (h : AimAt B wr ba bc bo n L vc (.slice (some ⟨go, 0, none⟩) L lo) vd C ds at' out)
    (hd : AimD wr w' B ba go L lo at2 out2) : AimAt B w' ba bc bo n L vc (.slice (some ⟨go, 0, none⟩) L lo) vd C ds at2 out2 := by
  have hc := hd.chg
  have hgo : (Value.slice (some ⟨go, 0, none⟩) L lo).ownBlock = some go := rfl
  refine ⟨hd.atc, (hc.block _ (block_lt h.ccl) (fun hx => ?_)).trans h.ccl, (hc.block _ (block_lt h.ocl) (fun hx => ?_)).trans h.ocl, row_chg h.crow hc (fun g hg hx => ?_), hd.row, row_chg h.drow hc (fun g hg hx => ?_), h.nca, h.bA⟩
  · rcases hx with hx | hx
    · exact blk_ne h.ccl h.atc (by decide) hx
    · exact row_blk_ne h.orow h.ccl (by decide) (by rw [hgo, hx])
  · rcases hx with hx | hx
    · exact blk_ne h.ocl h.atc (by decide) hx
    · exact row_blk_ne h.orow h.ocl (by decide) (by rw [hgo, hx])
  · rcases hx with hx | hx
    · exact h.nca (by rw [hg, hx])
    · exact row_ne_row h.crow h.orow (by decide) hg (by rw [hgo, hx])
  · rcases hx with hx | hx
    · exact row_blk_ne h.drow h.atc (by decide) (by rw [hg, hx])
    · exact row_ne_row h.drow h.orow (by decide) hg (by rw [hgo, hx])

theorem ent_haim1 (args : Array Value) (w : World) : (callFunc 82 args).run Try.prog w = .ok (.enter 82 args) w :=
  enters Try.func82 (by kernel_rfl) (by kernel_rfl) args w

set_option maxRecDepth 100000 in
set_option maxHeartbeats 2000000 in
theorem haim_bad (w : World) (vl vp : Value) (m n : Nat) (l : List Nat) (p : List Int) (hp : Rd w 1 vp n (i64s p)) (hn : n ≤ 50000) (hb : isPB p = false) :
    Calls Try.prog 30 #[vl, vp] w fun e w' => e = .returned (.tuple #[.slice none 0 0, .int .i64 2]) ∧ Below w.heap.size w w' := by
  have C := Lib.hid (choices_bad w vp n p hp hn hb)
  clear hp hb
  go_enter Try.func30, Try.ntmps30
  go_wp2_with fail
  refine C.out.mono ?_
  rintro e w1 ⟨rfl, hb⟩
  have HB := Lib.hid hb; clear hb
  go_wp2_with fail
  go_ret2
  exact ⟨rfl, HB.out.alloc HB.out.size _⟩

set_option maxRecDepth 100000 in
set_option maxHeartbeats 8000000 in
theorem haim_any (w : World) (vl vp : Value) (m n : Nat) (l : List Nat) (p : List Int) (hl : Rd w 1 vl m (u64s (zsN l))) (hp : Rd w 1 vp n (i64s p)) (hm : m ≤ 40000) (hw : W64 l) (hn : n ≤ 256) (hip : IsP p) :
    Calls Try.prog 30 #[vl, vp] w fun e w' => TkE (rowN l (limH n))
      (fun r => ∃ so co, e = .returned (.tuple #[.slice so m co, .int .i64 0]) ∧ w'.ownsRow w.heap.size 55 1 (.slice so m co) m (u64s (zsN (aimS (limH n) l r.1 (vsH n (choL p))))))
      (e = .returned (.tuple #[.slice none 0 0, .int .i64 7])) ∧ Below w.heap.size w w' := by
  obtain rfl := hl.len_u64
  obtain rfl := hp.len_i64
  rw [zsN_len] at *
  obtain ⟨sl, cl, rfl⟩ := hl.form
  obtain ⟨sp, cp, rfl⟩ := hp.form
  have C := Lib.hid (choices_ok w _ _ p hp (by omega) hip)
  have hCr : shRight (choL p) ∧ (choL p).length = p.length := (perm_cho hip).2
  have HL := Lib.hid hl; have HP := Lib.hid hp; have HW := Lib.hid hw; have HCR := Lib.hid hCr
  clear hl hp hw hip hCr
  go_enter Try.func30, Try.ntmps30
  go_wp2_with fail
  refine C.out.mono ?_
  rintro e w1 ⟨sc, cc, rfl, hc1, hb1⟩
  have HC1 := Lib.hid hc1; have HB1 := Lib.hid hb1
  clear hc1 hb1
  obtain ⟨W2, hW2⟩ : ∃ W2, W2 = w1.alloc (.cells #[.slice sc p.length cc] 26) := ⟨_, rfl⟩
  have hb2 : Below w.heap.size w W2 := by rw [hW2]; exact HB1.out.alloc HB1.out.size _
  have hbc2 : W2.heap[w1.heap.size]? = some (.cells #[.slice sc p.length cc] 26 (0, 0)) := by rw [hW2]; exact heap_alloc_new _ _
  have hcr2 : W2.ownsRow w.heap.size 3 1 (.slice sc p.length cc) p.length (i64s (choL p)) := by rw [hW2]; exact HC1.out.alloc _
  have HB2 := Lib.hid hb2; have HBC2 := Lib.hid hbc2; have HCR2 := Lib.hid hcr2
  have N := Lib.hid (new_any W2 (.slice sl l.length cl) (zsN l) (by rw [zsN_len]; exact HL.out.below hb2) (by rw [zsN_len]; omega))
  clear hb2 hbc2 hcr2
  go_wp2_with fail
  rw [← hW2]
  clear hW2
  refine N.out.mono ?_
  rintro e w3 ⟨b, wv, rfl, ht, hb3⟩
  have HT := Lib.hid (htake_any w3 _ b wv _ l 0 p.length ht (by omega) HW.out hn)
  have hbb : W2.heap.size ≤ b := ht.2.1
  have hnil : ∀ g, (Value.slice none 0 0).ownBlock = some g → W2.heap.size ≤ g := fun g hg => by cases hg
  have HBB := Lib.hid hbb; have HNIL := Lib.hid hnil; have HB3 := Lib.hid hb3
  clear ht hbb hnil hb3
  go_wp2_with fail
  refine HT.out.mono ?_
  rintro e w4 he
  cases hrow : rowA l (limH p.length) [] 0 with
  | none =>
    rw [hrow] at he
    obtain ⟨rfl, ht4⟩ : e = .returned (.tuple #[.slice none 0 0, .slice none 0 0, .int .i64 7]) ∧ _ := he
    have hb4 := tapeTo_below' ht4 HB3.out.size HB3.out HBB.out HNIL.out
    have HB4 := Lib.hid (HB2.out.trans (hb4.mono HB2.out.size))
    have HROW := Lib.hid (show rowN l (limH p.length) = none from hrow)
    clear ht4 hb4 hrow
    go_wp2_with fail
    go_ret2
    rw [HROW.out]
    exact ⟨(rfl : _ = _), HB4.out⟩
  | some r =>
    rw [hrow] at he
    obtain ⟨⟨s1, c1, sd, cd, rfl, -, hd⟩, ht4⟩ := he
    have hb4 := tapeTo_below' ht4 HB3.out.size HB3.out HBB.out HNIL.out
    have HB4 := Lib.hid (HB2.out.trans (hb4.mono HB2.out.size))
    have HROW := Lib.hid (show rowN l (limH p.length) = some r from hrow)
    have HD4 := Lib.hid (row_mono hd (Nat.le_trans HB2.out.size HB3.out.size))
    have HC4 := Lib.hid (row_chg HCR2.out (Chg.of_below (S := fun _ => False) hb4) (fun _ _ h => h))
    have HBC4 := Lib.hid ((hb4.block _ (block_lt HBC2.out)).trans HBC2.out)
    have CL := Lib.hid (clone_u64 (.slice sl l.length cl) l.length (zsN l) w4 (HL.out.below HB4.out) (by omega))
    clear ht4 hb4 hrow hd
    go_wp2_with fail
    refine CL.out.mono ?_
    rintro e w5 ⟨so, co, rfl, ho, hb5⟩
    obtain ⟨bo, hbo⟩ : ∃ bo, bo = w5.heap.size := ⟨_, rfl⟩
    obtain ⟨bc, hbc⟩ : ∃ bc, bc = w1.heap.size := ⟨_, rfl⟩
    obtain ⟨W6, hW6⟩ : ∃ W6, W6 = (w5.alloc (.cells #[.slice so l.length co] 22)).alloc (.cells #[.int .i64 0] 3) := ⟨_, rfl⟩
    have hb6 : Below w5.heap.size w5 W6 := by rw [hW6]; exact ((Below.refl _ _).alloc (Nat.le_refl _) _).alloc (by simp) _
    have hsz : w5.heap.size + 2 = W6.heap.size := by rw [hW6]; simp
    obtain ⟨hrl, hfac⟩ := rowN_facts HW.out HROW.out
    rw [limH_len] at hrl hfac
    have haim : AimAt w.heap.size W6 (bo + 1) bc bo p.length l.length (.slice sc p.length cc) (.slice so l.length co) (.slice sd (p.length - 1) cd) (choL p) r.1 0 l := by
      have k1 := row_chg HC4.out (Chg.of_below (S := fun _ => False) (hb5.trans (hb6.mono hb5.size))) (fun _ _ h => h)
      have k2 := row_chg HD4.out (Chg.of_below (S := fun _ => False) (hb5.trans (hb6.mono hb5.size))) (fun _ _ h => h)
      have k3 := row_chg (row_mono ho HB4.out.size) (Chg.of_below (S := fun _ => False) hb6) (fun _ _ h => h)
      have lbc := block_lt HBC4.out
      have s5 := hb5.size
      refine ⟨?_, ?_, ?_, k1, k3, by rw [hrl]; exact k2, fun hx => ?_, ?_⟩
      · have := heap_alloc_new (w5.alloc (.cells #[.slice so l.length co] 22)) (.cells #[.int .i64 0] 3)
        rw [hW6, hbo]
        simpa using this
      · rw [hbc]
        exact (hb6.block _ (Nat.lt_of_lt_of_le lbc s5)).trans ((hb5.block _ lbc).trans HBC4.out)
      · rw [hW6, hbo, Below.heap_alloc _ _ _ (by simp)]
        exact heap_alloc_new _ _
      · have := (HC4.out.lt _ hx).2; omega
      · have := HB4.out.size; omega
    have hb7 := HB4.out.trans ((hb5.trans (hb6.mono hb5.size)).mono HB4.out.size)
    have HAIM := Lib.hid haim; have HB6 := Lib.hid hb7; have HRL := Lib.hid hrl; have HFAC := Lib.hid hfac
    obtain ⟨N1, hN1⟩ : ∃ N1, N1 = p.length - 1 := ⟨_, rfl⟩
    have HN1 := Lib.hid hN1
    have hba : w5.heap.size + 1 = bo + 1 := by rw [hbo]
    rw [← hN1] at HAIM ⊢
    have hbN1 : N1 ≤ 256 := by omega
    have HBO := Lib.hid hbo; have HBC := Lib.hid hbc
    clear haim hb6 hb7 hrl hfac hsz ho hb5 hN1
    go_wp2_with fail
    rw [← hbo, ← hbc, ← hW6]
    clear hbo hbc hW6 hba
    go_loopw [40] (fun s wr => ∃ (k : Nat) (out : List Nat), k ≤ N1 ∧ s = .int .i64 k ∧ Hid (out.length = l.length) ∧ Hid (AimAt w.heap.size wr (bo + 1) bc bo p.length l.length (.slice sc p.length cc) (.slice so l.length co) (.slice sd N1 cd) (choL p) r.1 (usedK r.1 k) out) ∧ Hid (Below w.heap.size w wr) ∧ Hid (aimS (limH p.length) l r.1 (vsH p.length (choL p)) = aimL out ((limH p.length).drop k) (r.1.drop k) ((vsH p.length (choL p)).drop k) (usedK r.1 k))) (fun s _ => N1 - (intOf s).toNat)
    case atStart => exact ⟨0, l, Nat.zero_le _, rfl, Lib.hid rfl, HAIM, HB6, Lib.hid (by simp only [List.drop_zero, usedK_zero, aimL_zero])⟩
    case round =>
      obtain ⟨k, out, hk, rfl, HLEN, HA, HB, HT⟩ := hrel
      by_cases hlt : k < N1
      · have hkn : k < p.length - 1 := by have := HN1.out; omega
        obtain ⟨f1, f2, f3⟩ := HFAC.out k hkn
        rw [limH_get hkn] at f2
        have hkr : k < r.1.length := by rw [HRL.out]; exact hkn
        rw [usedK_succ hkr] at f3
        obtain ⟨i, hi⟩ : ∃ i, i = p.length - 1 - k := ⟨_, rfl⟩
        have e1 : ((p.length : Int) - 1 - (k : Int)) = (i : Int) := by omega
        have hin : i < p.length := by omega
        have hsr := HCR.out.1 i (by rw [HCR.out.2]; exact hin)
        obtain ⟨v, hv⟩ : ∃ v : Nat, (v : Int) = (choL p).getD i 0 := ⟨((choL p).getD i 0).toNat, by omega⟩
        have hvi : v < i + 1 := by omega
        have hlim : p.length - k = i + 1 := by omega
        have hds := drop_cons (l := limH p.length) (k := k) (by rw [limH_len]; exact hkn)
        rw [limH_get hkn, hlim] at hds
        have hvs := drop_cons (l := vsH p.length (choL p)) (k := k) (by rw [vsH_len]; exact hkn)
        rw [vsH_get _ hkn, ← hi, ← hv, Int.toNat_natCast] at hvs
        have hdd : r.1.drop k = r.1.getD k dwZ :: r.1.drop (k + 1) := by
          rw [List.getD_eq_getElem?_getD, List.getElem?_eq_getElem hkr]
          exact List.drop_eq_getElem_cons hkr
        have hst := usedK_succ hkr
        obtain ⟨bb, off, rfl, hcd⟩ := (rd_of_row HA.out.drow).at (by omega)
        obtain ⟨y0, y1, y2⟩ := dwC_at r.1 k hkr
        have x0 := hcd _ _ y0
        have x1 := hcd _ _ y1
        have x2 := hcd _ _ y2
        rw [← Nat.add_assoc] at x1 x2
        rw [hlim] at f2
        generalize r.1.getD k dwZ = d at *
        obtain ⟨d1, d2, d3⟩ := d
        simp only at x0 x1 x2 f1 f2 f3 hst
        obtain ⟨q, hq⟩ : ∃ q, usedK r.1 k + d3 = q + 1 := ⟨usedK r.1 k + d3 - 1, by omega⟩
        obtain ⟨gc, rfl, -, hgc2, -, hcc, -⟩ := row_ptr HA.out.crow (by omega)
        obtain ⟨go, rfl, -, hgo2, -, -, -⟩ := row_ptr HA.out.orow (by omega)
        have hci := hcc i _ (i64s_at _ i (by rw [HCR.out.2]; exact hin))
        rw [← hv] at hci
        obtain ⟨W7, hW7⟩ : ∃ W7, W7 = wr.alloc (.cells #[.int .u64 (d1 : Int), .int .u64 (d2 : Int), .int .i64 (d3 : Int)] 92) := ⟨_, rfl⟩
        have hb7 : Below wr.heap.size wr W7 := by rw [hW7]; exact (Below.refl _ _).alloc (Nat.le_refl _) _
        have hA7 := HA.out.below hb7
        have hgo : (Value.slice (some ⟨go, 0, none⟩) l.length co).ownBlock = some go := rfl
        have hgc : (Value.slice (some ⟨gc, 0, none⟩) p.length cc).ownBlock = some gc := rfl
        have hcall := aim1_any W7 w.heap.size (bo + 1) bc bo gc go p.length cc l.length co i (usedK r.1 k) v q d1 d2 d3 out hA7.atc (cell_of hA7.ccl 0 rfl) (cell_of hA7.ocl 0 rfl)
          ((hb7.cell (p := ⟨gc, i, none⟩) hgc2).trans hci) hin hA7.orow hq (by omega) (by omega) (by omega) hvi f2
          (blk_ne hA7.atc hA7.ccl (by decide)) (blk_ne hA7.atc hA7.ocl (by decide)) (fun h => hA7.nca (by rw [hgc, h]))
          (fun h => row_blk_ne hA7.orow hA7.ccl (by decide) (by rw [hgo, h])) (fun h => row_blk_ne hA7.orow hA7.ocl (by decide) (by rw [hgo, h]))
          (fun h => row_ne_row hA7.crow hA7.orow (by decide) hgc (by rw [hgo, h]))
        have htt := HT.out
        rw [hds, hvs, hdd, aimL_step (d := (d1, d2, d3)) (by rw [HLEN.out]; exact f3) f1] at htt
        simp only at htt
        rw [show usedK r.1 k + d3 - 1 = q by omega, ← hst] at htt
        rw [← hst] at hcall
        have HCALL := Lib.hid hcall; have HTT := Lib.hid htt; have HA7 := Lib.hid hA7; have HB7 := Lib.hid (HB.out.trans (hb7.mono HB.out.size))
        clear f1 f2 f3 hsr hv hvi hlim hds hvs hdd hst y0 y1 y2 hcd hq hcc hci hb7 hA7 hgo hgc hcall htt hi hkr hgc2 hgo2
        go_wp2_with fail
        rw [← hW7]
        clear hW7
        refine HCALL.out.mono ?_
        rintro e w8 ⟨rfl, hd⟩
        have hA8 := HA7.out.step hd
        have hb8 : Below w.heap.size w w8 := HB7.out.trans (hd.chg.below HB7.out.size fun x hx => by
          rcases hx with rfl | rfl
          · exact HA7.out.bA
          · exact (HA7.out.orow.lt _ rfl).1)
        have HA8 := Lib.hid hA8; have HB8 := Lib.hid hb8
        clear hd hA8 hb8
        go_wp2_with fail
        go_roundw
        case rel => exact ⟨k + 1, out.set q (wrdN v d2 (i + 1)), by omega, by go_num, Lib.hid (by rw [List.length_set, HLEN.out]), HA8, HB8, HTT⟩
        case measure => simp [intOf]; omega
      · obtain rfl : k = N1 := by omega
        have htt := HT.out
        rw [show (limH p.length).drop k = [] from List.drop_of_length_le (by rw [limH_len]; have := HN1.out; omega), aimL_end] at htt
        have c0 := cell_of HA.out.ocl 0 rfl
        have HTT := Lib.hid htt
        clear htt
        go_wp2_with fail
        go_ret2
        refine ⟨?_, HB.out⟩
        rw [HROW.out]
        refine ⟨so, co, rfl, ?_⟩
        rw [HTT.out]
        exact HA.out.orow

end Go.Proofs.Ytkgmobneipdpeaa
