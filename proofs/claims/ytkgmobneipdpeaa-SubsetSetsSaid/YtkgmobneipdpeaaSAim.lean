/-
  A tape aimed at a pick: subset.Aim.
-/
import Derived.Test.YtkgmobneipdpeaaWord
import Derived.Test.YtkgmobneipdpeaaRSub
namespace Go.Proofs.Ytkgmobneipdpeaa
open Go.RowKit
set_option linter.unusedVariables false

theorem tapeTo_below' {W w1 w' : World} {B b : Nat} {wv tv : Value} {l : List Int} {k S : Nat} (h : TapeTo w1 w' B b wv tv l k S) (hW : W.heap.size ≤ w1.heap.size) (hb : Below W.heap.size W w1) (hB : W.heap.size ≤ b) (ht : ∀ g, tv.ownBlock = some g → W.heap.size ≤ g) : Below W.heap.size W w' :=
  hb.trans (h.chg.below hW fun k hk => by
    rcases hk with rfl | hk
    · exact hB
    · exact ht k hk)

/-- the numbers of choices -/
def vsS (C : List Int) : List Nat := C.map Int.toNat
theorem vsS_len (C : List Int) : (vsS C).length = C.length := by simp [vsS]
theorem vsS_get {C : List Int} {k : Nat} (h : k < C.length) : (vsS C).getD k 0 = (C.getD k 0).toNat := by simp [vsS, List.getD, List.getElem?_eq_getElem h]
theorem vsS_fits {n : Nat} {C : List Int} (hn : C.length ≤ n) (h : sbRight (n : Int) C) : Fits (limS n C.length) (vsS C) :=
  fits_of (by rw [vsS_len, limS_len]) fun i hi => by
    rw [limS_len] at hi
    rw [vsS_get hi, limS_get hi]
    have := h i hi
    omega

/-- the rows of the call's own while words are aimed -/
structure SAimAt (B : Nat) (wr : World) (k L : Nat) (vc vo vd : Value) (C : List Int) (ds : List Drw) (out : List Nat) : Prop where
  crow : wr.ownsRow B 3 1 vc k (i64s C)
  orow : wr.ownsRow B 55 1 vo L (u64s (zsN out))
  drow : wr.ownsRow B 92 3 vd ds.length (dwC ds)
theorem SAimAt.below {B k L : Nat} {wr w' : World} {vc vo vd : Value} {C : List Int} {ds : List Drw} {out : List Nat} (h : SAimAt B wr k L vc vo vd C ds out) (hb : Below wr.heap.size wr w') : SAimAt B w' k L vc vo vd C ds out :=
  ⟨row_chg h.crow (Chg.of_below (S := fun _ => False) hb) (fun _ _ h => h), row_chg h.orow (Chg.of_below (S := fun _ => False) hb) (fun _ _ h => h), row_chg h.drow (Chg.of_below (S := fun _ => False) hb) (fun _ _ h => h)⟩
theorem SAimAt.set {B k L go lo : Nat} {wr : World} {vc vd : Value} {C : List Int} {ds : List Drw} {out : List Nat} (h : SAimAt B wr k L vc (.slice (some ⟨go, 0, none⟩) L lo) vd C ds out) {q : Nat} (hq : q < L) (x : Nat) :
    SAimAt B (wr.setCell ⟨go, q, none⟩ (.int .u64 (x : Int))) k L vc (.slice (some ⟨go, 0, none⟩) L lo) vd C ds (out.set q x) := by
  have hc : Chg (fun k => k = go) wr (wr.setCell ⟨go, q, none⟩ (.int .u64 (x : Int))) := (Chg.refl (fun k => k = go) wr).setCell (p := ⟨go, q, none⟩) (.inl rfl) _
  refine ⟨row_chg h.crow hc fun g hg hx => ?_, ?_, row_chg h.drow hc fun g hg hx => ?_⟩
  · subst hx; exact row_ne_row h.crow h.orow (by decide) hg rfl
  · have h2 := row_set h.orow hq (.int .u64 (x : Int))
    rw [← u64s_set] at h2
    rw [show zsN (out.set q x) = (zsN out).set q (x : Int) by simp [zsN, List.map_set]]
    exact h2
  · subst hx; exact row_ne_row h.drow h.orow (by decide) hg rfl

set_option maxRecDepth 100000 in
set_option maxHeartbeats 2000000 in
theorem saim_cnt (w : World) (vl v : Value) (n : Int) (m : Nat) (c : List Int) (h : Rd w 1 v m (i64s c)) (hb : cntS n (c.length : Int) ≠ 0) :
    Calls Try.prog 34 #[vl, .int .i64 n, v] w fun e w' => e = .returned (.tuple #[.slice none 0 0, .int .i64 1]) ∧ w = w' := by
  have C := Lib.hid (subcho_cnt w n v m c h hb)
  clear h hb
  go_enter Try.func34, Try.ntmps34
  go_wp2_with fail
  refine C.out.mono ?_
  rintro e w1 ⟨rfl, rfl⟩
  go_wp2_with fail
  go_ret2
  exact ⟨rfl, rfl⟩
set_option maxRecDepth 100000 in
set_option maxHeartbeats 2000000 in
theorem saim_bad (w : World) (vl v : Value) (n : Int) (m : Nat) (c : List Int) (h : Rd w 1 v m (i64s c)) (hc : cntS n (c.length : Int) = 0) (hb : isSB n c = false) :
    Calls Try.prog 34 #[vl, .int .i64 n, v] w fun e w' => e = .returned (.tuple #[.slice none 0 0, .int .i64 2]) ∧ Below w.heap.size w w' := by
  have C := Lib.hid (subcho_bad w n v m c h hc hb)
  clear h hb hc
  go_enter Try.func34, Try.ntmps34
  go_wp2_with fail
  refine C.out.mono ?_
  rintro e w1 ⟨rfl, hb⟩
  have HB := Lib.hid hb; clear hb
  go_wp2_with fail
  go_ret2
  exact ⟨rfl, HB.out⟩

set_option maxRecDepth 100000 in
set_option maxHeartbeats 8000000 in
theorem saim_any (w : World) (vl vp : Value) (m n k : Nat) (l : List Nat) (p : List Int) (hl : Rd w 1 vl m (u64s (zsN l))) (hp : Rd w 1 vp k (i64s p)) (hm : m ≤ 40000) (hw : W64 l) (hk : k ≤ n) (hn : n ≤ 256) (his : IsS (n : Int) p) :
    Calls Try.prog 34 #[vl, .int .i64 (n : Int), vp] w fun e w' => TkE (rowN l (limS n k))
      (fun r => ∃ so co, e = .returned (.tuple #[.slice so m co, .int .i64 0]) ∧ w'.ownsRow w.heap.size 55 1 (.slice so m co) m (u64s (zsN (aimS (limS n k) l r.1 (vsS (choS n p))))))
      (e = .returned (.tuple #[.slice none 0 0, .int .i64 7])) ∧ Below w.heap.size w w' := by
  obtain rfl := hl.len_u64
  obtain rfl := hp.len_i64
  rw [zsN_len] at *
  obtain ⟨sl, cl, rfl⟩ := hl.form
  obtain ⟨sp, cp, rfl⟩ := hp.form
  have C := Lib.hid (subcho_ok w n _ _ p hp hn hk his)
  obtain ⟨-, hsr, hcl⟩ := pick_cho his
  have HL := Lib.hid hl; have HW := Lib.hid hw; have HSR := Lib.hid hsr; have HCL := Lib.hid hcl
  clear hl hp hw his hsr hcl
  go_enter Try.func34, Try.ntmps34
  go_wp2_with fail
  refine C.out.mono ?_
  rintro e w1 ⟨sc, cc, rfl, hc1, hb1⟩
  have HC1 := Lib.hid hc1; have HB1 := Lib.hid hb1
  have N := Lib.hid (new_any w1 (.slice sl l.length cl) (zsN l) (by rw [zsN_len]; exact HL.out.below hb1) (by rw [zsN_len]; omega))
  clear hc1 hb1
  go_wp2_with fail
  refine N.out.mono ?_
  rintro e w3 ⟨b, wv, rfl, ht, hb3⟩
  have HT := Lib.hid (stake_any w3 _ b wv _ l 0 n p.length ht (by omega) HW.out hk hn)
  have hbb : w1.heap.size ≤ b := ht.2.1
  have hnil : ∀ g, (Value.slice none 0 0).ownBlock = some g → w1.heap.size ≤ g := fun g hg => by cases hg
  have HBB := Lib.hid hbb; have HNIL := Lib.hid hnil; have HB3 := Lib.hid hb3
  clear ht hbb hnil hb3
  go_wp2_with fail
  refine HT.out.mono ?_
  rintro e w4 he
  cases hrow : rowA l (limS n p.length) [] 0 with
  | none =>
    rw [hrow] at he
    obtain ⟨rfl, ht4⟩ : e = .returned (.tuple #[.slice none 0 0, .slice none 0 0, .int .i64 7]) ∧ _ := he
    have hb4 := tapeTo_below' ht4 HB3.out.size HB3.out HBB.out HNIL.out
    have HB4 := Lib.hid (HB1.out.trans (hb4.mono HB1.out.size))
    have HROW := Lib.hid (show rowN l (limS n p.length) = none from hrow)
    clear ht4 hb4 hrow
    go_wp2_with fail
    go_ret2
    rw [HROW.out]
    exact ⟨(rfl : _ = _), HB4.out⟩
  | some r =>
    rw [hrow] at he
    obtain ⟨⟨s1, c1, sd, cd, rfl, -, hd⟩, ht4⟩ := he
    have hb4 := tapeTo_below' ht4 HB3.out.size HB3.out HBB.out HNIL.out
    have HB4 := Lib.hid (HB1.out.trans (hb4.mono HB1.out.size))
    have HROW := Lib.hid (show rowN l (limS n p.length) = some r from hrow)
    have HD4 := Lib.hid (row_mono hd (Nat.le_trans HB1.out.size HB3.out.size))
    have HC4 := Lib.hid (row_chg HC1.out (Chg.of_below (S := fun _ => False) hb4) (fun _ _ h => h))
    have CL := Lib.hid (clone_u64 (.slice sl l.length cl) l.length (zsN l) w4 (HL.out.below HB4.out) (by omega))
    clear ht4 hb4 hrow hd
    go_wp2_with fail
    refine CL.out.mono ?_
    rintro e w5 ⟨so, co, rfl, ho, hb5⟩
    obtain ⟨hrl, hfac⟩ := rowN_facts HW.out HROW.out
    rw [limS_len] at hrl hfac
    have haim : SAimAt w.heap.size w5 p.length l.length (.slice sc p.length cc) (.slice so l.length co) (.slice sd p.length cd) (choS n p) r.1 l :=
      ⟨row_chg HC4.out (Chg.of_below (S := fun _ => False) hb5) (fun _ _ h => h), row_mono ho HB4.out.size, by rw [hrl]; exact row_chg HD4.out (Chg.of_below (S := fun _ => False) hb5) (fun _ _ h => h)⟩
    have HAIM := Lib.hid haim; have HB5 := Lib.hid (below_two HB4.out hb5); have HRL := Lib.hid hrl; have HFAC := Lib.hid hfac
    clear haim hrl hfac ho hb5
    go_wp2_with fail
    go_loopw [13, 42] (fun s13 s wr => ∃ (k u : Nat) (out : List Nat), k ≤ p.length ∧ s = .int .i64 k ∧ s13 = .int .i64 u ∧ u ≤ l.length ∧ Hid (u = usedK r.1 k) ∧ Hid (out.length = l.length) ∧ Hid (SAimAt w.heap.size wr p.length l.length (.slice sc p.length cc) (.slice so l.length co) (.slice sd p.length cd) (choS n p) r.1 out) ∧ Hid (Below w.heap.size w wr) ∧ Hid (aimS (limS n p.length) l r.1 (vsS (choS n p)) = aimL out ((limS n p.length).drop k) (r.1.drop k) ((vsS (choS n p)).drop k) u)) (fun _ s _ => p.length - (intOf s).toNat)
    case atStart => exact ⟨0, 0, l, Nat.zero_le _, rfl, rfl, Nat.zero_le _, Lib.hid rfl, Lib.hid rfl, HAIM, HB5, Lib.hid (by simp only [List.drop_zero, aimL_zero])⟩
    case round =>
      obtain ⟨k, u, out, hkk, rfl, rfl, hul, HU, HLEN, HA, HB, HTT⟩ := hrel
      by_cases hlt : k < p.length
      · obtain ⟨f1, f2, f3⟩ := HFAC.out k hlt
        rw [limS_get hlt] at f2
        have hkr : k < r.1.length := by rw [HRL.out]; exact hlt
        rw [usedK_succ hkr, ← HU.out] at f3
        obtain ⟨i, hi⟩ : ∃ i, i = n - k := ⟨_, rfl⟩
        have e1 : ((n : Int) - (k : Int)) = (i : Int) := by omega
        have hsr := HSR.out k (by rw [HCL.out]; exact hlt)
        obtain ⟨v, hv⟩ : ∃ v : Nat, (v : Int) = (choS n p).getD k 0 := ⟨((choS n p).getD k 0).toNat, by omega⟩
        have hvi : v < i := by omega
        have hds := drop_cons (l := limS n p.length) (k := k) (by rw [limS_len]; exact hlt)
        rw [limS_get hlt, ← hi] at hds
        have hvs := drop_cons (l := vsS (choS n p)) (k := k) (by rw [vsS_len, HCL.out]; exact hlt)
        rw [vsS_get (by rw [HCL.out]; exact hlt), ← hv, Int.toNat_natCast] at hvs
        have hdd : r.1.drop k = r.1.getD k dwZ :: r.1.drop (k + 1) := by
          rw [List.getD_eq_getElem?_getD, List.getElem?_eq_getElem hkr]
          exact List.drop_eq_getElem_cons hkr
        have hst := usedK_succ hkr
        rw [← HU.out] at hst
        obtain ⟨bb, off, rfl, hcd⟩ := (rd_of_row HA.out.drow).at (by omega)
        obtain ⟨y0, y1, y2⟩ := dwC_at r.1 k hkr
        have x0 := hcd _ _ y0
        have x1 := hcd _ _ y1
        have x2 := hcd _ _ y2
        rw [← Nat.add_assoc] at x1 x2
        rw [← hi] at f2
        generalize r.1.getD k dwZ = d at *
        obtain ⟨d1, d2, d3⟩ := d
        simp only at x0 x1 x2 f1 f2 f3 hst
        obtain ⟨q, hq⟩ : ∃ q, u + d3 = q + 1 := ⟨u + d3 - 1, by omega⟩
        have e2 : ((u : Int) + (d3 : Int) - 1) = (q : Int) := by omega
        have hqL : q < l.length := by omega
        obtain ⟨gc, rfl, -, sI, -, hcc, -⟩ := row_ptr HA.out.crow (by omega)
        obtain ⟨go, rfl, -, sG, -, hoc, hof⟩ := row_ptr HA.out.orow (by omega)
        have hci := hcc k _ (i64s_at _ k (by rw [HCL.out]; exact hlt))
        rw [← hv] at hci
        have cq := hoc q _ (u64s_at (zsN out) q (by rw [zsN_len, HLEN.out]; exact hqL))
        rw [zsN_get] at cq
        have fq := hof q
        generalize out.getD q 0 = old at cq
        have hgg : gc ≠ go := fun h => row_ne_row HA.out.crow HA.out.orow (by decide) rfl (by rw [h]; rfl)
        have hi64 : i < 2 ^ 64 := by rw [p64]; omega
        have hib : i ≤ 256 := by omega
        have WD := Lib.hid (fun w' => lword_any w' v d2 i hvi hi64 f2)
        have htt := HTT.out
        rw [hds, hvs, hdd, aimL_step (d := (d1, d2, d3)) (by rw [HLEN.out]; exact f3) f1] at htt
        simp only at htt
        rw [show u + d3 - 1 = q by omega] at htt
        have hd3 : d3 ≤ 40000 := by omega
        have hud : u + d3 ≤ l.length := f3
        have HT2 := Lib.hid htt; have HST := Lib.hid hst; have HQ := Lib.hid hq
        generalize wrdN v d2 i = x at *
        clear f1 f2 f3 hsr hv hds hvs hdd hst y0 y1 y2 hcd hq hcc hoc hof htt hi hkr hi64
        obtain ⟨W7, hW7⟩ : ∃ W7, W7 = wr.alloc (.cells #[.int .u64 (d1 : Int), .int .u64 (d2 : Int), .int .i64 (d3 : Int)] 92) := ⟨_, rfl⟩
        have hb7 : Below wr.heap.size wr W7 := by rw [hW7]; exact (Below.refl _ _).alloc (Nat.le_refl _) _
        have HA7 := Lib.hid (HA.out.below hb7)
        have hnew : W7.heap[wr.heap.size]? = some (.cells #[.int .u64 (d1 : Int), .int .u64 (d2 : Int), .int .i64 (d3 : Int)] 92 (0, 0)) := by rw [hW7]; exact heap_alloc_new _ _
        have k4 := (hb7.cell (p := ⟨gc, k, none⟩) sI).trans hci
        have k5 := cell_of hnew 1 rfl
        have k6 := (hb7.cell (p := ⟨go, q, none⟩) sG).trans cq
        have k7 := (hb7.frozen (p := ⟨go, q, none⟩) sG).trans fq
        have sD := block_lt hnew
        have sI7 : gc < W7.heap.size := Nat.lt_of_lt_of_le sI hb7.size
        have sG7 : go < W7.heap.size := Nat.lt_of_lt_of_le sG hb7.size
        have sDG : wr.heap.size ≠ go := by omega
        have HB7 := Lib.hid (HB.out.trans (hb7.mono HB.out.size))
        have u1 : IntKind.i64.wrap (i : Int) = (i : Int) := by rw [IntKind.wrap_i64]; omega
        have u2 : IntKind.i64.wrap (q : Int) = (q : Int) := by rw [IntKind.wrap_i64]; omega
        have u3 : IntKind.u64.wrap (i : Int) = (i : Int) := by rw [IntKind.wrap_u64]; omega
        have u4 : IntKind.u64.wrap (v : Int) = (v : Int) := by rw [IntKind.wrap_u64]; omega
        have z1 : (0 : Int) ≤ (k : Int) := by omega
        have z2 : (k : Int) < (p.length : Int) := by omega
        have z3 : (0 : Int) ≤ (q : Int) := by omega
        have z4 : (q : Int) < (l.length : Int) := by omega
        clear hb7 hnew hci cq fq
        go_wp2_with fail
        rw [← hW7]
        clear hW7
        go_region_held3 (fun w' => w'.cell? ⟨gc, k, none⟩ = some (.int .i64 (v : Int)) ∧ w'.cell? ⟨wr.heap.size, 1, none⟩ = some (.int .u64 (d2 : Int)))
          (first | go_keep | (go_split_ands; refine ⟨?_, ?_⟩ <;> first | exact (hb.cell (by assumption)).trans (by assumption) | (rw [World.cell?_setCell_other _ _ _ _ (by first | (simp; done) | (simp; omega))]; assumption)))
          ((go_at_call 83; refine (WD.out _).mono ?_; rintro e w2 ⟨rfl, hb⟩; have g1 : w2.cell? ⟨go, q, none⟩ = some (.int .u64 (old : Int)) := (hb.cell (p := ⟨go, q, none⟩) sG7).trans k6; have g2 : w2.frozen? ⟨go, q, none⟩ = false := (hb.frozen (p := ⟨go, q, none⟩) sG7).trans k7; have HBW := Lib.hid hb))
        all_goals
          have hbw : Below W7.heap.size W7 w2 := (Below.refl _ W7).drew.trans HBW.out
          have hA8 := (HA7.out.below hbw).set hqL x
          have hb8 : Below w.heap.size w (w2.setCell ⟨go, q, none⟩ (.int .u64 (x : Int))) := (HB7.out.trans (hbw.mono HB7.out.size)).setCell (p := ⟨go, q, none⟩) (HA7.out.orow.lt _ rfl).1 _
          have HA8 := Lib.hid hA8; have HB8 := Lib.hid hb8
          have e3 : ((u : Int) + (d3 : Int)) = ((u + d3 : Nat) : Int) := by omega
          have HE3 := Lib.hid e3
          clear hA8 hb8 hbw hb g1 g2 e2 e3 k4 k5 k6 k7 u1 u2 u3 u4 e1
          go_wp2_with fail
          go_roundw
          case rel => exact ⟨k + 1, u + d3, out.set q x, by omega, by go_num, by rw [HE3.out], hud, Lib.hid HST.out.symm, Lib.hid (by rw [List.length_set, HLEN.out]), HA8, HB8, HT2⟩
          case measure => simp [intOf]; omega
      · obtain rfl : k = p.length := by omega
        have htt := HTT.out
        rw [show (limS n p.length).drop p.length = [] from List.drop_of_length_le (by rw [limS_len]; omega), aimL_end] at htt
        have HTT := Lib.hid htt
        clear htt
        go_wp2_with fail
        go_ret2
        refine ⟨?_, HB.out⟩
        rw [HROW.out]
        refine ⟨so, co, rfl, ?_⟩
        rw [HTT.out]
        exact HA.out.orow

end Go.Proofs.Ytkgmobneipdpeaa
