/-
  ReservoirEven: the order that Move tells is an order and is undone; a tape aimed at a set in the slots (reservoir.AimSet); the law.
-/
import Derived.Test.YtcoohepkmhpdkaaGreatOthers
import Derived.Test.YtcoohepkmhpdkaaGreatTurnPlain
import Derived.Test.YtcoohepkmhpdkaaGreatAimPlain
import Derived.Test.YtcoohepkmhpdkaaGreatRvTake
import Derived.Test.YtcoohepkmhpdkaaGreatMove
import Derived.Test.YtcoohepkmhpdkaaGreatRanks
import Derived.Test.YtcoohepkmhpdkaaGreatWord
import Derived.Test.YtcoohepkmhpdkaaGreatTurn
import Derived.Deep.RegionHeld3
import Derived.Test.YtcoohepkmhpdkaaGreatRefSet
import Derived.Test.YtcoohepkmhpdkaaGreatWords
import Derived.Test.YtcoohepkmhpdkaaGreatResSlots
namespace Go.Proofs.YtcoohepkmhpdkaaGreat
open Go.RowKit
set_option linter.unusedVariables false
set_option linter.unusedSimpArgs false

theorem moveL_mem {n : Nat} {fr tg : List Int} (hf : IsS (n : Int) fr) {x : Nat} (hx : x < n) : ∃ i, i < n ∧ (endsL n fr).getD i 0 = (x : Int) ∧ (moveL n fr tg).getD x 0 = (endsL n tg).getD i 0 := by
  have hm : (x : Int) ∈ endsL n fr := (endsL_perm hf).mem_iff.2 (mem_rowL.2 ⟨by omega, by omega⟩)
  obtain ⟨i, hi, e⟩ := mem_getD hm
  rw [endsL_len hf] at hi
  have h2 := @moveL_get _ _ tg hf _ hi
  rw [e, Int.toNat_natCast] at h2
  exact ⟨i, hi, e, h2⟩

theorem moveL_isP {n : Nat} {fr tg : List Int} (hf : IsS (n : Int) fr) (ht : IsS (n : Int) tg) : IsP (moveL n fr tg) := by
  refine isP_of (nodup_of_inj fun x y hx hy e => ?_) (fun z hz => ?_)
  · rw [moveL_len] at hx hy
    obtain ⟨i, hi, e1, e2⟩ := moveL_mem (tg := tg) hf hx
    obtain ⟨j, hj, f1, f2⟩ := moveL_mem (tg := tg) hf hy
    rw [e2, f2] at e
    have hij := nodup_inj (endsL_nodup ht) (by rw [endsL_len ht]; exact hi) (by rw [endsL_len ht]; exact hj) e
    subst hij
    rw [e1] at f1
    omega
  · obtain ⟨x, hx, rfl⟩ := mem_getD hz
    rw [moveL_len] at hx ⊢
    obtain ⟨i, hi, e1, e2⟩ := moveL_mem (tg := tg) hf hx
    rw [e2]
    exact endsL_bound ht hi

theorem moveL_back {n : Nat} {fr tg : List Int} (hf : IsS (n : Int) fr) (ht : IsS (n : Int) tg) : moveL n tg fr = backL (moveL n fr tg) := by
  have hp := moveL_isP hf ht
  refine ext_getD (by rw [backL_len, moveL_len, moveL_len]) fun j hj => ?_
  rw [moveL_len] at hj
  have hj' : j < (moveL n fr tg).length := by rw [moveL_len]; exact hj
  obtain ⟨t, ht1, ht2⟩ := hp.has (x := (j : Int)) (by omega) (by omega)
  rw [backL_get _ _ hj']
  rw [ixN_eq hp.nodup (i := t) ht1 ht2]
  rw [moveL_len] at ht1
  obtain ⟨i, hi, e1, e2⟩ := moveL_mem (tg := tg) hf ht1
  have h2 := @moveL_get _ _ fr ht _ hi
  rw [← e2, ht2, Int.toNat_natCast] at h2
  rw [h2, e1]

/-- decisions as they are drawn -/
def vsR (d : List Int) : List Nat := d.map Int.toNat
theorem vsR_len (d : List Int) : (vsR d).length = d.length := by simp [vsR]
theorem vsR_get (d : List Int) {i : Nat} (h : i < d.length) : (vsR d).getD i 0 = (d.getD i 0).toNat := by simp [vsR, List.getD, h]
theorem vsR_fits {n k : Nat} {d : List Int} (h : resRight n k d) : Fits (limR n k) (vsR d) :=
  fits_of (by rw [vsR_len, limR_len]; exact h.1) fun i hi => by
    rw [limR_len] at hi
    have h1 := h.1
    rw [vsR_get _ (by omega), limR_get hi]
    have := h.2 i (by omega)
    omega
theorem numsI_zn (ds : List Drw) : numsI ds = zsN (numsN ds) := by simp [numsI, zsN, numsN]
theorem vsR_nums {d : List Int} (h : ∀ i, i < d.length → 0 ≤ d.getD i 0) : zsN (vsR d) = d := by
  refine ext_getD (by simp [vsR, zsN]) fun i hi => ?_
  have hi' : i < d.length := by simpa [vsR, zsN] using hi
  have h1 := h i hi'
  simp only [vsR, zsN, List.map_map, List.getD_eq_getElem?_getD, List.getElem?_map, List.getElem?_eq_getElem hi', Option.map_some, Option.getD_some, Function.comp] at h1 ⊢
  omega

/-- where the items of the slots are moved to -/
def evM (n k : Nat) (d p : List Int) : List Int := moveL n (setL (slotsL k d)) p
/-- the decisions that are aimed at -/
def evT (n k : Nat) (d p : List Int) : List Int := turnL n k d (evM n k d p)

theorem slots_isS {n k : Nat} {d : List Int} (hk : k ≤ n) (hd : resRight n k d) : IsS (n : Int) (slotsL k d) := by
  obtain ⟨h1, h2⟩ := order_isP' n k d hk hd
  rw [← take_order k d hd.2]
  refine ⟨h1.nodup.sublist (List.take_sublist _ _), fun x hx => ?_⟩
  have := h1.bound (List.mem_of_mem_take hx)
  rw [h2] at this
  exact this
theorem isS_set {n : Int} {l : List Int} (h : IsS n l) : IsS n (setL l) ∧ (setL l).length = l.length :=
  ⟨⟨(setL_up l).1.nodup, fun x hx => h.2 x (((setL_up l).2 x).1 hx)⟩, (setL_len l).2 h.1⟩

theorem even_one {n k : Nat} {d p : List Int} (hk : k ≤ n) (hd : resRight n k d) (hp : IsS (n : Int) p) (hu : Up p) (hl : p.length = k) :
    resRight n k (evT n k d p) ∧ setL (slotsL k (evT n k d p)) = p ∧ evT n k (evT n k d p) (setL (slotsL k d)) = d := by
  have hs := slots_isS hk hd
  obtain ⟨hss, hsl⟩ := isS_set hs
  have hm : IsP (evM n k d p) := moveL_isP hss hp
  have hml : (evM n k d p).length = n := moveL_len _ _ _
  have hr : resRight n k (evT n k d p) := (turn_facts n k d _ hk hd hm hml).2.2.2.2.2.2
  have h1 := turn_slots n k d _ hk hd hm hml
  obtain ⟨-, m2, -⟩ := mvL_ok hs hp hu (by rw [slotsL_len, hl])
  have h2 : setL (slotsL k (evT n k d p)) = p := h1.trans m2
  refine ⟨hr, h2, ?_⟩
  have h3 : evM n k (evT n k d p) (setL (slotsL k d)) = backL (evM n k d p) := by
    show moveL n (setL (slotsL k (evT n k d p))) (setL (slotsL k d)) = backL (moveL n (setL (slotsL k d)) p)
    rw [h2]
    exact moveL_back hss hp
  show turnL n k (evT n k d p) (evM n k (evT n k d p) (setL (slotsL k d))) = d
  rw [h3]
  exact turn_back n k d _ hk hd hm hml

structure EvenP (n k : Nat) (l : List Nat) (p : List Int) (r : List Drw × Nat) (Was N1 : List Int) (M : List Nat) (T : List Drw) (r2 : Nat) : Prop where
  was : slotsR k (numsI r.1) = Was
  wlen : Was.length = k
  aim : aimS (limR n k) l r.1 (vsR (evT n k (numsI r.1) p)) = M
  len : M.length = l.length
  fits : W64 M
  row : rowN M (limR n k) = some (T, r2)
  now : slotsR k (numsI T) = N1
  nlen : N1.length = k
  slen : (setL Was).length = k
  srs : rsB (n : Int) (setL Was) = true
  back : aimS (limR n k) M T (vsR (evT n k (numsI T) (setL Was))) = l
  nset : setL N1 = p
  olen : r.1.length = n - k
  rlen : T.length = n - k
  rank : ∀ i, i < r.1.length → (r.1.getD i dwZ).2.1 = (T.getD i dwZ).2.1 ∧ (r.1.getD i dwZ).2.2 = (T.getD i dwZ).2.2

theorem rs_of' {n : Int} {l : List Int} (h : IsS n l) (hu : Up l) : rsB n l = true := by
  simp only [rsB, Bool.and_eq_true]
  refine ⟨isSB_iff.2 h, srtB_iff.2 fun i hi => ?_⟩
  have h1 := List.pairwise_iff_getElem.1 hu i (i + 1) (by omega) hi (by omega)
  rw [List.getD_eq_getElem?_getD, List.getD_eq_getElem?_getD, List.getElem?_eq_getElem (show i < l.length by omega), List.getElem?_eq_getElem hi]
  simp only [Option.getD_some]
  omega

theorem even_plain (n k : Nat) (l : List Nat) (p : List Int) (r : List Drw × Nat) (hw : W64 l) (hkn : k ≤ n) (hn : n ≤ 256) (hpl : p.length = k) (hrs : rsB (n : Int) p = true) (hrow : rowN l (limR n k) = some r) :
    ∃ Was N1 M T r2, EvenP n k l p r Was N1 M T r2 := by
  obtain ⟨his, hup⟩ := rs_up hrs
  have hd := resRightB_iff.1 (rowN_res hw hkn (by omega) (k0 := 0) hrow)
  obtain ⟨e1, e2, e3⟩ := even_one hkn hd his hup hpl
  obtain ⟨a1, a2, a3, a4, a5, a6⟩ := rowN_aim hw hrow (vsR_fits e1)
  have hdl : r.1.length = n - k := by have := hd.1; rwa [numsI_len] at this
  have hvl : (vsR (evT n k (numsI r.1) p)).length = r.1.length := by rw [vsR_len, e1.1, hdl]
  have hrk := turnS_at (ds := r.1) (vs := vsR (evT n k (numsI r.1) p)) hvl
  have hT : numsI (turnS r.1 (vsR (evT n k (numsI r.1) p))) = evT n k (numsI r.1) p := by
    rw [numsI_zn, a5]
    exact vsR_nums fun i hi => (e1.2 i hi).1
  have hs1 : slotsL k (numsI r.1) = slotsR k (numsI r.1) := slotsL_eq k _ fun i hi => (hd.2 i hi).1
  have hs2 : slotsL k (evT n k (numsI r.1) p) = slotsR k (evT n k (numsI r.1) p) := slotsL_eq k _ fun i hi => (e1.2 i hi).1
  have hsl : ∀ d, (slotsR k d).length = k := fun d => by simp [slotsR]
  have hs := slots_isS hkn hd
  rw [hs1] at hs e3
  obtain ⟨hss, hsn⟩ := isS_set hs
  refine ⟨_, _, _, _, _, rfl, hsl _, rfl, ?_, a3, a1, rfl, hsl _, by rw [hsn, hsl], rs_of' hss (setL_up _).1, ?_, ?_, hdl, ?_, fun i hi => ⟨(hrk i hi).1.symm, (hrk i hi).2.symm⟩⟩
  · exact a4
  · rw [hT, e3]
    have hx : vsR (numsI r.1) = numsN r.1 := by
      rw [numsI_zn]; simp only [vsR, zsN, List.map_map]; exact (List.map_congr_left fun a _ => by simp).trans (List.map_id _)
    rw [hx]; exact a2
  · rw [hT, ← hs2]; exact e2
  · rw [turnS_len hvl, hdl]



theorem tapeTo_belowV {W w1 w' : World} {B b : Nat} {wv tv : Value} {l : List Int} {k S : Nat} (h : TapeTo w1 w' B b wv tv l k S) (hW : W.heap.size ≤ w1.heap.size) (hb : Below W.heap.size W w1) (hB : W.heap.size ≤ b) (ht : ∀ g, tv.ownBlock = some g → W.heap.size ≤ g) : Below W.heap.size W w' :=
  hb.trans (h.chg.below hW fun k hk => by
    rcases hk with rfl | hk
    · exact hB
    · exact ht k hk)
theorem blk_neV {w : World} {a b : Nat} {ca cb : Array Value} {e e' : TypeId} {f f' : Nat × Nat} (h : w.heap[a]? = some (.cells ca e f)) (h' : w.heap[b]? = some (.cells cb e' f')) (hne : e ≠ e') : a ≠ b := by
  rintro rfl
  rw [h] at h'
  injection h' with h'
  injection h' with _ h3
  exact hne h3
theorem row_blk_neV {w : World} {B b : Nat} {e e' : TypeId} {sz n : Nat} {v : Value} {xs : List Value} {cb : Array Value} {f : Nat × Nat} (h : w.ownsRow B e sz v n xs) (h' : w.heap[b]? = some (.cells cb e' f)) (hne : e ≠ e') : v.ownBlock ≠ some b := by
  intro hg
  rcases h.2 with ⟨rfl, _⟩ | ⟨g1, c1, cur1, rfl, _, h1, _⟩
  · cases hg
  · cases hg
    exact blk_neV h1 h' hne rfl

/-- what a step of aiming leaves: the place in the words is further, one word is another one -/
structure AimDv (w w' : World) (B ba go L lo at' : Nat) (out' : List Nat) : Prop where
  atc : w'.heap[ba]? = some (.cells #[.int .i64 (at' : Int)] 3 (0, 0))
  row : w'.ownsRow B 48 1 (.slice (some ⟨go, 0, none⟩) L lo) L (u64s (zsN out'))
  chg : Chg (fun k => k = ba ∨ k = go) w w'

set_option maxRecDepth 100000 in
set_option maxHeartbeats 8000000 in
theorem vaim1_any (w : World) (B bd bk ba bo gd off go N cd L lo k i m at' v q : Nat) (d1 d2 d3 : Nat) (out : List Nat)
    (hA : w.heap[ba]? = some (.cells #[.int .i64 (at' : Int)] 3 (0, 0))) (hD : w.cell? ⟨bd, 0, none⟩ = some (.slice (some ⟨gd, off, none⟩) N cd)) (hK : w.cell? ⟨bk, 0, none⟩ = some (.int .i64 (k : Int))) (hO : w.cell? ⟨bo, 0, none⟩ = some (.slice (some ⟨go, 0, none⟩) L lo))
    (c0 : w.cell? ⟨gd, off + i * 3, none⟩ = some (.int .u64 (d1 : Int))) (c1 : w.cell? ⟨gd, off + i * 3 + 1, none⟩ = some (.int .u64 (d2 : Int))) (c2 : w.cell? ⟨gd, off + i * 3 + 2, none⟩ = some (.int .i64 (d3 : Int)))
    (hin : i < N) (hrow : w.ownsRow B 48 1 (.slice (some ⟨go, 0, none⟩) L lo) L (u64s (zsN out)))
    (hmi : m = k + i) (hq : at' + d3 = q + 1) (hqL : q < L) (hL : L ≤ 50000) (hi : m ≤ 1000) (hv : v < m + 1) (hr : d2 < 2 ^ 64 / (m + 1))
    (had : ba ≠ bd) (hak : ba ≠ bk) (hao : ba ≠ bo) (hdg : bd ≠ go) (hog : bo ≠ go) :
    Calls Tryz.prog 39 #[.int .i64 (m : Int), .int .i64 (v : Int), .pointer (some ⟨bd, 0, none⟩), .pointer (some ⟨bk, 0, none⟩), .pointer (some ⟨ba, 0, none⟩), .pointer (some ⟨bo, 0, none⟩)] w fun e w' =>
      e = .returned (.tuple #[]) ∧ AimDv w w' B ba go L lo (at' + d3) (out.set q (wrdN v d2 (m + 1))) := by
  have la := block_lt hA
  have ld := World.block_lt_of_cell? w _ hD
  have lo' := World.block_lt_of_cell? w _ hO
  have cA := cell_of hA 0 rfl
  have fA := frozen_of hA 0
  obtain ⟨g', hg', hb1, hb2, hb3, hcell, hfz⟩ := row_ptr hrow (by omega)
  cases hg'
  have hlen : (zsN out).length = L := by have := (rd_of_row hrow).len_u64; omega
  have cq := hcell q _ (u64s_at (zsN out) q (by omega))
  rw [zsN_get] at cq
  have fq := hfz q
  generalize out.getD q 0 = old at cq
  have bA : at' ≤ 50000 := by omega
  have b3 : d3 ≤ 50001 := by omega
  have e1 : ((at' : Int) + (d3 : Int) - 1) = (q : Int) := by omega
  have e0 : ((m : Int) - (k : Int)) = (i : Int) := by omega
  have bk : k ≤ 1000 := by omega
  obtain ⟨M, hm⟩ : ∃ M, M = m + 1 := ⟨_, rfl⟩
  have e2 : ((m : Int) + 1) = (M : Int) := by omega
  rw [← hm] at hv hr ⊢
  have hm64 : M < 2 ^ 64 := by rw [p64]; omega
  have W := Lib.hid (fun w' => lword_any w' v d2 M hv hm64 hr)
  have hvb : v ≤ 1001 := by omega
  generalize wrdN v d2 M = x at *
  have HA := Lib.hid hA; have HR := Lib.hid hrow
  clear hA hrow hcell hfz hm64 hr hlen hmi
  go_enter Tryz.func39, Tryz.ntmps39
  have ca : ∀ o, (w.alloc o).cell? ⟨ba, 0, none⟩ = some (.int .i64 (at' : Int)) := fun o => Lib.cell?_alloc_some _ cA
  go_wp2
  obtain ⟨W1, hW1⟩ : ∃ W1, W1 = ((w.setCell ⟨ba, 0, none⟩ (.int .i64 ((at' : Int) + (d3 : Int)))).alloc (.cells #[.int .u64 (d1 : Int), .int .u64 (d2 : Int), .int .i64 (d3 : Int)] 65)) := ⟨_, rfl⟩
  rw [← hW1]
  have hat : ((at' : Int) + (d3 : Int)) = ((at' + d3 : Nat) : Int) := by omega
  have hA1 : W1.heap[ba]? = some (.cells #[.int .i64 ((at' : Int) + (d3 : Int))] 3 (0, 0)) := by
    rw [hW1, Below.heap_alloc _ _ _ (by simpa [World.setCell] using la), set_of HA.out 0 _]
    simp
  have hchg : Chg (fun k => k = ba) w W1 := by
    rw [hW1]
    exact ((Chg.refl (fun k => k = ba) w).setCell (p := ⟨ba, 0, none⟩) (.inl rfl) _).alloc _
  have hag' : ba ≠ go := by
    intro h
    have h1 := HA.out
    rcases HR.out.2 with ⟨h0, _⟩ | ⟨g2, c2, cur2, h3, _, h2, _⟩
    · cases h0
    · cases h3
      rw [h] at h1
      rw [h1] at h2
      injection h2 with h2
      injection h2 with _ h4
      exact absurd h4 (by decide)
  have hkc : ∀ b o, b < w.heap.size → b ≠ ba → W1.cell? ⟨b, o, none⟩ = w.cell? ⟨b, o, none⟩ := fun b o hb hne => World.cell?_of_block (hchg.block b hb hne)
  have k1 := cell_of hA1 0 rfl
  have k3 := (hkc bo 0 lo' (Ne.symm hao)).trans hO
  have hnew : W1.heap[w.heap.size]? = some (.cells #[.int .u64 (d1 : Int), .int .u64 (d2 : Int), .int .i64 (d3 : Int)] 65 (0, 0)) := by
    have := heap_alloc_new (w.setCell ⟨ba, 0, none⟩ (.int .i64 ((at' : Int) + (d3 : Int)))) (.cells #[.int .u64 (d1 : Int), .int .u64 (d2 : Int), .int .i64 (d3 : Int)] 65)
    rw [hW1]
    simpa [World.setCell] using this
  have k5 := cell_of hnew 1 rfl
  have k6 := (hkc go q hb2 (Ne.symm hag')).trans cq
  have hrow1 : W1.ownsRow B 48 1 (.slice (some ⟨go, 0, none⟩) L lo) L (u64s (zsN out)) := row_chg HR.out hchg fun g hg hx => by cases hg; exact hag' hx.symm
  have k7 : W1.frozen? ⟨go, q, none⟩ = false := by
    obtain ⟨g', hg', _, _, _, _, hfz⟩ := row_ptr hrow1 (by omega)
    cases hg'
    exact hfz q
  have sA := block_lt hA1
  have sD := block_lt hnew
  have sG : go < W1.heap.size := Nat.lt_of_lt_of_le hb2 hchg.size
  have sO : bo < W1.heap.size := Nat.lt_of_lt_of_le lo' hchg.size
  have HA1 := Lib.hid hA1; have HC1 := Lib.hid hchg; have HR1 := Lib.hid hrow1; have HAT := Lib.hid hat
  clear hW1 hA1 hchg hkc hnew hrow1 cA fA cq fq hO hD hK c0 c1 c2 ca hat e0
  have sDG : w.heap.size ≠ go := by omega
  have u1 : IntKind.i64.wrap (M : Int) = (M : Int) := by rw [IntKind.wrap_i64]; omega
  have u2 : IntKind.i64.wrap (q : Int) = (q : Int) := by rw [IntKind.wrap_i64]; omega
  have u3 : IntKind.u64.wrap (M : Int) = (M : Int) := by rw [IntKind.wrap_u64]; omega
  have u4 : IntKind.u64.wrap (v : Int) = (v : Int) := by rw [IntKind.wrap_u64]; omega
  have z1 : (0 : Int) ≤ (m : Int) := by omega
  have z3 : (0 : Int) ≤ (q : Int) := by omega
  have z4 : (q : Int) < (L : Int) := by omega
  have HQ := Lib.hid hq; have HM := Lib.hid hm
  clear hq hm
  go_region_held3 (fun w' => w'.cell? ⟨ba, 0, none⟩ = some (.int .i64 ((at' : Int) + (d3 : Int))) ∧ w'.cell? ⟨bo, 0, none⟩ = some (.slice (some ⟨go, 0, none⟩) L lo) ∧ w'.cell? ⟨w.heap.size, 1, none⟩ = some (.int .u64 (d2 : Int)))
    (first | go_keep | (go_split_ands; refine ⟨?_, ?_, ?_⟩ <;> first | exact (hb.cell (by assumption)).trans (by assumption) | (rw [World.cell?_setCell_other _ _ _ _ (by first | (simp; done) | (simp; omega))]; assumption)))
    ((go_at_call 40; refine (W.out _).mono ?_; rintro e w2 ⟨rfl, hb⟩; have g1 : w2.cell? ⟨go, q, none⟩ = some (.int .u64 (old : Int)) := (hb.cell (p := ⟨go, q, none⟩) sG).trans k6; have g2 : w2.frozen? ⟨go, q, none⟩ = false := (hb.frozen (p := ⟨go, q, none⟩) sG).trans k7; have HB := Lib.hid hb))
  all_goals
    go_end0
    refine ⟨rfl, ⟨?_, ?_, ((HC1.out.mono (fun k h => .inl h)).drew.trans (Chg.of_below HB.out)).setCell (p := ⟨go, q, none⟩) (.inl (.inr rfl)) _⟩⟩
    · rw [Below.heap_setCell _ _ _ _ (by show ba ≠ go; exact hag'), ← HAT.out]
      exact (HB.out.block ba sA).trans HA1.out
    · have h1 : w2.ownsRow B 48 1 (.slice (some ⟨go, 0, none⟩) L lo) L (u64s (zsN out)) := row_chg (w := W1.drew) HR1.out.drew (Chg.of_below (S := fun _ => False) HB.out) (fun _ _ h => h)
      have h2 := row_set h1 hqL (.int .u64 (x : Int))
      rw [← u64s_set] at h2
      rw [show zsN (out.set q x) = (zsN out).set q (x : Int) by simp [zsN, List.map_set]]
      exact h2

theorem ent_vaim1 (args : Array Value) (w : World) : (callFunc 39 args).run Tryz.prog w = .ok (.enter 39 args) w :=
  enters Tryz.func39 (by kernel_rfl) (by kernel_rfl) args w

/-- what lies in the blocks of the call's own while words are aimed -/
structure EvS (w0 : World) (ba bd bk bo n k N L : Nat) (vo vd : Value) (l : List Nat) (ds : List Drw) (vs : List Nat) (i : Nat) (wr : World) (out : List Nat) : Prop where
  len : out.length = L
  atc : wr.heap[ba]? = some (.cells #[.int .i64 (usedK ds i : Int)] 3 (0, 0))
  dcl : wr.heap[bd]? = some (.cells #[vd] 41 (0, 0))
  kcl : wr.heap[bk]? = some (.cells #[.int .i64 (k : Int)] 3 (0, 0))
  ocl : wr.heap[bo]? = some (.cells #[vo] 22 (0, 0))
  orow : wr.ownsRow w0.heap.size 48 1 vo L (u64s (zsN out))
  drow : wr.ownsRow 0 65 3 vd N (dwC ds)
  bel : Below w0.heap.size w0 wr
  eqn : aimS (limR n k) l ds vs = aimL out ((limR n k).drop i) (ds.drop i) (vs.drop i) (usedK ds i)

theorem EvS.next {w0 wr w' : World} {ba bd bk bo n k N L go lo : Nat} {vd : Value} {l : List Nat} {ds : List Drw} {vs : List Nat} {i at2 : Nat} {out out2 : List Nat} (h : EvS w0 ba bd bk bo n k N L (.slice (some ⟨go, 0, none⟩) L lo) vd l ds vs i wr out)
    (hd : AimDv wr w' w0.heap.size ba go L lo at2 out2) (hak : ba ≠ bk) (hba : w0.heap.size ≤ ba) (hu : usedK ds (i + 1) = at2) (hl : out2.length = L)
    (he : aimS (limR n k) l ds vs = aimL out2 ((limR n k).drop (i + 1)) (ds.drop (i + 1)) (vs.drop (i + 1)) (usedK ds (i + 1))) : EvS w0 ba bd bk bo n k N L (.slice (some ⟨go, 0, none⟩) L lo) vd l ds vs (i + 1) w' out2 := by
  have hc := hd.chg
  have hgo : (Value.slice (some ⟨go, 0, none⟩) L lo).ownBlock = some go := rfl
  refine ⟨hl, by rw [hu]; exact hd.atc, (hc.block _ (block_lt h.dcl) (fun hx => ?_)).trans h.dcl, (hc.block _ (block_lt h.kcl) (fun hx => ?_)).trans h.kcl, (hc.block _ (block_lt h.ocl) (fun hx => ?_)).trans h.ocl, hd.row, row_chg h.drow hc (fun g hg hx => ?_), ?_, he⟩
  · rcases hx with hx | hx
    · exact blk_neV h.dcl h.atc (by decide) hx
    · exact row_blk_neV h.orow h.dcl (by decide) (by rw [hgo, hx])
  · rcases hx with hx | hx
    · exact hak hx.symm
    · exact row_blk_neV h.orow h.kcl (by decide) (by rw [hgo, hx])
  · rcases hx with hx | hx
    · exact blk_neV h.ocl h.atc (by decide) hx
    · exact row_blk_neV h.orow h.ocl (by decide) (by rw [hgo, hx])
  · rcases hx with hx | hx
    · exact row_blk_neV h.drow h.atc (by decide) (by rw [hg, hx])
    · exact row_ne_row h.drow h.orow (by decide) hg (by rw [hgo, hx])
  · exact h.bel.trans (hc.below h.bel.size fun x hx => by
      rcases hx with rfl | rfl
      · exact hba
      · exact (h.orow.lt _ rfl).1)

theorem rvtake_some (W : World) (B b : Nat) (wv : Value) (l : List Nat) (n k : Nat) (r : List Drw × Nat) (ht : TapeAt W B b wv (.slice none 0 0) (zsN l) 0) (hl : l.length < 50000) (hw : W64 l) (hk : k ≤ n) (hn : n ≤ 256) (hrow : rowN l (limR n k) = some r) (N : Nat) (hN : N = n - k) :
    Calls Tryz.prog 35 #[.pointer (some ⟨b, 0, none⟩), .int .i64 (n : Int), .int .i64 (k : Int)] W fun e w' =>
      ∃ sp cp sd cd, e = .returned (.tuple #[.slice sp k cp, .slice sd N cd, .int .i64 0]) ∧ w'.ownsRow W.heap.size 3 1 (.slice sp k cp) k (i64s (slotsL k (numsI r.1))) ∧ w'.ownsRow W.heap.size 65 3 (.slice sd N cd) N (dwC r.1) ∧ Chg (fun g => g = b) W w' := by
  subst hN
  refine (rvtake_any W B b wv _ l 0 n k ht hl hw hk hn).mono ?_
  intro e w' he
  rw [show rowA l (limR n k) [] 0 = some r from hrow] at he
  obtain ⟨⟨sp, cp, sd, cd, h1, h2, h3⟩, h4⟩ := he
  exact ⟨sp, cp, sd, cd, h1, h2, h3, h4.chg.mono fun g hg => by rcases hg with rfl | hg; rfl; cases hg⟩
theorem rvtake_none (W : World) (B b : Nat) (wv : Value) (l : List Nat) (n k : Nat) (ht : TapeAt W B b wv (.slice none 0 0) (zsN l) 0) (hl : l.length < 50000) (hw : W64 l) (hk : k ≤ n) (hn : n ≤ 256) (hrow : rowN l (limR n k) = none) :
    Calls Tryz.prog 35 #[.pointer (some ⟨b, 0, none⟩), .int .i64 (n : Int), .int .i64 (k : Int)] W fun e w' =>
      e = .returned (.tuple #[.slice none 0 0, .slice none 0 0, .int .i64 7]) ∧ Chg (fun g => g = b) W w' := by
  refine (rvtake_any W B b wv _ l 0 n k ht hl hw hk hn).mono ?_
  intro e w' he
  rw [show rowA l (limR n k) [] 0 = none from hrow] at he
  exact ⟨he.1, he.2.chg.mono fun g hg => by rcases hg with rfl | hg; rfl; cases hg⟩

set_option maxRecDepth 100000 in
set_option maxHeartbeats 2000000 in
theorem vaimset_chk (w : World) (vl v : Value) (n : Int) (m : Nat) (p : List Int) (h : Rd w 1 v m (i64s p)) (hb : resChk n (p.length : Int) ≠ 0) :
    Calls Tryz.prog 12 #[vl, .int .i64 n, v] w fun e w' => e = .returned (.tuple #[.slice none 0 0, .int .i64 (resChk n (p.length : Int))]) ∧ Below w.heap.size w w' := by
  obtain rfl := h.len_i64
  obtain ⟨sa, cap, rfl⟩ := h.form
  have q1 : (resChk n (p.length : Int) != 0) = true := by simpa using hb
  have C := Lib.hid (fun w' => reschk_any n (p.length : Int) w')
  generalize resChk n (p.length : Int) = E at *
  clear h hb
  go_enter Tryz.func12, Tryz.ntmps12
  go_wp2_with fail
  refine (C.out _).mono ?_
  rintro e w' ⟨rfl, rfl⟩
  go_wp2_with fail
  go_ret2
  exact ⟨rfl, (Below.refl _ _).alloc (Nat.le_refl _) _⟩

set_option maxRecDepth 100000 in
set_option maxHeartbeats 2000000 in
theorem vaimset_dom (w : World) (vl v : Value) (n m : Nat) (p : List Int) (h : Rd w 1 v m (i64s p)) (hk : m ≤ n) (hn : n ≤ 256) (hb : rsB (n : Int) p = false) :
    Calls Tryz.prog 12 #[vl, .int .i64 (n : Int), v] w fun e w' => e = .returned (.tuple #[.slice none 0 0, .int .i64 2]) ∧ Below w.heap.size w w' := by
  obtain rfl := h.len_i64
  obtain ⟨sa, cap, rfl⟩ := h.form
  have hck := resChk_zero.2 (show (0 : Int) ≤ (n : Int) ∧ (0 : Int) ≤ (p.length : Int) ∧ (p.length : Int) ≤ (n : Int) ∧ (n : Int) ≤ 256 by omega)
  have HNB := Lib.hid hb
  have HCK := Lib.hid hck; have H := Lib.hid h
  clear hck hb h
  go_enter Tryz.func12, Tryz.ntmps12
  go_wp2_with fail
  refine (reschk_any _ _ _).mono ?_
  rintro e w' ⟨rfl, rfl⟩
  rw [HCK.out]
  go_wp2_with fail
  refine (submove_dom _ n _ _ p.length p.length p p (H.out.below ((Below.refl _ _).alloc (Nat.le_refl _) _)) (H.out.below ((Below.refl _ _).alloc (Nat.le_refl _) _)) (by omega) (by omega) (by omega) (fun h => by rw [HNB.out] at h; cases h.1)).mono ?_
  rintro e w2 ⟨rfl, hb2⟩
  have HB2 := Lib.hid (((Below.refl w.heap.size w).alloc (Nat.le_refl _) _).trans (hb2.mono (by simp))); clear hb2
  go_wp2_with fail
  go_ret2
  exact ⟨rfl, HB2.out⟩

/-- what the draws leave, whenever the box of the draws was laid -/
structure VFin (w w2 W5 : World) (bd k N : Nat) (vs vd : Value) (slots : List Int) (ds : List Drw) : Prop where
  bel : Below w.heap.size w W5
  kcl : W5.heap[w.heap.size]? = some (.cells #[.int .i64 (k : Int)] 3 (0, 0))
  dcl : W5.heap[bd]? = some (.cells #[vd] 41 (0, 0))
  srow : W5.ownsRow w2.heap.size 3 1 vs k (i64s slots)
  drow : W5.ownsRow w2.heap.size 65 3 vd N (dwC ds)
theorem vfin_set {w w2 w4 : World} {bx k N : Nat} {vs vd old : Value} {slots : List Int} {ds : List Drw} (hbel : Below w.heap.size w w4) (hk : w4.heap[w.heap.size]? = some (.cells #[.int .i64 (k : Int)] 3 (0, 0)))
    (hs : w4.ownsRow w2.heap.size 3 1 vs k (i64s slots)) (hd : w4.ownsRow w2.heap.size 65 3 vd N (dwC ds)) (hx : w4.heap[bx]? = some (.cells #[old] 41 (0, 0))) (hlt : w.heap.size < bx) :
    VFin w w2 (w4.setCell ⟨bx, 0, none⟩ vd) bx k N vs vd slots ds := by
  have hc : Chg (fun g => g = bx) w4 (w4.setCell ⟨bx, 0, none⟩ vd) := (Chg.refl (fun g => g = bx) w4).setCell (p := ⟨bx, 0, none⟩) (.inl rfl) _
  refine ⟨hbel.setCell (p := ⟨bx, 0, none⟩) (by show w.heap.size ≤ bx; omega) _, ?_, ?_, row_chg hs hc (fun g hg e => row_blk_neV hs hx (by decide) (by rw [hg, e])), row_chg hd hc (fun g hg e => row_blk_neV hd hx (by decide) (by rw [hg, e]))⟩
  · rw [Below.heap_setCell _ _ _ _ (by show w.heap.size ≠ bx; omega)]; exact hk
  · rw [set_of hx 0 _]; simp
theorem vfin_alloc {w w2 w4 : World} {k N : Nat} {vs vd : Value} {slots : List Int} {ds : List Drw} (hbel : Below w.heap.size w w4) (hk : w4.heap[w.heap.size]? = some (.cells #[.int .i64 (k : Int)] 3 (0, 0)))
    (hs : w4.ownsRow w2.heap.size 3 1 vs k (i64s slots)) (hd : w4.ownsRow w2.heap.size 65 3 vd N (dwC ds)) :
    VFin w w2 (w4.alloc (.cells #[vd] 41)) w4.heap.size k N vs vd slots ds :=
  ⟨hbel.alloc hbel.size _, (heap_alloc_old _ _ (block_lt hk)).trans hk, heap_alloc_new _ _, hs.alloc _, hd.alloc _⟩

set_option maxRecDepth 100000 in
set_option maxHeartbeats 4000000 in
theorem vaimset_none (w : World) (vl vp : Value) (m n k : Nat) (l : List Nat) (p : List Int) (hl : Rd w 1 vl m (u64s (zsN l))) (hp : Rd w 1 vp k (i64s p)) (hm : m ≤ 40000) (hw : W64 l) (hk : k ≤ n) (hn : n ≤ 256) (hrs : rsB (n : Int) p = true) (hrow : rowN l (limR n k) = none) :
    Calls Tryz.prog 12 #[vl, .int .i64 (n : Int), vp] w fun e w' => e = .returned (.tuple #[.slice none 0 0, .int .i64 7]) ∧ Below w.heap.size w w' := by
  obtain rfl := hl.len_u64
  obtain rfl := hp.len_i64
  rw [zsN_len] at *
  obtain ⟨sl, cl, rfl⟩ := hl.form
  obtain ⟨sp, cp, rfl⟩ := hp.form
  have hck := resChk_zero.2 (show (0 : Int) ≤ (n : Int) ∧ (0 : Int) ≤ (p.length : Int) ∧ (p.length : Int) ≤ (n : Int) ∧ (n : Int) ≤ 256 by omega)
  have HCK := Lib.hid hck; have HL := Lib.hid hl; have HP := Lib.hid hp; have HW := Lib.hid hw; have HRS := Lib.hid hrs; have HROW := Lib.hid hrow
  clear hck hl hp hw hrs hrow
  go_enter Tryz.func12, Tryz.ntmps12
  go_wp2_with fail
  refine (reschk_any _ _ _).mono ?_
  rintro e w' ⟨rfl, rfl⟩
  rw [HCK.out]
  go_wp2_with fail
  refine (submove_ok _ n _ _ p.length p.length p p (HP.out.below ((Below.refl _ _).alloc (Nat.le_refl _) _)) (HP.out.below ((Below.refl _ _).alloc (Nat.le_refl _) _)) hn HRS.out HRS.out rfl).mono ?_
  rintro e w2 ⟨s2, c2, rfl, -, hb2⟩
  have hk2 : w2.heap[w.heap.size]? = some (.cells #[.int .i64 (p.length : Int)] 3 (0, 0)) := (hb2.block _ (by simp)).trans (heap_alloc_new _ _)
  have HB2 := Lib.hid (((Below.refl w.heap.size w).alloc (Nat.le_refl _) _).trans (hb2.mono (by simp)))
  have sk : w.heap.size < w2.heap.size := block_lt hk2
  have ck := cell_of hk2 0 rfl
  have HK2 := Lib.hid hk2
  have N := Lib.hid (fun w' (hx : Below w2.heap.size w2 w') => new_any w' (.slice sl l.length cl) (zsN l) (by rw [zsN_len]; exact HL.out.below (HB2.out.trans (hx.mono (Nat.le_of_lt sk)))) (by rw [zsN_len]; omega))
  have TK := Lib.hid (fun w' b wv B ht => rvtake_none w' B b wv l n p.length ht (by omega) HW.out hk hn HROW.out)
  clear hb2 hk2
  go_wp2_with fail
  go_region_held3 (fun w' => w'.cell? ⟨w.heap.size, 0, none⟩ = some (.int .i64 (p.length : Int)))
    (first | go_keep | assumption | exact (hb.cell (by assumption)).trans (by assumption) | (rw [World.cell?_setCell_other _ _ _ _ (by first | (simp; done) | (simp; omega))]; assumption))
    (first
      | (go_at_call 7; refine (N.out _ (by first | exact (Below.refl _ _).drew | exact (Below.refl _ _).drew.alloc (Nat.le_refl _) _)).mono ?_; rintro e w3 ⟨b, wv, rfl, ht, hb⟩; have hq1 : w2.heap.size ≤ b := Nat.le_trans (by simp) ht.2.1; have hq2 : b < w3.heap.size := block_lt ht.2.2.1; have hs3 : w3.cell? ⟨w.heap.size, 0, none⟩ = some (.int .i64 (p.length : Int)) := (hb.cell (p := ⟨w.heap.size, 0, none⟩) (by simp; omega)).trans (by first | assumption | exact Lib.cell?_alloc_some _ ck);
          have hq3 : Below w2.heap.size w2 w3 := (by first | exact (Below.refl _ _).drew.trans (hb.mono (by simp)) | exact ((Below.refl _ _).alloc (Nat.le_refl _) _).drew.trans (hb.mono (by simp))); have HQ3 := Lib.hid hq3; have HT3 := Lib.hid ht; have HB3 := Lib.hid hb; clear ht hq3)
      | (go_at_call 35; refine (TK.out _ b wv _ (by first | exact HT3.out | exact HT3.out.below ((Below.refl _ _).alloc (Nat.le_refl _) _))).mono ?_; rintro e w4 ⟨rfl, ht4⟩; have hs4 : w4.cell? ⟨w.heap.size, 0, none⟩ = some (.int .i64 (p.length : Int)) := (World.cell?_of_block (ht4.block _ (by simp; omega) (by show w.heap.size ≠ b; omega))).trans (by assumption);
          have hq4 : Chg (fun g => g = b) w3 w4 := (by first | exact ht4 | exact ((Chg.refl _ _).alloc _).trans ht4); have HQ4 := Lib.hid hq4; clear hq4;
          (first
            | (have hbx : w4.heap[w3.heap.size]? = some (.cells #[.slice none 0 0] 41 (0, 0)) := (ht4.block _ (by simp) (by show w3.heap.size ≠ b; omega)).trans (heap_alloc_new _ _); have hbc := cell_of hbx 0 rfl; have hbf := frozen_of hbx 0; have HBX := Lib.hid hbx; clear hbx)
            | (have hbx : w4.heap[w2.heap.size]? = some (.cells #[.slice none 0 0] 41 (0, 0)) := (ht4.block _ (by omega) (by have h := HT3.out.2.1; simp at h; show w2.heap.size ≠ b; omega)).trans ((HB3.out.block _ (by simp)).trans (heap_alloc_new _ _)); have hbc := cell_of hbx 0 rfl; have hbf := frozen_of hbx 0; have HBX := Lib.hid hbx; clear hbx)
            | skip); have HT4 := Lib.hid ht4; clear ht4))
  all_goals
    have hbel4 : Below w.heap.size w w4 := (HB2.out.trans (HQ3.out.mono (Nat.le_of_lt sk))).trans (HQ4.out.below (B := w.heap.size) (by omega) (fun g hg => by subst hg; omega))
    have HBEL4 := Lib.hid hbel4; clear hbel4
    go_wp2_with fail
    go_ret2
    refine ⟨rfl, ?_⟩
    first
      | exact HBEL4.out.alloc HBEL4.out.size _
      | exact HBEL4.out.setCell (by simp; omega) _

set_option maxRecDepth 100000 in
set_option maxHeartbeats 8000000 in
theorem vaimset_some (w : World) (vl vp : Value) (m n k : Nat) (l : List Nat) (p T : List Int) (r : List Drw × Nat) (hl : Rd w 1 vl m (u64s (zsN l))) (hp : Rd w 1 vp k (i64s p)) (hm : m ≤ 40000) (hw : W64 l) (hk : k ≤ n) (hn : n ≤ 256) (hrs : rsB (n : Int) p = true) (hrow : rowN l (limR n k) = some r) (hT : evT n k (numsI r.1) p = T) :
    Calls Tryz.prog 12 #[vl, .int .i64 (n : Int), vp] w fun e w' => ∃ so co, e = .returned (.tuple #[.slice so m co, .int .i64 0]) ∧ w'.ownsRow w.heap.size 48 1 (.slice so m co) m (u64s (zsN (aimS (limR n k) l r.1 (vsR T)))) ∧ Below w.heap.size w w' := by
  obtain rfl := hl.len_u64
  obtain rfl := hp.len_i64
  rw [zsN_len] at *
  obtain ⟨sl, cl, rfl⟩ := hl.form
  obtain ⟨sp, cp, rfl⟩ := hp.form
  have hck := resChk_zero.2 (show (0 : Int) ≤ (n : Int) ∧ (0 : Int) ≤ (p.length : Int) ∧ (p.length : Int) ≤ (n : Int) ∧ (n : Int) ≤ 256 by omega)
  obtain ⟨his, hup⟩ := rs_up hrs
  have hdb := rowN_res hw hk (by omega) (k0 := 0) hrow
  have hd := resRightB_iff.1 hdb
  have hfac := rowN_facts hw hrow
  rw [limR_len] at hfac
  have hs := slots_isS hk hd
  obtain ⟨hss, hsl⟩ := isS_set hs
  rw [slotsL_len] at hsl
  have hmp : IsP (evM n p.length (numsI r.1) p) := moveL_isP hss his
  have hml : (evM n p.length (numsI r.1) p).length = n := moveL_len _ _ _
  have htr := (even_one hk hd his hup rfl).1
  rw [hT] at htr
  have hsr := rs_of' hss (setL_up _).1
  obtain ⟨Ms, hMs⟩ : ∃ Ms, Ms = slotsL p.length (numsI r.1) := ⟨_, rfl⟩
  obtain ⟨Mv, hMv⟩ : ∃ Mv, Mv = moveL n (setL Ms) p := ⟨_, rfl⟩
  have hmv : Mv = evM n p.length (numsI r.1) p := by rw [hMv, hMs]; rfl
  rw [← hmv] at hmp hml
  have htl : turnL n p.length (numsI r.1) Mv = T := by rw [hmv]; exact hT
  rw [← hMs] at hsl hsr
  obtain ⟨N1, hN1⟩ : ∃ N1, N1 = n - p.length := ⟨_, rfl⟩
  have hrl : r.1.length = N1 := by rw [hN1]; exact hfac.1
  have htn : T.length = N1 := by rw [hN1]; exact htr.1
  have HCK := Lib.hid hck; have HL := Lib.hid hl; have HP := Lib.hid hp; have HW := Lib.hid hw; have HRS := Lib.hid hrs; have HROW := Lib.hid hrow
  have HDB := Lib.hid hdb; have HFAC := Lib.hid hfac.2; have HSL := Lib.hid hsl; have HMP := Lib.hid hmp; have HML := Lib.hid hml; have HTR := Lib.hid htr.2; have HSR := Lib.hid hsr; have HMS := Lib.hid hMs; have HMV := Lib.hid hMv; have HTL := Lib.hid htl; have HN1 := Lib.hid hN1; have HRL := Lib.hid hrl; have HTN := Lib.hid htn
  have bN1 : N1 ≤ 256 := by omega
  clear hck hl hp hw hrs hrow his hup hdb hd hfac hs hss hsl hmp hml htr hsr hMs hMv hmv htl hN1 hrl htn hT
  go_enter Tryz.func12, Tryz.ntmps12
  go_wp2_with fail
  refine (reschk_any _ _ _).mono ?_
  rintro e w' ⟨rfl, rfl⟩
  rw [HCK.out]
  go_wp2_with fail
  refine (submove_ok _ n _ _ p.length p.length p p (HP.out.below ((Below.refl _ _).alloc (Nat.le_refl _) _)) (HP.out.below ((Below.refl _ _).alloc (Nat.le_refl _) _)) hn HRS.out HRS.out rfl).mono ?_
  rintro e w2 ⟨s2, c2, rfl, -, hb2⟩
  have hk2 : w2.heap[w.heap.size]? = some (.cells #[.int .i64 (p.length : Int)] 3 (0, 0)) := (hb2.block _ (by simp)).trans (heap_alloc_new _ _)
  have HB2 := Lib.hid (((Below.refl w.heap.size w).alloc (Nat.le_refl _) _).trans (hb2.mono (by simp)))
  have sk : w.heap.size < w2.heap.size := block_lt hk2
  have ck := cell_of hk2 0 rfl
  have HK2 := Lib.hid hk2
  have N := Lib.hid (fun w' (hx : Below w2.heap.size w2 w') => new_any w' (.slice sl l.length cl) (zsN l) (by rw [zsN_len]; exact HL.out.below (HB2.out.trans (hx.mono (Nat.le_of_lt sk)))) (by rw [zsN_len]; omega))
  have TK := Lib.hid (fun w' b wv B ht => rvtake_some w' B b wv l n p.length r ht (by omega) HW.out hk hn HROW.out N1 HN1.out)
  clear hb2 hk2
  go_wp2_with fail
  go_region_held3 (fun w' => w'.cell? ⟨w.heap.size, 0, none⟩ = some (.int .i64 (p.length : Int)))
    (first | go_keep | assumption | exact (hb.cell (by assumption)).trans (by assumption) | (rw [World.cell?_setCell_other _ _ _ _ (by first | (simp; done) | (simp; omega))]; assumption))
    (first
      | (go_at_call 7; refine (N.out _ (by first | exact (Below.refl _ _).drew | exact (Below.refl _ _).drew.alloc (Nat.le_refl _) _)).mono ?_; rintro e w3 ⟨b, wv, rfl, ht, hb⟩; have hq1 : w2.heap.size ≤ b := Nat.le_trans (by simp) ht.2.1; have hq2 : b < w3.heap.size := block_lt ht.2.2.1; have hs3 : w3.cell? ⟨w.heap.size, 0, none⟩ = some (.int .i64 (p.length : Int)) := (hb.cell (p := ⟨w.heap.size, 0, none⟩) (by simp; omega)).trans (by first | assumption | exact Lib.cell?_alloc_some _ ck);
          have hq3 : Below w2.heap.size w2 w3 := (by first | exact (Below.refl _ _).drew.trans (hb.mono (by simp)) | exact ((Below.refl _ _).alloc (Nat.le_refl _) _).drew.trans (hb.mono (by simp))); have HQ3 := Lib.hid hq3; have HT3 := Lib.hid ht; have HB3 := Lib.hid hb; clear ht hq3)
      | (go_at_call 35; refine (TK.out _ b wv _ (by first | exact HT3.out | exact HT3.out.below ((Below.refl _ _).alloc (Nat.le_refl _) _))).mono ?_; rintro e w4 ⟨sp4, cp4, sd, cd, rfl, hr4, hd4, ht4⟩; have hs4 : w4.cell? ⟨w.heap.size, 0, none⟩ = some (.int .i64 (p.length : Int)) := (World.cell?_of_block (ht4.block _ (by simp; omega) (by show w.heap.size ≠ b; omega))).trans (by assumption);
          have hq4 : Chg (fun g => g = b) w3 w4 := (by first | exact ht4 | exact ((Chg.refl _ _).alloc _).trans ht4); have HQ4 := Lib.hid hq4; clear hq4;
          have hr4' : w4.ownsRow w2.heap.size 3 1 (.slice sp4 p.length cp4) p.length (i64s Ms) := (by rw [HMS.out]; exact row_mono hr4 (by have := HQ3.out.size; simp; omega)); have hd4' : w4.ownsRow w2.heap.size 65 3 (.slice sd N1 cd) N1 (dwC r.1) := row_mono hd4 (by have := HQ3.out.size; simp; omega); have HR4 := Lib.hid hr4'; have HD4 := Lib.hid hd4'; clear hr4 hd4 hr4' hd4';
          (first
            | (have hbx : w4.heap[w3.heap.size]? = some (.cells #[.slice none 0 0] 41 (0, 0)) := (ht4.block _ (by simp) (by show w3.heap.size ≠ b; omega)).trans (heap_alloc_new _ _); have hbc := cell_of hbx 0 rfl; have hbf := frozen_of hbx 0; have HBX := Lib.hid hbx; clear hbx)
            | (have hbx : w4.heap[w2.heap.size]? = some (.cells #[.slice none 0 0] 41 (0, 0)) := (ht4.block _ (by omega) (by have h := HT3.out.2.1; simp at h; show w2.heap.size ≠ b; omega)).trans ((HB3.out.block _ (by simp)).trans (heap_alloc_new _ _)); have hbc := cell_of hbx 0 rfl; have hbf := frozen_of hbx 0; have HBX := Lib.hid hbx; clear hbx)
            | skip); have HT4 := Lib.hid ht4; clear ht4))
  all_goals
    have hbel4 : Below w.heap.size w w4 := (HB2.out.trans (HQ3.out.mono (Nat.le_of_lt sk))).trans (HQ4.out.below (B := w.heap.size) (by omega) (fun g hg => by subst hg; omega))
    have HBEL4 := Lib.hid hbel4; clear hbel4
    have hk4 : w4.heap[w.heap.size]? = some (.cells #[.int .i64 (p.length : Int)] 3 (0, 0)) := (HQ4.out.block _ (by have := HQ3.out.size; omega) (by omega)).trans ((HQ3.out.block _ sk).trans HK2.out)
    obtain ⟨W5, bd, hW5, hbd, hfin⟩ : ∃ W5 bd, W5 = _ ∧ bd = _ ∧ VFin w w2 W5 bd p.length N1 (.slice sp4 p.length cp4) (.slice sd N1 cd) Ms r.1 := by
      first
        | exact ⟨w4.setCell ⟨w3.heap.size, 0, none⟩ (.slice sd N1 cd), w3.heap.size, rfl, rfl, vfin_set HBEL4.out hk4 HR4.out HD4.out HBX.out (by have := HQ3.out.size; omega)⟩
        | exact ⟨w4.setCell ⟨w2.heap.size, 0, none⟩ (.slice sd N1 cd), w2.heap.size, rfl, rfl, vfin_set HBEL4.out hk4 HR4.out HD4.out HBX.out sk⟩
        | exact ⟨w4.alloc (.cells #[.slice sd N1 cd] 41), w4.heap.size, rfl, rfl, vfin_alloc HBEL4.out hk4 HR4.out HD4.out⟩
    rw [← hW5, ← hbd]
    have HFIN := Lib.hid hfin
    have c13 := cell_of hfin.dcl 0 rfl
    have sbd := block_lt hfin.dcl
    have sbk := block_lt hfin.kcl
    clear hfin hW5 hbd hk4
    go_wp2_with fail
    go_loopw [15, 54] (fun v i wr => ∃ (j : Nat) (sa : Option Addr) (cap : Nat), j ≤ N1 ∧ i = .int .i64 j ∧ v = .slice sa j cap ∧ Hid (wr.ownsRow W5.heap.size 3 1 (.slice sa j cap) j (i64s (numsI (r.1.take j)))) ∧ Hid (Below W5.heap.size W5 wr)) (fun _ i _ => N1 - (intOf i).toNat)
    case atStart => exact ⟨0, none, 0, Nat.zero_le _, rfl, rfl, World.ownsRow_nil _ _ _ _, Below.refl _ _⟩
    case round =>
      obtain ⟨j, sc, cc, hj, rfl, rfl, HO, HB⟩ := hrel
      by_cases hlt : j < N1
      · have hrd := (rd_of_row HFIN.out.drow).below HB.out
        obtain ⟨bb, off, rfl, hc⟩ := hrd.at (by omega)
        obtain ⟨c0, c1, c2⟩ := dwC_at r.1 j (by rw [HRL.out]; exact hlt)
        have x0 := hc _ _ c0
        have x1 := hc _ _ c1
        have x2 := hc _ _ c2
        rw [← Nat.add_assoc] at x1 x2
        have hsn : numsI (r.1.take (j + 1)) = numsI (r.1.take j) ++ [((r.1.getD j dwZ).1 : Int)] := by
          rw [List.take_succ_eq_append_getElem (by rw [HRL.out]; exact hlt), numsI_snoc]
          simp [List.getD, List.getElem?_eq_getElem (show j < r.1.length by rw [HRL.out]; exact hlt)]
        have hlt1 : (r.1.getD j dwZ).1 ≤ 256 := by
          have h1 := (resRightB_iff.1 HDB.out).2 j (by rw [numsI_len, HRL.out]; exact hlt)
          have := HN1.out
          have e : (numsI r.1).getD j 0 = ((r.1.getD j dwZ).1 : Int) := by
            simp [numsI, List.getD, List.getElem?_eq_getElem (show j < r.1.length by rw [HRL.out]; exact hlt)]
          rw [e] at h1
          omega
        generalize r.1.getD j dwZ = d at *
        obtain ⟨d1, d2, d3⟩ := d
        simp only at x0 x1 x2 hlt1 hsn
        have HSN := Lib.hid hsn
        clear hrd hc c0 c1 c2 hsn
        go_wp2_with (at_builtin; refine app_i64 _ rfl _ _ rfl W5.heap.size _ _ _ rfl (HO.out.alloc _) _ _ rfl ?qg ?qn ?qb ?_)
        case qg => simp
        case qn => omega
        case qb => have := HB.out.size; simp; omega
        intro v' w6 hown hchg hfresh
        obtain ⟨sa', cap', rfl⟩ := (rd_of_row hown).form
        rw [← i64s_snoc, ← HSN.out] at hown
        have hbb : Below W5.heap.size W5 w6 := (HB.out.alloc HB.out.size _).trans (hchg.below (B := W5.heap.size) (by have := HB.out.size; simp; omega) fun i hi => (HO.out.lt i hi).1)
        have HO1 := Lib.hid hown; have HB6 := Lib.hid hbb
        clear hown hchg hfresh hbb
        go_wp2_with fail
        go_roundw
        case rel => exact ⟨j + 1, sa', cap', by omega, by go_num, rfl, HO1, HB6⟩
        case measure => simp [intOf]; omega
      · obtain rfl : j = N1 := by omega
        have hO := HO.out
        rw [List.take_of_length_le (by rw [HRL.out]; exact Nat.le_refl _)] at hO
        have hO2 := rd_of_row hO
        have kr : wr.cell? ⟨w.heap.size, 0, none⟩ = some (.int .i64 (p.length : Int)) := (HB.out.cell (p := ⟨w.heap.size, 0, none⟩) sbk).trans (cell_of HFIN.out.kcl 0 rfl)
        have HOR := Lib.hid hO2
        have HBr := Lib.hid (HFIN.out.bel.trans (HB.out.mono HFIN.out.bel.size))
        clear hO hO2 c13 ck
        go_wp2_with fail
        refine (subset_set wr _ p.length Ms ((rd_of_row HFIN.out.srow).below HB.out) (by omega)).mono ?_
        rintro e w6 ⟨s6, c6, rfl, hown6, hb6⟩
        rw [HSL.out] at hown6
        rw [HSL.out]
        have HO6 := Lib.hid hown6; have HB6 := Lib.hid hb6
        have k6 := (hb6.cell (p := ⟨w.heap.size, 0, none⟩) (World.block_lt_of_cell? wr _ kr)).trans kr
        clear hown6 hb6 kr
        have HBW6 := Lib.hid (below_two HBr.out HB6.out)
        go_wp2_with fail
        refine (submove_ok w6 n _ _ p.length p.length (setL Ms) p (rd_of_row HO6.out) (HP.out.below HBW6.out) hn HSR.out HRS.out HSL.out).mono ?_
        rintro e w7 ⟨s7, c7, rfl, hown7, hb7⟩
        rw [← HMV.out] at hown7
        have HO7 := Lib.hid hown7; have HB7 := Lib.hid hb7
        have k7 := (hb7.cell (p := ⟨w.heap.size, 0, none⟩) (World.block_lt_of_cell? w6 _ k6)).trans k6
        clear hown7 hb7 k6
        have HBW7 := Lib.hid (below_two HBW6.out HB7.out)
        have HOR7 := Lib.hid ((HOR.out.below HB6.out).below HB7.out)
        have TU := Lib.hid (turn_ok w7 n p.length (.slice sc j cc) (.slice s7 n c7) j n (numsI r.1) Mv HOR7.out (rd_of_row HO7.out) hk hn HDB.out HML.out HMP.out)
        go_wp2_with fail
        refine TU.out.mono ?_
        rintro e w8 ⟨s8, c8, rfl, hown8, hb8⟩
        rw [HTL.out] at hown8
        rw [← HN1.out] at hown8 ⊢
        have HO8 := Lib.hid (rd_of_row hown8); have HB8 := Lib.hid hb8
        have HBW8 := Lib.hid (below_two HBW7.out HB8.out)
        have HB58 := Lib.hid ((HB.out.trans ((below_two (below_two HB6.out HB7.out) HB8.out).mono HB.out.size)))
        have hkc8 : w8.heap[w.heap.size]? = some (.cells #[.int .i64 (p.length : Int)] 3 (0, 0)) := (HB58.out.block _ sbk).trans HFIN.out.kcl
        have hdc8 : w8.heap[bd]? = some (.cells #[.slice sd j cd] 41 (0, 0)) := (HB58.out.block _ sbd).trans HFIN.out.dcl
        have hdr8 : w8.ownsRow 0 65 3 (.slice sd j cd) j (dwC r.1) := row_chg (row_mono HFIN.out.drow (Nat.zero_le _)) (Chg.of_below (S := fun _ => False) ((HB58.out))) (fun _ _ h => h)
        have HKC8 := Lib.hid hkc8; have HDC8 := Lib.hid hdc8; have HDR8 := Lib.hid hdr8
        clear hown8 hb8 k7 hkc8 hdc8 hdr8
        go_wp2_with fail
        refine (clone_u64 (.slice sl l.length cl) l.length (zsN l) w8 (HL.out.below HBW8.out) (by omega)).mono ?_
        rintro e w9 ⟨so, co, rfl, hown9, hb9⟩
        have HO9 := Lib.hid hown9; have HB9 := Lib.hid hb9
        have k9 : w9.cell? ⟨w.heap.size, 0, none⟩ = some (.int .i64 (p.length : Int)) := (hb9.cell (p := ⟨w.heap.size, 0, none⟩) (block_lt HKC8.out)).trans (cell_of HKC8.out 0 rfl)
        have k10 : ∀ o1 o2, ((w9.alloc o1).alloc o2).cell? ⟨w.heap.size, 0, none⟩ = some (.int .i64 (p.length : Int)) := fun o1 o2 => Lib.cell?_alloc_some _ (Lib.cell?_alloc_some _ k9)
        clear hown9 hb9
        go_wp2_with fail
        have hat0 : ((w9.alloc (.cells #[.slice so l.length co] 22)).alloc (.cells #[.int .i64 0] 3)).heap[w9.heap.size + 1]? = some (.cells #[.int .i64 0] 3 (0, 0)) := by
          have := heap_alloc_new (w9.alloc (.cells #[.slice so l.length co] 22)) (.cells #[.int .i64 0] 3)
          simpa using this
        have hB9 := HB9.out
        have hW8 := HBW8.out.size
        have hs9 := hB9.size
        have hkl := block_lt HKC8.out
        have hdl := block_lt HDC8.out
        refine (each_any w8 _ p.length (.slice s8 j c8) j T _ _ (fun i wr => ∃ out, EvS w8 (w9.heap.size + 1) bd w.heap.size w9.heap.size n p.length j l.length (.slice so l.length co) (.slice sd j cd) l r.1 (vsR T) i wr out) HO8.out (by omega) (by have := HTN.out; omega) ent_vaim1 (fun i wr h => by obtain ⟨out, h⟩ := h; exact h.bel) ⟨l, ?_⟩ ?_).mono ?_
        · refine ⟨rfl, ?_, ?_, ?_, ?_, ?_, ?_, ?_, ?_⟩
          · rw [usedK_zero]; exact hat0
          · exact (heap_alloc_old _ _ (by simp; omega)).trans ((heap_alloc_old _ _ (by omega)).trans ((hB9.block _ hdl).trans HDC8.out))
          · exact (heap_alloc_old _ _ (by simp; omega)).trans ((heap_alloc_old _ _ (by omega)).trans ((hB9.block _ hkl).trans HKC8.out))
          · exact (heap_alloc_old _ _ (by simp)).trans (heap_alloc_new _ _)
          · exact (HO9.out.alloc _).alloc _
          · exact ((row_chg HDR8.out (Chg.of_below (S := fun _ => False) hB9) (fun _ _ h => h)).alloc _).alloc _
          · exact (hB9.alloc hs9 _).alloc (by simp; omega) _
          · simp only [List.drop_zero, usedK_zero, aimL_zero]
        · rintro i wr2 hi ⟨out, hE⟩
          have hin : i < j := by have := HTN.out; omega
          have hinn : i < n - p.length := by have := HN1.out; omega
          obtain ⟨f1, f2, f3⟩ := HFAC.out i hinn
          rw [limR_get hinn] at f2
          have hkr : i < r.1.length := by rw [HRL.out]; exact hin
          rw [usedK_succ hkr] at f3
          have hst := usedK_succ hkr
          have hti := HTR.out i hi
          obtain ⟨v, hv⟩ : ∃ v : Nat, T.getD i 0 = (v : Int) := ⟨(T.getD i 0).toNat, by omega⟩
          have hds := drop_cons (l := limR n p.length) (k := i) (by rw [limR_len]; exact hinn)
          rw [limR_get hinn] at hds
          have hvs := drop_cons (l := vsR T) (k := i) (by rw [vsR_len]; exact hi)
          rw [vsR_get _ hi, hv, Int.toNat_natCast] at hvs
          have hdd : r.1.drop i = r.1.getD i dwZ :: r.1.drop (i + 1) := by
            rw [List.getD_eq_getElem?_getD, List.getElem?_eq_getElem hkr]
            exact List.drop_eq_getElem_cons hkr
          obtain ⟨bb, off, hsd, hcd⟩ := (rd_of_row hE.drow).at (by omega)
          obtain ⟨y0, y1, y2⟩ := dwC_at r.1 i hkr
          have x0 := hcd _ _ y0
          have x1 := hcd _ _ y1
          have x2 := hcd _ _ y2
          rw [← Nat.add_assoc] at x1 x2
          generalize r.1.getD i dwZ = d at *
          obtain ⟨d1, d2, d3⟩ := d
          simp only at x0 x1 x2 f1 f2 f3 hst
          obtain ⟨q, hq⟩ : ∃ q, usedK r.1 i + d3 = q + 1 := ⟨usedK r.1 i + d3 - 1, by omega⟩
          obtain ⟨go, hso, -, hgo2, -, -, -⟩ := row_ptr hE.orow (by omega)
          subst hsd; subst hso
          rw [hv, show ((p.length : Int) + (i : Int)) = ((p.length + i : Nat) : Int) by omega]
          have hgo : (Value.slice (some ⟨go, 0, none⟩) l.length co).ownBlock = some go := rfl
          refine (vaim1_any wr2 w8.heap.size bd w.heap.size (w9.heap.size + 1) w9.heap.size bb off go j cd l.length co p.length i (p.length + i) (usedK r.1 i) v q d1 d2 d3 out hE.atc (cell_of hE.dcl 0 rfl) (cell_of hE.kcl 0 rfl) (cell_of hE.ocl 0 rfl) x0 x1 x2 hin hE.orow rfl hq (by omega) (by omega) (by omega) (by omega) f2
            (blk_neV hE.atc hE.dcl (by decide)) (by omega) (by omega) (fun h => row_blk_neV hE.orow hE.dcl (by decide) (by rw [hgo, h])) (fun h => row_blk_neV hE.orow hE.ocl (by decide) (by rw [hgo, h]))).mono ?_
          rintro e w' ⟨rfl, hd⟩
          refine ⟨rfl, _, hE.next hd (by omega) (by omega) hst (by rw [List.length_set]; exact hE.len) ?_⟩
          have htt := hE.eqn
          rw [hds, hvs, hdd, aimL_step (d := (d1, d2, d3)) (by rw [hE.len]; exact f3) f1] at htt
          simp only at htt
          rw [show usedK r.1 i + d3 - 1 = q by omega, ← hst] at htt
          exact htt
        · rintro e w11 ⟨rfl, out, hE⟩
          have htt := hE.eqn
          rw [show (limR n p.length).drop T.length = [] from List.drop_of_length_le (by rw [limR_len]; have := HTN.out; have := HN1.out; omega), aimL_end] at htt
          have c0 : w11.cell? ⟨w9.heap.size, 0, none⟩ = some (.slice so l.length co) := cell_of hE.ocl 0 rfl
          have HTT := Lib.hid htt; have HE := Lib.hid hE
          clear htt hE k9 k10 hat0
          go_wp2_with fail
          go_ret2
          refine ⟨so, co, rfl, ?_, HBW8.out.trans (HE.out.bel.mono hW8)⟩
          rw [HTT.out]
          exact row_mono HE.out.orow hW8



set_option maxRecDepth 100000 in
set_option maxHeartbeats 2000000 in
theorem lre_chk (w : World) (n : Int) (sa sp : Option Addr) (cap cp : Nat) (l : List Nat) (p : List Int) (HP : Hid (Rd w 1 (.slice sp p.length cp) p.length (i64s p))) (hl : l.length ≤ 100) (hn : n ≤ 40 ∨ 256 < n) (hbp : p.length ≤ 17592186043904) (HCN : Hid (resChk n (p.length : Int) ≠ 0)) :
    Calls Tryz.prog 4 #[.slice sa l.length cap, .int .i64 n, .slice sp p.length cp] w fun e w' => e = .returned (.bool true) ∧ Below w.heap.size w w' := by
  have C := Lib.hid (fun w1 (h : Rd w1 1 (.slice sp p.length cp) p.length (i64s p)) => vaimset_chk w1 (.slice sa l.length cap) _ n p.length p h HCN.out)
  have R := Lib.hid (fun w1 => refchk_any n (p.length : Int) w1)
  have q1 : (resChk n (p.length : Int) != 0) = true := by simpa using HCN.out
  have q2 : (resChk n (p.length : Int) == 0) = false := by simpa using HCN.out
  have q3 : (resChk n (p.length : Int) == resChk n (p.length : Int)) = true := by simp
  clear HCN
  generalize resChk n (p.length : Int) = E at *
  rcases hn with h40 | h256
  · go_enter Tryz.func4, Tryz.ntmps4
    go_wp2_with (go_at_call 11; refine (awake42 _).mono ?_; rintro e w1 ⟨rfl, hb1⟩; have HB1 := Lib.hid hb1; clear hb1)
    refine (C.out w1 (HP.out.below HB1.out)).mono ?_
    rintro e w2 ⟨rfl, hb2⟩
    have HB2 := Lib.hid (below_two HB1.out hb2); clear hb2
    go_wp2_with fail
    refine (R.out w2).mono ?_
    rintro e w3 ⟨rfl, rfl⟩
    go_wp2_with fail
    go_ret
    exact ⟨rfl, HB2.out⟩
  · have h41 : 40 < n := by omega
    go_enter Tryz.func4, Tryz.ntmps4
    go_wp2_with (go_at_call 11; refine (awake42 _).mono ?_; rintro e w1 ⟨rfl, hb1⟩; have HB1 := Lib.hid hb1; clear hb1)
    refine (C.out w1 (HP.out.below HB1.out)).mono ?_
    rintro e w2 ⟨rfl, hb2⟩
    have HB2 := Lib.hid (below_two HB1.out hb2); clear hb2
    go_wp2_with fail
    refine (R.out w2).mono ?_
    rintro e w3 ⟨rfl, rfl⟩
    go_wp2_with fail
    go_ret
    exact ⟨rfl, HB2.out⟩

set_option maxRecDepth 100000 in
set_option maxHeartbeats 2000000 in
theorem lre_dom (w : World) (n : Nat) (sa sp : Option Addr) (cap cp : Nat) (l : List Nat) (p : List Int) (HP : Hid (Rd w 1 (.slice sp p.length cp) p.length (i64s p))) (hl : l.length ≤ 100) (hn : n ≤ 40) (hkn : p.length ≤ n) (HRQ : Hid (rsB (n : Int) p = false)) (HCK : Hid (resChk (n : Int) (p.length : Int) = 0)) :
    Calls Tryz.prog 4 #[.slice sa l.length cap, .int .i64 (n : Int), .slice sp p.length cp] w fun e w' => e = .returned (.bool true) ∧ Below w.heap.size w w' := by
  go_enter Tryz.func4, Tryz.ntmps4
  go_wp2_with (go_at_call 11; refine (awake42 _).mono ?_; rintro e w1 ⟨rfl, hb1⟩; have HB1 := Lib.hid hb1; clear hb1)
  refine (vaimset_dom w1 _ _ n p.length p (HP.out.below HB1.out) hkn (by omega) HRQ.out).mono ?_
  rintro e w2 ⟨rfl, hb2⟩
  have HB2 := Lib.hid (below_two HB1.out hb2); clear hb2
  go_wp2_with fail
  refine (refchk_any _ _ w2).mono ?_
  rintro e w3 ⟨rfl, rfl⟩
  rw [HCK.out]
  go_wp2_with fail
  refine (refrises_any w2 (n : Int) _ p.length p (HP.out.below HB2.out) (by omega)).mono ?_
  rintro e w8 ⟨rfl, q8, rfl⟩
  rw [HRQ.out]
  have HB8 := Lib.hid (below_drewN' HB2.out q8)
  go_wp2_with fail
  go_ret
  exact ⟨rfl, HB8.out⟩

set_option maxRecDepth 100000 in
set_option maxHeartbeats 2000000 in
theorem lre_none (w : World) (n : Nat) (sa sp : Option Addr) (cap cp : Nat) (l : List Nat) (p : List Int) (HR : Hid (Rd w 1 (.slice sa l.length cap) l.length (u64s (zsN l)))) (HP : Hid (Rd w 1 (.slice sp p.length cp) p.length (i64s p))) (HW : Hid (W64 l)) (hl : l.length ≤ 100) (hn : n ≤ 40) (hkn : p.length ≤ n) (HRQ : Hid (rsB (n : Int) p = true)) (HCK : Hid (resChk (n : Int) (p.length : Int) = 0)) (HROW : Hid (rowN l (limR n p.length) = none)) :
    Calls Tryz.prog 4 #[.slice sa l.length cap, .int .i64 (n : Int), .slice sp p.length cp] w fun e w' => e = .returned (.bool true) ∧ Below w.heap.size w w' := by
  go_enter Tryz.func4, Tryz.ntmps4
  go_wp2_with (go_at_call 11; refine (awake42 _).mono ?_; rintro e w1 ⟨rfl, hb1⟩; have HB1 := Lib.hid hb1; clear hb1)
  refine (vaimset_none w1 _ _ l.length n p.length l p (HR.out.below HB1.out) (HP.out.below HB1.out) (by omega) HW.out hkn (by omega) HRQ.out HROW.out).mono ?_
  rintro e w2 ⟨rfl, hb2⟩
  have HB2 := Lib.hid (below_two HB1.out hb2); clear hb2
  go_wp2_with fail
  refine (refchk_any _ _ w2).mono ?_
  rintro e w3 ⟨rfl, rfl⟩
  rw [HCK.out]
  go_wp2_with fail
  refine (refrises_any w2 (n : Int) _ p.length p (HP.out.below HB2.out) (by omega)).mono ?_
  rintro e w8 ⟨rfl, q8, rfl⟩
  rw [HRQ.out]
  have HB8 := Lib.hid (below_drewN' HB2.out q8)
  go_wp2_with fail
  refine (rtake42_any (w2.drewN q8) _ _ l n p.length (HR.out.below HB8.out) (by omega) HW.out hkn (by omega)).mono ?_
  rintro e w9 ⟨he, hb9⟩
  rw [HROW.out] at he
  obtain rfl : e = .returned (.tuple #[.slice none 0 0, .slice none 0 0, .int .i64 (l.length : Int), .bool false]) := he
  have HB9 := Lib.hid (below_two HB8.out hb9); clear hb9
  go_wp2_with fail
  go_ret
  exact ⟨rfl, HB9.out⟩

set_option maxRecDepth 100000 in
set_option maxHeartbeats 4000000 in
theorem lre_some (w : World) (n k N0 : Nat) (sa sp : Option Addr) (cap cp : Nat) (l : List Nat) (p : List Int) (HR : Hid (Rd w 1 (.slice sa l.length cap) l.length (u64s (zsN l)))) (HP : Hid (Rd w 1 (.slice sp k cp) k (i64s p))) (HW : Hid (W64 l)) (hl : l.length ≤ 100) (hn : n ≤ 40) (hkn : k ≤ n) (HPL : Hid (p.length = k)) (HRQ : Hid (rsB (n : Int) p = true)) (HCK : Hid (resChk (n : Int) (k : Int) = 0)) (r : List Drw × Nat) (HROW : Hid (rowN l (limR n k) = some r)) :
    Calls Tryz.prog 4 #[.slice sa l.length cap, .int .i64 (n : Int), .slice sp k cp] w fun e w' => e = .returned (.bool true) ∧ Below w.heap.size w w' := by
  obtain ⟨Was, N1, M, T, r2, S⟩ := even_plain n k l p r HW.out hkn (by omega) HPL.out HRQ.out HROW.out
  have HS := Lib.hid S; clear S
  have bnk : n - k ≤ 40 := by omega
  go_enter Tryz.func4, Tryz.ntmps4
  go_wp2_with (go_at_call 11; refine (awake42 _).mono ?_; rintro e w1 ⟨rfl, hb1⟩; have HB1 := Lib.hid hb1; clear hb1)
  refine (vaimset_some w1 _ _ l.length n k l p _ r (HR.out.below HB1.out) (HP.out.below HB1.out) (by omega) HW.out hkn (by omega) HRQ.out HROW.out rfl).mono ?_
  rintro e w7 ⟨s7, c7, rfl, hout, hb7⟩
  rw [HS.out.aim] at hout
  have HOUT := Lib.hid (rd_of_row hout)
  have HB7 := Lib.hid (below_two HB1.out hb7); clear hb7 hout
  go_wp2_with fail
  refine (refchk_any _ _ w7).mono ?_
  rintro e w3 ⟨rfl, rfl⟩
  rw [HCK.out]
  go_wp2_with fail
  refine (refrises_any w7 (n : Int) _ k p (HP.out.below HB7.out) (by omega)).mono ?_
  rintro e w8 ⟨rfl, q8, rfl⟩
  rw [HRQ.out]
  have HB8 := Lib.hid (below_drewN' HB7.out q8)
  have HOUT8 := Lib.hid (HOUT.out.below (below_drewN' (Below.refl _ _) q8))
  go_wp2_with fail
  refine (rtake42_any (w7.drewN q8) _ _ l n k (HR.out.below HB8.out) (by omega) HW.out hkn (by omega)).mono ?_
  rintro e w9 ⟨he, hb9⟩
  rw [HROW.out] at he
  obtain ⟨s1, c1, s2, c2, rfl, hwas, hone⟩ := he
  rw [HS.out.was] at hwas
  have HWAS := Lib.hid hwas; have HONE := Lib.hid hone; have HO9 := Lib.hid (HOUT8.out.below hb9)
  have HB9 := Lib.hid (below_two HB8.out hb9); clear hb9 hwas hone
  go_wp2_with fail
  refine (rtake42_any w9 _ _ M n k HO9.out (by have := HS.out.len; omega) HS.out.fits hkn (by omega)).mono ?_
  rintro e w10 ⟨he, hb10⟩
  rw [HS.out.row] at he
  obtain ⟨s3, c3, s4, c4, rfl, hnow, htwo⟩ := he
  simp only at hnow htwo
  rw [HS.out.now] at hnow
  have HNOW := Lib.hid hnow; have HTWO := Lib.hid htwo
  have HO10 := Lib.hid (HO9.out.below hb10); have HW10 := Lib.hid (HWAS.out.below hb10); have HONE10 := Lib.hid (HONE.out.below hb10)
  have HB10 := Lib.hid (below_two HB9.out hb10); clear hb10 hnow htwo
  go_wp2_with fail
  refine (refset_any w10 _ k Was HW10.out (by omega)).mono ?_
  rintro e w11 ⟨s5, c5, rfl, hset, hb11⟩
  rw [HS.out.slen] at hset
  rw [HS.out.slen]
  have HSET := Lib.hid (rd_of_row hset)
  have HO11 := Lib.hid (HO10.out.below hb11); have HN11 := Lib.hid (HNOW.out.below hb11); have HONE11 := Lib.hid (HONE10.out.below hb11); have HTWO11 := Lib.hid (HTWO.out.below hb11)
  have HB11 := Lib.hid (below_two HB10.out hb11); clear hb11 hset
  go_wp2_with fail
  refine (vaimset_some w11 _ _ l.length n k M (setL Was) _ (T, r2) HO11.out HSET.out (by omega) HS.out.fits hkn (by omega) HS.out.srs HS.out.row rfl).mono ?_
  rintro e w12 ⟨s6, c6, rfl, hbk, hb12⟩
  simp only at hbk
  rw [HS.out.back] at hbk
  have HBK := Lib.hid (rd_of_row hbk)
  have HN12 := Lib.hid (HN11.out.below hb12); have HONE12 := Lib.hid (HONE11.out.below hb12); have HTWO12 := Lib.hid (HTWO11.out.below hb12)
  have HB12 := Lib.hid (below_two HB11.out hb12); clear hb12 hbk
  go_wp2_with fail
  refine (refset_any w12 _ k N1 HN12.out (by omega)).mono ?_
  rintro e w13 ⟨s8, c8, rfl, hset, hb13⟩
  rw [HS.out.nset, HPL.out] at hset
  rw [HS.out.nset, HPL.out]
  have HSET2 := Lib.hid (rd_of_row hset)
  have HBK13 := Lib.hid (HBK.out.below hb13); have HONE13 := Lib.hid (HONE12.out.below hb13); have HTWO13 := Lib.hid (HTWO12.out.below hb13)
  have HB13 := Lib.hid (below_two HB12.out hb13); clear hb13 hset
  go_wp2_with fail
  refine (ints_any w13 _ _ p p k k HSET2.out (HP.out.below HB13.out) (by omega) (by omega)).mono ?_
  rintro e w14 ⟨rfl, n14, rfl⟩
  rw [eqL_self]
  have hd : Below w13.heap.size w13 (w13.drewN n14) := below_drewN' (Below.refl _ _) n14
  have HD := Lib.hid hd; clear hd
  go_wp2_with fail
  refine (ranks_any _ _ _ r.1 T (n - k) (n - k) (HONE13.out.below HD.out) (HTWO13.out.below HD.out) (by omega) (by rw [HS.out.olen, HS.out.rlen]) HS.out.rank).mono ?_
  rintro e w15 ⟨rfl, n15, rfl⟩
  go_wp2_with fail
  refine (words_any _ _ _ (zsN l) (zsN l) l.length l.length (HBK13.out.below (below_drewN' (Below.refl _ _) _)) ((HR.out.below HB13.out).below (below_drewN' (Below.refl _ _) _)) (by omega) (by omega)).mono ?_
  rintro e w16 ⟨rfl, n16, rfl⟩
  rw [eqL_self]
  go_wp2_with fail
  go_ret
  exact ⟨rfl, below_drewN' HB13.out _⟩

set_option maxRecDepth 100000 in
set_option maxHeartbeats 2000000 in
theorem law_ReservoirEven (w : World) (v vp : Value) (m k : Nat) (n : Int) (l : List Nat) (p : List Int) (hr : Rd w 1 v m (u64s (zsN l))) (hp : Rd w 1 vp k (i64s p)) (hw : W64 l) (hbp : k ≤ 17592186043904) :
    Calls Tryz.prog 4 #[v, .int .i64 n, vp] w fun e w' => e = .returned (.bool true) ∧ Below w.heap.size w w' := by
  obtain rfl := hr.len_u64
  obtain rfl := hp.len_i64
  rw [zsN_len] at *
  obtain ⟨sa, cap, rfl⟩ := hr.form
  obtain ⟨sp, cp, rfl⟩ := hp.form
  have HR := Lib.hid hr; have HW := Lib.hid hw; have HP := Lib.hid hp
  clear hr hw hp
  by_cases h1 : 100 < l.length
  · go_enter Tryz.func4, Tryz.ntmps4
    go_wp2_with (go_at_call 11; refine (awake42 _).mono ?_; rintro e w1 ⟨rfl, hb1⟩; have HB1 := Lib.hid hb1; clear hb1)
    go_ret
    exact ⟨rfl, HB1.out⟩
  by_cases h2 : 40 < n ∧ n ≤ 256
  · obtain ⟨h3, h4⟩ := h2
    go_enter Tryz.func4, Tryz.ntmps4
    go_wp2_with (go_at_call 11; refine (awake42 _).mono ?_; rintro e w1 ⟨rfl, hb1⟩; have HB1 := Lib.hid hb1; clear hb1)
    go_ret
    exact ⟨rfl, HB1.out⟩
  by_cases h5 : resChk n (p.length : Int) = 0
  · have hz := resChk_zero.1 h5
    obtain ⟨n, rfl⟩ : ∃ x : Nat, n = x := ⟨n.toNat, by omega⟩
    cases hq : rsB (n : Int) p with
    | false => exact lre_dom w n sa sp cap cp l p HP (by omega) (by omega) (by omega) hq h5
    | true =>
      cases hrow : rowN l (limR n p.length) with
      | none => exact lre_none w n sa sp cap cp l p HR HP HW (by omega) (by omega) (by omega) hq h5 hrow
      | some r => exact lre_some w n p.length 0 sa sp cap cp l p HR HP HW (by omega) (by omega) (by omega) rfl hq h5 r hrow
  · exact lre_chk w n sa sp cap cp l p HP (by omega) (by omega) hbp h5

end Go.Proofs.YtcoohepkmhpdkaaGreat
