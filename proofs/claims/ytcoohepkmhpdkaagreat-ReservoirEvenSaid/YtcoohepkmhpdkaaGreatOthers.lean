/-
  slices.DeleteFunc, Grow of nil, Concat of two; subset.others; the order that moves one set to another one, plain.
-/
import Derived.Test.YtcoohepkmhpdkaaGreatSub3
import Derived.Lib.SliceRun
import Derived.Deep.Upon
import Derived.Lib.AppendZeros
namespace Go.Proofs.YtcoohepkmhpdkaaGreat
open Go.RowKit
set_option linter.unusedVariables false
set_option linter.unusedSimpArgs false

theorem zero_int (w : World) : (zeroValue 3).run Tryz.prog w = .ok (.int .i64 0) w := by kernel_rfl

theorem setCells_at : ∀ (vs : List Value) (o : Nat) (w : World) (g : Nat) (cur : Array Value) (e : TypeId) (fz : Nat × Nat), w.heap[g]? = some (.cells cur e fz) →
    ∃ cur', (w.setCells g o vs).heap[g]? = some (.cells cur' e fz) ∧ cur'.size = cur.size ∧ ∀ k, k ≤ o → cur'.toList.take k = cur.toList.take k
  | [], o, w, g, cur, e, fz, h => ⟨cur, h, rfl, fun _ _ => rfl⟩
  | v :: vs, o, w, g, cur, e, fz, h => by
    obtain ⟨c1, h1, h2, h3⟩ := setCells_at vs (o + 1) (w.setCell ⟨g, o, none⟩ v) g _ e fz (set_of h o v)
    refine ⟨c1, h1, by rw [h2]; simp, fun k hk => ?_⟩
    rw [h3 k (by omega)]
    simp only [Array.toList_setIfInBounds]
    rw [List.take_set_of_le (by omega)]

theorem setCells_chg (S : Nat → Prop) (g : Nat) (hg : S g) : ∀ (vs : List Value) (o : Nat) (a w : World), Chg S a w → Chg S a (w.setCells g o vs)
  | [], o, a, w, h => h
  | v :: vs, o, a, w, h => setCells_chg S g hg vs (o + 1) a _ (h.setCell (p := ⟨g, o, none⟩) (.inl hg) v)

/-- a row cut to its first cells, behind a write to those beyond -/
theorem row_cleared {w : World} {B : Nat} {e : TypeId} {g n cap : Nat} {xs : List Value} (h : w.ownsRow B e 1 (.slice (some ⟨g, 0, none⟩) n cap) n xs) {k : Nat} (hk : k ≤ n) (vs : List Value) :
    (w.setCells g k vs).ownsRow B e 1 (.slice (some ⟨g, 0, none⟩) k cap) k (xs.take k) := by
  have hp := row_prefix h hk
  rcases hp.2 with ⟨h0, _⟩ | ⟨g', cap', cur, hv, hb, hg, hc, hm, hs, ht⟩
  · cases h0
  · cases hv
    obtain ⟨c1, h1, h2, h3⟩ := setCells_at vs k w g cur e (0, 0) hg
    exact ⟨hp.1, .inr ⟨g, cap, c1, rfl, hb, h1, hc, hm, by rw [h2]; exact hs, by rw [h3 _ (by omega)]; exact ht⟩⟩

set_option maxRecDepth 100000 in
set_option maxHeartbeats 1000000 in
theorem indexfunc_first (w : World) (v : Value) (n : Nat) (l : List Int) (F : Nat) (caps : Array Value) (f : Int → Bool) (h : Rd w 1 v n (i64s l)) (hbig : n ≤ 50000)
    (hF : ∀ args w, (callFunc F args).run Tryz.prog w = .ok (.enter F args) w)
    (hstep : ∀ i, i < l.length → Calls Tryz.prog F (#[.int .i64 (l.getD i 0)] ++ caps) w fun e w' => e = .returned (.bool (f (l.getD i 0))) ∧ w = w') :
    Calls Tryz.prog 145 #[v, .func (.func F) #[] caps] w fun e w' => ∃ r : Int, e = .returned (.int .i64 r) ∧ w = w' ∧ ((r = -1 ∧ ∀ i, i < l.length → f (l.getD i 0) = false) ∨ (∃ i : Nat, r = i ∧ i < l.length ∧ f (l.getD i 0) = true ∧ ∀ t, t < i → f (l.getD t 0) = false)) := by
  have hln := h.len_i64
  subst hln
  obtain ⟨sa, cap, rfl⟩ := h.form
  have HR := Lib.hid h; have HS := Lib.hid hstep; clear h hstep
  go_enter Tryz.func145, Tryz.ntmps145
  go_wp2
  go_loop [8] (fun i => ∃ s : Nat, s ≤ l.length ∧ i = .int .i64 s ∧ Hid (∀ t, t < s → f (l.getD t 0) = false)) (fun i => l.length - (intOf i).toNat)
  case atStart => exact ⟨0, Nat.zero_le _, rfl, fun t ht => by omega⟩
  case round =>
    obtain ⟨s, hs, rfl, HN⟩ := hrel
    by_cases hlt : s < l.length
    · obtain ⟨b, off, rfl, hc⟩ := HR.out.at (by omega)
      have cx := hc s _ (i64s_at l s hlt)
      have hcall := HS.out s hlt
      clear hc
      generalize hx : l.getD s 0 = x at *
      have HX := Lib.hid hx; have HCALL := Lib.hid hcall; clear hx hcall
      go_wp2_with fail
      refine HCALL.out.mono ?_
      rintro e w' ⟨rfl, rfl⟩
      cases hfx : f x with
      | true =>
        have HFX := Lib.hid hfx; clear hfx
        go_wp2
        go_ret
        exact ⟨_, rfl, rfl, .inr ⟨s, rfl, hlt, by rw [HX.out]; exact HFX.out, HN.out⟩⟩
      | false =>
        have HFX := Lib.hid hfx; clear hfx
        go_wp2
        go_round
        case rel =>
          refine ⟨s + 1, by omega, by go_num, fun t ht => ?_⟩
          by_cases hts : t = s
          · subst hts; rw [HX.out]; exact HFX.out
          · exact HN.out t (by omega)
        case measure => simp [intOf]; omega
    · obtain rfl : s = l.length := by omega
      go_wp2
      go_ret
      exact ⟨_, rfl, rfl, .inl ⟨rfl, HN.out⟩⟩

/-- the row in the course of DeleteFunc -/
structure Del (f : Int → Bool) (l R : List Int) (a j : Nat) : Prop where
  len : R.length = l.length
  head : R.take a = (l.take j).filter (fun x => !f x)
  tail : R.drop j = l.drop j
  lt : a < j
  le : j ≤ l.length

theorem filter_take_succ (f : Int → Bool) (l : List Int) (j : Nat) (hj : j < l.length) :
    (l.take (j + 1)).filter f = (l.take j).filter f ++ (if f (l.getD j 0) then [l.getD j 0] else []) := by
  rw [List.take_succ_eq_append_getElem hj, List.filter_append]
  have : l.getD j 0 = l[j] := by simp [List.getD, List.getElem?_eq_getElem hj]
  rw [this]
  by_cases h : f l[j] = true <;> simp [h]

theorem Del.start {f : Int → Bool} {l : List Int} {i : Nat} (hi : i < l.length) (h1 : f (l.getD i 0) = true) (h0 : ∀ t, t < i → f (l.getD t 0) = false) : Del f l l i (i + 1) := by
  refine ⟨rfl, ?_, rfl, by omega, by omega⟩
  rw [filter_take_succ _ l i hi, h1]
  simp only [Bool.not_true, Bool.false_eq_true, if_false, List.append_nil]
  refine (List.filter_eq_self.2 fun x hx => ?_).symm
  obtain ⟨t, ht, rfl⟩ := List.getElem_of_mem hx
  rw [List.length_take] at ht
  have := h0 t (by omega)
  simp only [List.getD, List.getElem?_eq_getElem (show t < l.length by omega), Option.getD_some] at this
  simp [this]

theorem Del.get {f : Int → Bool} {l R : List Int} {a j : Nat} (h : Del f l R a j) (hj : j < l.length) : R.getD j 0 = l.getD j 0 := by
  have h1 : (R.drop j)[0]? = (l.drop j)[0]? := by rw [h.tail]
  simp only [List.getElem?_drop, Nat.add_zero] at h1
  simp [List.getD, h1]

theorem drop_succ_of {R l : List Int} {j : Nat} (h : R.drop j = l.drop j) : R.drop (j + 1) = l.drop (j + 1) := by
  rw [← List.drop_drop, h, List.drop_drop]

theorem Del.skip {f : Int → Bool} {l R : List Int} {a j : Nat} (h : Del f l R a j) (hj : j < l.length) (hf : f (l.getD j 0) = true) : Del f l R a (j + 1) := by
  refine ⟨h.len, ?_, drop_succ_of h.tail, by have := h.lt; omega, hj⟩
  rw [filter_take_succ _ l j hj, hf, h.head]
  simp

theorem Del.keep {f : Int → Bool} {l R : List Int} {a j : Nat} (h : Del f l R a j) (hj : j < l.length) (hf : f (l.getD j 0) = false) : Del f l (R.set a (l.getD j 0)) (a + 1) (j + 1) := by
  have hl := h.len
  have hlt := h.lt
  refine ⟨by rw [List.length_set, hl], ?_, ?_, by omega, hj⟩
  · rw [filter_take_succ _ l j hj, hf, ← h.head]
    have ha : a < (R.set a (l.getD j 0)).length := by rw [List.length_set]; omega
    rw [List.take_succ_eq_append_getElem ha, List.take_set_of_le (Nat.le_refl _)]
    simp
  · rw [List.drop_set_of_lt (by omega)]
    exact drop_succ_of h.tail

theorem Del.done {f : Int → Bool} {l R : List Int} {a : Nat} (h : Del f l R a l.length) : a ≤ l.length ∧ R.take a = l.filter (fun x => !f x) ∧ a = (l.filter (fun x => !f x)).length := by
  have h1 := h.head
  rw [List.take_length] at h1
  have h2 := h.lt
  refine ⟨by omega, h1, ?_⟩
  rw [← h1, List.length_take, h.len]
  omega

set_option maxRecDepth 100000 in
set_option maxHeartbeats 2000000 in
theorem deletefunc_own (w : World) (B : Nat) (sa : Option Addr) (n cap : Nat) (l : List Int) (F : Nat) (caps : Array Value) (f : Int → Bool) (h : w.ownsRow B 3 1 (.slice sa n cap) n (i64s l)) (hbig : n ≤ 50000)
    (hF : ∀ args w, (callFunc F args).run Tryz.prog w = .ok (.enter F args) w)
    (hstep : ∀ w', Chg (fun k => (Value.slice sa n cap).ownBlock = some k) w w' → ∀ i, i < l.length → Calls Tryz.prog F (#[.int .i64 (l.getD i 0)] ++ caps) w' fun e w'' => e = .returned (.bool (f (l.getD i 0))) ∧ w' = w'') :
    Calls Tryz.prog 118 #[.slice sa n cap, .func (.func F) #[] caps] w fun e w' => e = .returned (.slice sa (l.filter fun x => !f x).length cap) ∧ w'.ownsRow B 3 1 (.slice sa (l.filter fun x => !f x).length cap) (l.filter fun x => !f x).length (i64s (l.filter fun x => !f x)) ∧ Chg (fun k => (Value.slice sa n cap).ownBlock = some k) w w' := by
  have hr := rd_of_row h
  have hln := hr.len_i64
  subst hln
  have HI := Lib.hid (indexfunc_first w _ _ l F caps f hr hbig hF (hstep w (Chg.refl _ w)))
  have HH := Lib.hid h; have HS := Lib.hid hstep
  clear h hstep hr
  go_enter Tryz.func118, Tryz.ntmps118
  go_wp2_with fail
  refine HI.out.mono ?_
  rintro e w' ⟨r, rfl, rfl, hr⟩
  rcases hr with ⟨rfl, hh⟩ | ⟨i, rfl, hi, h1, h0⟩
  · have HN := Lib.hid hh; clear hh
    go_wp2
    go_ret
    have e1 : l.filter (fun x => !f x) = l := List.filter_eq_self.2 fun x hx => by
      obtain ⟨t, ht, rfl⟩ := List.getElem_of_mem hx
      have := HN.out t ht
      simp only [List.getD, List.getElem?_eq_getElem ht, Option.getD_some] at this
      simp [this]
    rw [e1]
    exact ⟨rfl, HH.out, Chg.refl _ _⟩
  · obtain ⟨g, rfl, hg1, hg2, hg3, -, -⟩ := row_ptr HH.out (by omega)
    have hd0 := Del.start hi h1 h0
    have HD0 := Lib.hid hd0
    clear h1 h0 hd0
    have hne : (((i : Nat) : Int) == (-1 : Int)) = false := by simp
    go_wp2
    go_loopw [5, 6] (fun va vj wr => ∃ (a j : Nat) (R : List Int), va = .int .i64 a ∧ vj = .int .i64 j ∧ a < j ∧ j ≤ l.length ∧ Hid (Del f l R a j) ∧ Hid (wr.ownsRow B 3 1 (.slice (some ⟨g, 0, none⟩) l.length cap) l.length (i64s R)) ∧ Hid (Chg (fun k => (Value.slice (some ⟨g, 0, none⟩) l.length cap).ownBlock = some k) w wr)) (fun _ vj _ => l.length - (intOf vj).toNat)
    case atStart => exact ⟨i, i + 1, l, rfl, by go_num, by omega, by omega, HD0, HH, Chg.refl _ _⟩
    case round =>
      obtain ⟨a, j, R, rfl, rfl, haj, hjl, HD, HO, HC⟩ := hrel
      by_cases hlt : j < l.length
      · obtain ⟨g', hs3, hh1, hh2, hh3, hcell, hfz⟩ := row_ptr HO.out (by omega)
        cases hs3
        have cj := hcell j _ (i64s_at R j (by rw [HD.out.len]; exact hlt))
        rw [HD.out.get hlt] at cj
        have ca := hcell a _ (i64s_at R a (by rw [HD.out.len]; omega))
        have fa := hfz a
        have hcall := HS.out wr HC.out j hlt
        clear hcell hfz
        generalize hya : R.getD a 0 = y at *
        cases hfx : f (l.getD j 0) with
        | true =>
          have hk := HD.out.skip hlt hfx
          rw [hfx] at hcall
          generalize hx : l.getD j 0 = x at *
          have HCALL := Lib.hid hcall; have HK := Lib.hid hk; clear hcall hk hx hfx hya
          go_wp2_with fail
          refine HCALL.out.mono ?_
          rintro e w' ⟨rfl, rfl⟩
          go_wp2
          go_roundw
          case rel => exact ⟨a, j + 1, R, rfl, by go_num, by omega, by omega, HK, HO, HC⟩
          case measure => simp [intOf]; omega
        | false =>
          have hk := HD.out.keep hlt hfx
          rw [hfx] at hcall
          generalize hx : l.getD j 0 = x at *
          have HCALL := Lib.hid hcall; have HK := Lib.hid hk; clear hcall hk hx hfx hya
          go_wp2_with fail
          refine HCALL.out.mono ?_
          rintro e w' ⟨rfl, rfl⟩
          go_wp2
          go_roundw
          case rel =>
            refine ⟨a + 1, j + 1, R.set a x, by go_num, by go_num, by omega, by omega, HK, ?_, HC.out.setCell (p := ⟨g, a, none⟩) (.inl rfl) _⟩
            show World.ownsRow _ _ _ _ _ _ (i64s (R.set a x))
            rw [i64s_set]
            exact row_set HO.out (by omega) _
          case measure => simp [intOf]; omega
      · obtain rfl : j = l.length := by omega
        obtain ⟨g', hs3, hh1, hh2, hh3, hcell, hfz⟩ := row_ptr HO.out (by omega)
        cases hs3
        have hRl := HD.out.len
        have hcl : ∀ ty, (Builtin.clear_ #[36] ty #[.slice (some ⟨g, 0 + a, none⟩) (l.length - a) (cap - a)]).run Tryz.prog wr = .ok (.tuple #[]) (wr.setCells g (0 + a) (List.replicate (l.length - a) (.int .i64 0))) :=
          fun ty => Lib.run_clear_slice wr _ _ ty _ Tryz.underlying36 zero_int rfl rfl g (0 + a) _ _ (by omega) (fun k hk => by rw [hcell (0 + a + k) _ (i64s_at R (0 + a + k) (by omega))]; rfl) (fun k hk => hfz _)
        rw [Nat.zero_add] at hcl
        clear hcell hfz hRl
        go_wp2
        go_ret
        obtain ⟨d1, d2, d3⟩ := HD.out.done
        rw [← d3, ← d2]
        refine ⟨rfl, ?_, setCells_chg (fun k => (Value.slice (some ⟨g, 0, none⟩) l.length cap).ownBlock = some k) g rfl _ _ _ _ HC.out⟩
        have := row_cleared HO.out (k := a) (by omega) (List.replicate (l.length - a) (.int .i64 0))
        simpa [i64s, List.map_take] using this


theorem contains_any (w : World) (v : Value) (n : Nat) (l : List Int) (x : Int) (h : Rd w 1 v n (i64s l)) (hbig : n ≤ 1000000) :
    Calls Tryz.prog 121 #[v, .int .i64 x] w fun e w' => e = .returned (.bool (l.contains x)) ∧ w = w' := by
  have hln := h.len_i64
  subst hln
  obtain ⟨sa, cap, rfl⟩ := h.form
  by_cases h0 : 0 < l.length
  · obtain ⟨b, off, rfl, hc⟩ := h.at h0
    refine (Tryz.slices_Contains_int b off l.length cap l x w (Nat.le_refl _) (by omega) fun j hj => hc j _ (i64s_at l j hj)).mono ?_
    rintro e w' ⟨rfl, rfl⟩
    exact ⟨by rw [List.take_length], rfl⟩
  · obtain rfl : l = [] := List.eq_nil_of_length_eq_zero (by omega)
    refine (Tryz.slices_Contains_int_empty sa cap x w).mono ?_
    rintro e w' ⟨rfl, rfl⟩
    exact ⟨by simp, rfl⟩

/-- whether a list holds a number -/
def inL (l : List Int) (x : Int) : Bool := l.contains x

theorem ent_oth1 (args : Array Value) (w : World) : (callFunc 120 args).run Tryz.prog w = .ok (.enter 120 args) w :=
  enters Tryz.func120 (by kernel_rfl) (by kernel_rfl) args w

set_option maxRecDepth 100000 in
set_option maxHeartbeats 1000000 in
theorem oth1_any (w : World) (bp : Nat) (x : Int) (v : Value) (n : Nat) (l : List Int) (h : Rd w 1 v n (i64s l)) (hbig : n ≤ 1000000) (hb : w.cell? ⟨bp, 0, none⟩ = some v) :
    Calls Tryz.prog 120 #[.int .i64 x, .pointer (some ⟨bp, 0, none⟩)] w fun e w' => e = .returned (.bool (inL l x)) ∧ w = w' := by
  have h0 := contains_any w v n l x h hbig
  have hq : inL l x = l.contains x := rfl
  rw [← hq] at h0
  generalize inL l x = q at *
  have H := Lib.hid h0
  obtain ⟨sa, cap, rfl⟩ := h.form
  clear h h0 hq
  go_enter Tryz.func120, Tryz.ntmps120
  go_wp2_with fail
  refine H.out.mono ?_
  rintro e w' ⟨rfl, rfl⟩
  go_wp2
  go_ret
  exact ⟨rfl, rfl⟩

/-- those that are not in a set -/
def othL (n : Nat) (l : List Int) : List Int := (rowL n).filter fun x => !inL l x

set_option maxRecDepth 100000 in
set_option maxHeartbeats 2000000 in
theorem others_any (w : World) (n : Nat) (v : Value) (m : Nat) (l : List Int) (h : Rd w 1 v m (i64s l)) (hbig : m ≤ 50000) (hn : n ≤ 50000) :
    Calls Tryz.prog 81 #[.int .i64 (n : Int), v] w fun e w' => ∃ sa cap, e = .returned (.slice sa (othL n l).length cap) ∧ w'.ownsRow w.heap.size 3 1 (.slice sa (othL n l).length cap) (othL n l).length (i64s (othL n l)) ∧ Below w.heap.size w w' := by
  have hln := h.len_i64
  subst hln
  obtain ⟨sa, cap, rfl⟩ := h.form
  have HR := Lib.hid h; clear h
  have hb0 : Below w.heap.size w (w.alloc (.cells #[.slice sa l.length cap] 36)) := (Below.refl _ w).alloc (Nat.le_refl _) _
  have HB0 := Lib.hid hb0; clear hb0
  obtain ⟨w0, hw0⟩ : ∃ w0, w0 = w.alloc (.cells #[.slice sa l.length cap] 36) := ⟨_, rfl⟩
  have hcb : w0.cell? ⟨w.heap.size, 0, none⟩ = some (.slice sa l.length cap) := by rw [hw0]; exact cell_of (heap_alloc_new w _) 0 rfl
  have hgt : w.heap.size < w0.heap.size := by rw [hw0]; simp
  rw [← hw0] at HB0
  have HW0 := Lib.hid hw0; have HCB := Lib.hid hcb
  clear hw0 hcb
  go_enter Tryz.func81, Tryz.ntmps81
  go_wp2_with fail
  rw [← HW0.out]
  go_wp2_with fail
  refine (subrow_any _ n hn).mono ?_
  rintro e w1 ⟨s1, c1, rfl, hown1, hb1⟩
  have hdel := deletefunc_own w1 w0.heap.size s1 n c1 (rowL n) 120 #[.pointer (some ⟨w.heap.size, 0, none⟩)] (inL l) hown1 hn ent_oth1
    (fun w' hc i hi => by
      have hbw : Below w0.heap.size w0 w' := hb1.trans (hc.below hb1.size fun k hk => (hown1.lt k hk).1)
      refine oth1_any w' w.heap.size _ (.slice sa l.length cap) l.length l ((HR.out.below HB0.out).below hbw) (by omega) ?_
      rw [World.cell?_of_block (w := w0) (hbw.block w.heap.size hgt)]
      exact HCB.out)
  have HD := Lib.hid hdel; have HB1 := Lib.hid hb1; have HO1 := Lib.hid hown1
  clear hdel hb1 hown1
  go_wp2_with fail
  refine HD.out.mono ?_
  rintro e w2 ⟨rfl, hown2, hc2⟩
  have HO2 := Lib.hid hown2; have HC2 := Lib.hid hc2
  clear hown2 hc2
  go_wp2
  go_ret
  exact ⟨_, _, rfl, row_mono HO2.out HB0.out.size, below_two HB0.out (HB1.out.trans (HC2.out.below HB1.out.size fun k hk => (HO1.out.lt k hk).1))⟩

set_option maxRecDepth 100000 in
set_option maxHeartbeats 2000000 in
theorem grow_nil (w : World) (n : Nat) (hn : n ≤ 1000000) :
    Calls Tryz.prog 117 #[.slice none 0 0, .int .i64 (n : Int)] w fun e w' => ∃ sa cap, e = .returned (.slice sa 0 cap) ∧ w'.ownsRow w.heap.size 3 1 (.slice sa 0 cap) 0 [] ∧ Below w.heap.size w w' := by
  have h1 : ¬ ((n : Int) < 0) := by omega
  by_cases h0 : 0 < n
  · obtain ⟨i0, hi, hz0, hz1, hz2⟩ := info_parts info_i64
    have hrun : ∀ ty, (Builtin.append_ #[36, 3] ty #[.slice none 0 0, .int .i64 (n : Int)]).run Tryz.prog w = _ := fun ty =>
      Lib.run_append_nil_zeros w 36 3 ty 3 i0 (.int .i64 0) .i64 .i64 Tryz.underlying36 Tryz.underlying3 hi hz0 n h0 (by omega) (by omega) (by rw [hz2]; omega)
    have hG := grownCap_ge w n 0 3
    have hM := grownCap_le_maxLen w n 0 3 (by unfold maxLen; omega)
    obtain ⟨G, hGe⟩ : ∃ G, G = grownCap w n 0 3 := ⟨_, rfl⟩
    rw [← hGe] at hG hM hrun
    have hown := World.ownsRow_made (base := w.heap.size) (e := 3) (size := 1) w.drew (Builtin.zeroCells (Value.int .i64 0).cells n ++ Builtin.zeroCells (Value.int .i64 0).cells (G - n)) G (Nat.le_refl _) hM (by
      have hc : (Value.int .i64 0).cells = #[.int .i64 0] := rfl
      rw [hc]
      simp [Builtin.zeroCells]
      omega)
    have hbel : Below w.heap.size w (w.drew.alloc (.cells (Builtin.zeroCells (Value.int .i64 0).cells n ++ Builtin.zeroCells (Value.int .i64 0).cells (G - n)) 3)) := (Below.refl _ w).drew.alloc (Nat.le_refl _) _
    obtain ⟨w2, hw2⟩ : ∃ w2, w2 = w.drew.alloc (.cells (Builtin.zeroCells (Value.int .i64 0).cells n ++ Builtin.zeroCells (Value.int .i64 0).cells (G - n)) 3) := ⟨_, rfl⟩
    rw [← hw2] at hrun hown hbel
    have HO := Lib.hid hown; have HB := Lib.hid hbel
    have h4 : (n : Int) > 0 := by omega
    have hM' : G ≤ 1000000000000 ∨ True := .inr trivial
    unfold maxLen at hM
    clear hown hbel hw2 hGe
    go_enter Tryz.func117, Tryz.ntmps117
    go_wp2_with (at_builtin; refine Lib.wpList_append_run _ rfl _ _ _ _ rfl _ _ rfl rfl _ _ (hrun _) ?_)
    go_wp2
    go_ret
    exact ⟨_, _, rfl, HO.out, HB.out⟩
  · obtain rfl : n = 0 := by omega
    go_enter Tryz.func117, Tryz.ntmps117
    go_wp2
    go_ret
    exact ⟨none, 0, rfl, World.ownsRow_nil _ _ _ _, Below.refl _ _⟩

set_option maxRecDepth 100000 in
set_option maxHeartbeats 4000000 in
theorem concat_two (w : World) (g : Nat) (v1 v2 : Value) (n1 n2 : Nat) (l1 l2 : List Int) (h1 : Rd w 1 v1 n1 (i64s l1)) (h2 : Rd w 1 v2 n2 (i64s l2)) (hb1 : n1 ≤ 50000) (hb2 : n2 ≤ 50000)
    (hc0 : w.cell? ⟨g, 0, none⟩ = some v1) (hc1 : w.cell? ⟨g, 1, none⟩ = some v2) (hg : g < w.heap.size) :
    Calls Tryz.prog 80 #[.slice (some ⟨g, 0, none⟩) 2 2] w fun e w' => ∃ sa cap, e = .returned (.slice sa (l1 ++ l2).length cap) ∧ w'.ownsRow w.heap.size 3 1 (.slice sa (l1 ++ l2).length cap) (l1 ++ l2).length (i64s (l1 ++ l2)) ∧ Below w.heap.size w w' := by
  have hln1 := h1.len_i64
  subst hln1
  have hln2 := h2.len_i64
  subst hln2
  obtain ⟨s1, c1, rfl⟩ := h1.form
  obtain ⟨s2, c2, rfl⟩ := h2.form
  have H1 := Lib.hid h1; have H2 := Lib.hid h2; have HC0 := Lib.hid hc0; have HC1 := Lib.hid hc1; clear h1 h2 hc0 hc1
  go_enter Tryz.func80, Tryz.ntmps80
  go_wp2
  go_loop [3, 11] (fun vs vi => ∃ k s : Nat, k ≤ 2 ∧ vs = .int .i64 (s : Int) ∧ vi = .int .i64 (k : Int) ∧ s = (if k = 0 then 0 else if k = 1 then l1.length else l1.length + l2.length)) (fun _ vi => 2 - (intOf vi).toNat)
  case atStart => exact ⟨0, 0, by omega, rfl, rfl, rfl⟩
  case round =>
    obtain ⟨k, s, hk, rfl, rfl, hs⟩ := hrel
    rcases (by omega : k = 0 ∨ k = 1 ∨ k = 2) with rfl | rfl | rfl
    · obtain rfl : s = 0 := by simpa using hs
      have c0 := HC0.out
      clear hs
      go_wp2
      go_round
      case rel => exact ⟨1, l1.length, by omega, by go_num, by go_num, rfl⟩
      case measure => simp [intOf]
    · obtain rfl : s = l1.length := by simpa using hs
      have c0 := HC1.out
      clear hs
      go_wp2
      go_round
      case rel => exact ⟨2, l1.length + l2.length, by omega, by go_num, by go_num, rfl⟩
      case measure => simp [intOf]
    · obtain rfl : s = l1.length + l2.length := by simpa using hs
      clear hs
      go_wp2_with fail
      refine (grow_nil _ (l1.length + l2.length) (by omega)).mono ?_
      rintro e w1 ⟨s3, c3, rfl, hown3, hbel3⟩
      have HO3 := Lib.hid hown3; have HB3 := Lib.hid hbel3
      clear hown3 hbel3
      go_wp2
      go_loopw [6, 27] (fun v vi wr => ∃ (k : Nat) (sa : Option Addr) (ca : Nat) (R : List Int), k ≤ 2 ∧ vi = .int .i64 (k : Int) ∧ v = .slice sa R.length ca ∧ Hid (R = (if k = 0 then [] else if k = 1 then l1 else l1 ++ l2)) ∧ Hid (wr.ownsRow w.heap.size 3 1 (.slice sa R.length ca) R.length (i64s R)) ∧ Hid (Below w.heap.size w wr)) (fun _ vi _ => 2 - (intOf vi).toNat)
      case atStart => exact ⟨0, s3, c3, [], by omega, rfl, rfl, rfl, HO3, HB3⟩
      case round =>
        obtain ⟨k, sa, ca, R, hk, rfl, rfl, HR, HO, HB⟩ := hrel
        rcases (by omega : k = 0 ∨ k = 1 ∨ k = 2) with rfl | rfl | rfl
        · have c0 : wr.cell? ⟨g, 0, none⟩ = some (.slice s1 l1.length c1) := by rw [World.cell?_of_block (w := w) (HB.out.block g hg)]; exact HC0.out
          obtain rfl : R = [] := HR.out
          have HRD := Lib.hid (H1.out.below HB.out)
          go_wp2_with (at_builtin; refine apps_i64 _ rfl _ _ rfl w.heap.size _ _ _ rfl HO.out _ l1.length l1 rfl HRD.out ?qn ?qb ?_)
          case qn => omega
          case qb => exact HB.out.size
          intro v' w2 hown hchg hfresh
          obtain ⟨so', co', rfl⟩ := (rd_of_row hown).form
          have hown' : w2.ownsRow w.heap.size 3 1 (.slice so' l1.length co') l1.length (i64s l1) := by simpa [i64s] using hown
          have HO2 := Lib.hid hown'; have HC2 := Lib.hid hchg
          clear hown hown' hchg hfresh
          go_wp2
          go_roundw
          case rel => exact ⟨1, so', co', l1, by omega, by go_num, by simp, rfl, HO2, HB.out.trans (HC2.out.below HB.out.size fun i hi => (HO.out.lt i hi).1)⟩
          case measure => simp [intOf]
        · have c0 : wr.cell? ⟨g, 1, none⟩ = some (.slice s2 l2.length c2) := by rw [World.cell?_of_block (w := w) (HB.out.block g hg)]; exact HC1.out
          have hR1 : R = l1 := HR.out
          subst hR1
          have HRD := Lib.hid (H2.out.below HB.out)
          go_wp2_with (at_builtin; refine apps_i64 _ rfl _ _ rfl w.heap.size _ _ _ rfl HO.out _ l2.length l2 rfl HRD.out ?qn ?qb ?_)
          case qn => omega
          case qb => exact HB.out.size
          intro v' w2 hown hchg hfresh
          obtain ⟨so', co', rfl⟩ := (rd_of_row hown).form
          have hown' : w2.ownsRow w.heap.size 3 1 (.slice so' (R ++ l2).length co') (R ++ l2).length (i64s (R ++ l2)) := by simpa [i64s] using hown
          have HO2 := Lib.hid hown'; have HC2 := Lib.hid hchg
          clear hown hown' hchg hfresh
          go_wp2
          go_roundw
          case rel => exact ⟨2, so', co', R ++ l2, by omega, by go_num, by simp, rfl, HO2, HB.out.trans (HC2.out.below HB.out.size fun i hi => (HO.out.lt i hi).1)⟩
          case measure => simp [intOf]
        · have hR1 : R = l1 ++ l2 := HR.out
          subst hR1
          go_wp2
          go_ret
          exact ⟨_, _, rfl, HO.out, HB.out⟩


theorem gset_eq (l : List Int) (i : Nat) (v : Int) (h : i < l.length) : (l.set i v).getD i 0 = v := by
  simp [List.getD, List.getElem?_set, h]
theorem gset_ne (l : List Int) {i j : Nat} (v : Int) (h : i ≠ j) : (l.set i v).getD j 0 = l.getD j 0 := by
  simp [List.getD, List.getElem?_set, h]

theorem mem_othL {n : Nat} {l : List Int} {x : Int} : x ∈ othL n l ↔ (0 ≤ x ∧ x < (n : Int)) ∧ x ∉ l := by
  unfold othL
  rw [List.mem_filter, mem_rowL]
  simp [inL]
theorem othL_nodup (n : Nat) (l : List Int) : (othL n l).Nodup := (rowL_nodup n).filter _
/-- a set and the others -/
def endsL (n : Nat) (l : List Int) : List Int := l ++ othL n l
theorem endsL_perm {n : Nat} {l : List Int} (h : IsS (n : Int) l) : (endsL n l).Perm (rowL n) := by
  refine perm_of_mem ?_ (rowL_nodup n) fun x => ?_
  · refine List.nodup_append.2 ⟨h.1, othL_nodup n l, fun a ha b hb e => ?_⟩
    subst e
    exact (mem_othL.1 hb).2 ha
  · unfold endsL
    rw [List.mem_append, mem_othL, mem_rowL]
    constructor
    · rintro (h1 | h1)
      · exact h.2 x h1
      · exact h1.1
    · intro h1
      by_cases hx : x ∈ l
      · exact .inl hx
      · exact .inr ⟨h1, hx⟩
theorem endsL_len {n : Nat} {l : List Int} (h : IsS (n : Int) l) : (endsL n l).length = n := by rw [(endsL_perm h).length_eq, rowL_len]
theorem endsL_nodup {n : Nat} {l : List Int} (h : IsS (n : Int) l) : (endsL n l).Nodup := (endsL_perm h).symm.nodup (rowL_nodup n)
theorem endsL_bound {n : Nat} {l : List Int} (h : IsS (n : Int) l) {i : Nat} (hi : i < n) : 0 ≤ (endsL n l).getD i 0 ∧ (endsL n l).getD i 0 < (n : Int) :=
  mem_rowL.1 ((endsL_perm h).mem_iff.1 (getD_mem _ _ (by rw [endsL_len h]; exact hi)))
theorem endsL_left {n : Nat} {l : List Int} {i : Nat} (hi : i < l.length) : (endsL n l).getD i 0 = l.getD i 0 := getD_append_left _ _ _ hi
theorem endsL_right {n : Nat} {l : List Int} {i : Nat} : (endsL n l).getD (l.length + i) 0 = (othL n l).getD i 0 := by
  simp [endsL, List.getD, List.getElem?_append_right]
theorem othL_len {n : Nat} {l : List Int} (h : IsS (n : Int) l) : l.length + (othL n l).length = n := by
  have := endsL_len h
  unfold endsL at this
  rwa [List.length_append] at this

/-- the order behind so many of its places -/
def moveMid (n : Nat) (E T : List Int) : Nat → List Int
  | 0 => List.replicate n 0
  | k + 1 => (moveMid n E T k).set (E.getD k 0).toNat (T.getD k 0)
def moveL (n : Nat) (fr to : List Int) : List Int := moveMid n (endsL n fr) (endsL n to) n
theorem moveMid_len (n : Nat) (E T : List Int) (k : Nat) : (moveMid n E T k).length = n := by
  induction k with
  | zero => simp [moveMid]
  | succ k ih => simp [moveMid, ih]
theorem moveMid_get {n : Nat} {E T : List Int} (hn : E.Nodup) (hb : ∀ i, i < n → 0 ≤ E.getD i 0 ∧ E.getD i 0 < (n : Int)) (hl : E.length = n) :
    ∀ k, k ≤ n → ∀ i, i < k → (moveMid n E T k).getD (E.getD i 0).toNat 0 = T.getD i 0 := by
  intro k
  induction k with
  | zero => intro _ i hi; omega
  | succ k ih =>
    intro hk i hi
    have hbk := hb k (by omega)
    have hbi := hb i (by omega)
    have hlk := moveMid_len n E T k
    unfold moveMid
    by_cases hik : i = k
    · subst hik
      exact gset_eq _ _ _ (by omega)
    · have hne : (E.getD k 0).toNat ≠ (E.getD i 0).toNat := fun e => hik (nodup_inj hn (by omega) (by omega) (by omega))
      rw [gset_ne _ _ hne]
      exact ih (by omega) i (by omega)
theorem moveL_len (n : Nat) (fr to : List Int) : (moveL n fr to).length = n := moveMid_len _ _ _ _
theorem moveL_get {n : Nat} {fr to : List Int} (hf : IsS (n : Int) fr) {i : Nat} (hi : i < n) : (moveL n fr to).getD ((endsL n fr).getD i 0).toNat 0 = (endsL n to).getD i 0 :=
  moveMid_get (endsL_nodup hf) (fun i hi => endsL_bound hf hi) (endsL_len hf) n (Nat.le_refl _) i hi

/-- a list that moves so is that order -/
theorem moveL_of {n : Nat} {fr to R : List Int} (hf : IsS (n : Int) fr) (hl : R.length = n) (h : ∀ i, i < n → R.getD ((endsL n fr).getD i 0).toNat 0 = (endsL n to).getD i 0) : R = moveL n fr to := by
  refine ext_getD (by rw [hl, moveL_len]) fun x hx => ?_
  rw [hl] at hx
  have hm : (x : Int) ∈ endsL n fr := (endsL_perm hf).mem_iff.2 (mem_rowL.2 ⟨by omega, by omega⟩)
  obtain ⟨i, hi, e⟩ := mem_getD hm
  rw [endsL_len hf] at hi
  have h1 := h i hi
  have h2 := moveL_get (to := to) hf hi
  rw [e] at h1 h2
  simp only [Int.toNat_natCast] at h1 h2
  rw [h1, h2]

theorem rowL_drop {n x : Nat} (h : x < n) : (rowL n).drop x = (x : Int) :: (rowL n).drop (x + 1) := by
  rw [List.drop_eq_getElem_cons (by rw [rowL_len]; exact h)]
  have := rowL_get n x h
  simp only [List.getD, List.getElem?_eq_getElem (show x < (rowL n).length by rw [rowL_len]; exact h), Option.getD_some] at this
  rw [this]

/-- the reference's second loop -/
structure RMov (n : Nat) (fr to : List Int) (x a j : Nat) (R : List Int) : Prop where
  len : R.length = n
  fst : ∀ i, i < fr.length → R.getD (fr.getD i 0).toNat 0 = to.getD i 0
  oth : ∀ t, t < j → R.getD ((othL n fr).getD t 0).toNat 0 = (othL n to).getD t 0
  rx : ((rowL n).drop x).filter (fun y => !inL fr y) = (othL n fr).drop j
  ra : ((rowL n).drop a).filter (fun y => !inL to y) = (othL n to).drop j
  hx : x ≤ n
  ha : a ≤ n
  hj : j ≤ (othL n fr).length

theorem inL_iff {l : List Int} {x : Int} : inL l x = true ↔ x ∈ l := by simp [inL]

theorem RMov.skipx {n : Nat} {fr to R : List Int} {x a j : Nat} (h : RMov n fr to x a j R) (hx : x < n) (hi : inL fr (x : Int) = true) : RMov n fr to (x + 1) a j R := by
  refine ⟨h.len, h.fst, h.oth, ?_, h.ra, hx, h.ha, h.hj⟩
  rw [← h.rx, rowL_drop hx, List.filter_cons, hi]
  simp

theorem RMov.skipa {n : Nat} {fr to R : List Int} {x a j : Nat} (h : RMov n fr to x a j R) (ht : IsS (n : Int) to) (hi : inL to (a : Int) = true) : a < n ∧ RMov n fr to x (a + 1) j R := by
  have hb := ht.2 _ (inL_iff.1 hi)
  have han : a < n := by omega
  refine ⟨han, h.len, h.fst, h.oth, h.rx, ?_, h.hx, han, h.hj⟩
  rw [← h.ra, rowL_drop han, List.filter_cons, hi]
  simp

theorem dropC_eq {l : List Int} {j : Nat} {y : Int} {r : List Int} (h : l.drop j = y :: r) : j < l.length ∧ l.getD j 0 = y ∧ l.drop (j + 1) = r := by
  have hj : j < l.length := by
    rcases Nat.lt_or_ge j l.length with h' | h'
    · exact h'
    · rw [List.drop_eq_nil_of_le h'] at h; cases h
  rw [List.drop_eq_getElem_cons hj] at h
  injection h with h1 h2
  exact ⟨hj, by simp [List.getD, List.getElem?_eq_getElem hj, h1], h2⟩

theorem RMov.put {n : Nat} {fr to R : List Int} {x a j : Nat} (h : RMov n fr to x a j R) (hf : IsS (n : Int) fr) (ht : IsS (n : Int) to) (hlen : fr.length = to.length) (hx : x < n) (hi : inL fr (x : Int) = false) (hi2 : inL to (a : Int) = false) :
    a < n ∧ RMov n fr to (x + 1) (a + 1) (j + 1) (R.set x (a : Int)) := by
  have h1 := h.rx
  rw [rowL_drop hx, List.filter_cons, hi] at h1
  simp only [Bool.not_false, if_true] at h1
  obtain ⟨j1, j2, j3⟩ := dropC_eq h1.symm
  have l1 := othL_len hf
  have l2 := othL_len ht
  have han : a < n := by
    rcases Nat.lt_or_ge a n with h' | h'
    · exact h'
    · have h2 := h.ra
      rw [List.drop_eq_nil_of_le (by rw [rowL_len]; exact h')] at h2
      have := List.length_drop (l := othL n to) (i := j)
      rw [← h2] at this
      simp at this
      omega
  have h2 := h.ra
  rw [rowL_drop han, List.filter_cons, hi2] at h2
  simp only [Bool.not_false, if_true] at h2
  obtain ⟨i1, i2, i3⟩ := dropC_eq h2.symm
  have hlen' := h.len
  refine ⟨han, by rw [List.length_set, hlen'], ?_, ?_, j3.symm, i3.symm, hx, han, j1⟩
  · intro i hi'
    have hb := hf.2 _ (getD_mem fr i hi')
    have hne : x ≠ (fr.getD i 0).toNat := fun e => by
      have : (x : Int) ∈ fr := by
        have e2 : (x : Int) = fr.getD i 0 := by omega
        rw [e2]; exact getD_mem fr i hi'
      rw [inL_iff.2 this] at hi
      cases hi
    rw [gset_ne _ _ hne]
    exact h.fst i hi'
  · intro t ht'
    by_cases htj : t = j
    · subst htj
      rw [j2, i2, Int.toNat_natCast]
      exact gset_eq _ _ _ (by omega)
    · have hb := (mem_othL.1 (getD_mem (othL n fr) t (by omega))).1
      have hne : x ≠ ((othL n fr).getD t 0).toNat := fun e => htj (nodup_inj (othL_nodup n fr) (by omega) j1 (by rw [j2]; omega))
      rw [gset_ne _ _ hne]
      exact h.oth t (by omega)

theorem RMov.done {n : Nat} {fr to R : List Int} {a j : Nat} (h : RMov n fr to n a j R) (hf : IsS (n : Int) fr) (hlen : fr.length = to.length) : R = moveL n fr to := by
  have h1 := h.rx
  rw [List.drop_eq_nil_of_le (by rw [rowL_len]; exact Nat.le_refl _)] at h1
  have h2 := List.length_drop (l := othL n fr) (i := j)
  rw [← h1] at h2
  simp at h2
  have l1 := othL_len hf
  refine moveL_of hf h.len fun i hi => ?_
  by_cases hi' : i < fr.length
  · rw [endsL_left hi', endsL_left (by omega)]
    exact h.fst i hi'
  · obtain ⟨t, rfl⟩ : ∃ t, i = fr.length + t := ⟨i - fr.length, by omega⟩
    rw [endsL_right, show fr.length + t = to.length + t by omega, endsL_right]
    exact h.oth t (by omega)

/-- the reference's first loop -/
structure RFst (n : Nat) (fr to : List Int) (k : Nat) (R : List Int) : Prop where
  len : R.length = n
  fst : ∀ i, i < k → R.getD (fr.getD i 0).toNat 0 = to.getD i 0
theorem RFst.step {n : Nat} {fr to R : List Int} {k : Nat} (h : RFst n fr to k R) (hf : IsS (n : Int) fr) (hk : k < fr.length) : RFst n fr to (k + 1) (R.set (fr.getD k 0).toNat (to.getD k 0)) := by
  have hlen := h.len
  have hbk := hf.2 _ (getD_mem fr k hk)
  refine ⟨by rw [List.length_set, hlen], fun i hi => ?_⟩
  have hbi := hf.2 _ (getD_mem fr i (by omega))
  by_cases hik : i = k
  · subst hik
    exact gset_eq _ _ _ (by omega)
  · have hne : (fr.getD k 0).toNat ≠ (fr.getD i 0).toNat := fun e => hik (nodup_inj hf.1 (by omega) hk (by omega))
    rw [gset_ne _ _ hne]
    exact h.fst i (by omega)
theorem RFst.go {n : Nat} {fr to R : List Int} (h : RFst n fr to fr.length R) : RMov n fr to 0 0 0 R :=
  ⟨h.len, h.fst, fun t ht => by omega, by simp [othL], by simp [othL], Nat.zero_le _, Nat.zero_le _, Nat.zero_le _⟩

/-- a list's items, moved -/
def mvL (m l : List Int) : List Int := l.map fun x => m.getD x.toNat 0
theorem mvL_len (m l : List Int) : (mvL m l).length = l.length := by simp [mvL]
theorem mvL_get (m l : List Int) (i : Nat) (h : i < l.length) : (mvL m l).getD i 0 = m.getD (l.getD i 0).toNat 0 := by
  simp [mvL, List.getD, List.getElem?_eq_getElem h]
/-- the pick moved is a pick of the set, and moved back it is as it was -/
theorem mvL_ok {n : Nat} {l to : List Int} (hl : IsS (n : Int) l) (ht : IsS (n : Int) to) (hu : Up to) (hlen : l.length = to.length) :
    IsS (n : Int) (mvL (moveL n (setL l) to) l) ∧ setL (mvL (moveL n (setL l) to) l) = to ∧ mvL (moveL n to (setL l)) (mvL (moveL n (setL l) to) l) = l := by
  have hup := setL_up l
  have hsl : (setL l).length = l.length := (setL_len l).2 hl.1
  have hs : IsS (n : Int) (setL l) := ⟨hup.1.nodup, fun x hx => hl.2 x ((hup.2 x).1 hx)⟩
  have hk : l.length ≤ n := by have := othL_len hs; omega
  -- each item of l stands in the set
  have key : ∀ i, i < l.length → ∃ q, q < l.length ∧ (setL l).getD q 0 = l.getD i 0 ∧ (mvL (moveL n (setL l) to) l).getD i 0 = to.getD q 0 := by
    intro i hi
    obtain ⟨q, hq, e⟩ := mem_getD ((hup.2 _).2 (getD_mem l i hi))
    rw [hsl] at hq
    refine ⟨q, hq, e, ?_⟩
    rw [mvL_get _ _ _ hi, ← e]
    have := moveL_get (n := n) (to := to) hs (i := q) (by omega)
    rw [endsL_left (by omega), endsL_left (by omega)] at this
    exact this
  have hnd : (mvL (moveL n (setL l) to) l).Nodup := by
    refine nodup_of_inj fun i j hi hj e => ?_
    rw [mvL_len] at hi hj
    obtain ⟨q, hq, e1, e2⟩ := key i hi
    obtain ⟨r, hr, f1, f2⟩ := key j hj
    rw [e2, f2] at e
    have hqr := nodup_inj ht.1 (by omega) (by omega) e
    subst hqr
    exact nodup_inj hl.1 hi hj (by rw [← e1, ← f1])
  have hmem : ∀ y, y ∈ mvL (moveL n (setL l) to) l → y ∈ to := by
    intro y hy
    obtain ⟨i, hi, rfl⟩ := mem_getD hy
    rw [mvL_len] at hi
    obtain ⟨q, hq, -, e2⟩ := key i hi
    rw [e2]
    exact getD_mem _ _ (by omega)
  have hmem2 : ∀ y, y ∈ to → y ∈ mvL (moveL n (setL l) to) l := by
    intro y hy
    obtain ⟨q, hq, rfl⟩ := mem_getD hy
    have hq' : q < (setL l).length := by omega
    obtain ⟨i, hi, e⟩ := mem_getD ((hup.2 _).1 (getD_mem _ q hq'))
    obtain ⟨r, hr, f1, f2⟩ := key i hi
    have : r = q := nodup_inj hs.1 (by omega) (by omega) (by rw [f1, e])
    subst this
    rw [← f2]
    exact getD_mem _ _ (by rw [mvL_len]; exact hi)
  refine ⟨⟨hnd, fun y hy => ht.2 y (hmem y hy)⟩, setL_of hu fun y => ⟨hmem2 y, hmem y⟩, ?_⟩
  refine ext_getD (by rw [mvL_len, mvL_len]) fun i hi => ?_
  rw [mvL_len, mvL_len] at hi
  obtain ⟨q, hq, e1, e2⟩ := key i hi
  rw [mvL_get _ _ _ (by rw [mvL_len]; exact hi), e2]
  have := moveL_get (n := n) (to := setL l) ht (i := q) (by omega)
  rw [endsL_left (by omega), endsL_left (by omega), e1] at this
  exact this

end Go.Proofs.YtcoohepkmhpdkaaGreat
