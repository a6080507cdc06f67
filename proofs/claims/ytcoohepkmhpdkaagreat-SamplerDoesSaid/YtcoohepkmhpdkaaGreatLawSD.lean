/-
  SamplerDoes: the law's walk.
-/
import Derived.Test.YtcoohepkmhpdkaaGreatRDo46
import Derived.Test.YtcoohepkmhpdkaaGreatAskRaw
import Derived.Deep.RegionHeld3
import Derived.Laws.EntriesVeiled
namespace Go.Proofs.YtcoohepkmhpdkaaGreat
open Go.RowKit
set_option linter.unusedVariables false
set_option linter.unusedSimpArgs false

/-- what one Do answers, in words that both share -/
def ADo (R : Option (List Int × Nat)) (L : Nat) (w : World) (t1 : Value) (t2 t3 : Int) : Prop :=
  TkE R (fun r => t2 = (r.2 : Int) ∧ t3 = 0 ∧ ∃ sp m cp, t1 = .slice sp m cp ∧ Rd w 1 (.slice sp m cp) m (u64s r.1)) (t1 = .slice none 0 0 ∧ t2 = (L : Int) ∧ t3 = 7)

theorem ado_of {R : Option (List Int × Nat)} {w7 : World} {l : List Nat} {e : Ending}
    (h : TkE R (fun r => ∃ sp m cp, e = .returned (.tuple #[.slice sp m cp, .int .i64 (r.2 : Int), .int .i64 0]) ∧ Rd w7 1 (.slice sp m cp) m (u64s r.1)) (e = .returned (.tuple #[.slice none 0 0, .int .i64 (l.length : Int), .int .i64 7]))) :
    ∃ (t1 : Value) (t2 t3 : Int), e = .returned (.tuple #[t1, .int .i64 t2, .int .i64 t3]) ∧ Hid (ADo R l.length w7 t1 t2 t3) := by
  cases R with
  | none => exact ⟨_, _, _, h, Lib.hid ⟨rfl, rfl, rfl⟩⟩
  | some r =>
    obtain ⟨sp, m, cp, he, hr⟩ := h
    exact ⟨_, _, _, he, Lib.hid ⟨rfl, rfl, sp, m, cp, rfl, hr⟩⟩

/-- few numbers are told -/
theorem askD_len {l : List Nat} {K N k : Int} {ws : List Nat} (h0 : askE K N k ws = 0) {r : List Int × Nat} (h : askD l K N k ws = some r) : r.1.length ≤ 256 := by
  by_cases h1 : K = 1
  · subst h1
    simp only [askD, if_true, Option.map_eq_some_iff] at h
    obtain ⟨d, -, rfl⟩ := h
    simp
  by_cases h2 : K = 2
  · subst h2
    simp only [askD] at h
    simp only [show ¬ ((2 : Int) = 1) by decide, if_false, if_true, Option.map_eq_some_iff] at h
    obtain ⟨d, -, rfl⟩ := h
    simp
  by_cases h3 : K = 3
  · subst h3
    have hE : askE 3 N k ws = resChk N 0 := by simp [askE]
    rw [hE] at h0
    obtain ⟨a, b, c, d⟩ := resChk_zero.1 h0
    have hD : askD l 3 N k ws = (rowN l (limH N.toNat)).map fun r => ((permL (choD N.toNat r.1)).map wrapU, r.2) := by simp [askD]
    rw [hD] at h
    obtain ⟨q, -, rfl⟩ := Option.map_eq_some_iff.1 h
    simp only [List.length_map]
    rw [permL_len]
    unfold choD
    rw [choH_len]
    omega
  by_cases h4 : K = 4
  · subst h4
    have hE : askE 4 N k ws = resChk N k := by simp [askE]
    rw [hE] at h0
    obtain ⟨a, b, c, d⟩ := resChk_zero.1 h0
    have hD : askD l 4 N k ws = (rowN l (limS N.toNat k.toNat)).map fun r => ((pickL N.toNat (numsI r.1)).map wrapU, r.2) := by simp [askD]
    rw [hD] at h
    obtain ⟨q, hq, rfl⟩ := Option.map_eq_some_iff.1 h
    have hq' := rowN_len hq
    rw [limS_len] at hq'
    simp only [List.length_map]
    unfold pickL
    rw [pickR_len, numsI_len]
    omega
  by_cases h5 : K = 5
  · subst h5
    have hE : askE 5 N k ws = resChk N k := by simp [askE]
    rw [hE] at h0
    obtain ⟨a, b, c, d⟩ := resChk_zero.1 h0
    have hD : askD l 5 N k ws = (rowN l (limR N.toNat k.toNat)).map fun r => ((slotsL k.toNat (numsI r.1)).map wrapU, r.2) := by simp [askD]
    rw [hD] at h
    obtain ⟨q, hq, rfl⟩ := Option.map_eq_some_iff.1 h
    simp only [List.length_map]
    rw [slotsL_len]
    omega
  simp only [askD, h1, h2, h3, h4, h5, if_false, Option.map_eq_some_iff] at h
  obtain ⟨q, -, rfl⟩ := h
  simp

set_option maxRecDepth 100000 in
set_option maxHeartbeats 8000000 in
theorem law_SamplerDoes (w : World) (sl : Option Addr) (m cl : Nat) (l : List Nat) (hl : Rd w 1 (.slice sl m cl) m (u64s (zsN l))) (hwl : W64 l)
    (K N k : Int) (sa : Option Addr) (n cap : Nat) (ws : List Nat) (h : Rd w 1 (.slice sa n cap) n (u64s (zsN ws))) (hw : W64 ws) (hn : n ≤ 17592186043904) :
    Calls Tryz.prog 3 #[.slice sl m cl, .agg #[.int .i64 K, .int .i64 N, .int .i64 k, .slice sa n cap]] w fun e w' => e = .returned (.bool true) ∧ Below w.heap.size w w' := by
  have hml : m = l.length := by have := hl.len_u64; rw [zsN_len] at this; exact this
  subst hml
  obtain ⟨w0, hw0⟩ : ∃ w0, w0 = w.alloc (.cells #[.int .i64 K, .int .i64 N, .int .i64 k, .slice sa n cap] 24) := ⟨_, rfl⟩
  have hbw : Below w.heap.size w w0 := by rw [hw0]; exact (Below.refl _ _).alloc (Nat.le_refl _) _
  have hbox : w0.heap[w.heap.size]? = some (.cells #[.int .i64 K, .int .i64 N, .int .i64 k, .slice sa n cap] 24 (0, 0)) := by rw [hw0]; exact heap_at rfl
  have hbl := block_lt hbox
  have h' := h.below hbw
  have hl' := hl.below hbw
  have hmax := hl.2.1
  unfold maxLen at hmax
  have CA := Lib.hid (fun w1 => awake46 w1)
  have CK := Lib.hid (fun w1 (hb : Below w0.heap.size w0 w1) => chk_law w1 K N k sa n cap ws (h'.below hb) hw)
  have DB := Lib.hid (fun w1 (hb : Below w0.heap.size w0 w1) v (h0 : askE K N k ws ≠ 0) => sdo_bad w1 v K N k sa n cap ws (h'.below hb) hw hn h0)
  have HLS := Lib.hid hl'; have HWL := Lib.hid hwl; have HWS := Lib.hid h'; have HWW := Lib.hid hw
  have HW0 := Lib.hid hw0; have HBW := Lib.hid hbw; have HBX := Lib.hid hbox; have HBL := Lib.hid hbl
  have cells : ∀ w1, Below w0.heap.size w0 w1 → w1.heap[w.heap.size]? = some (.cells #[.int .i64 K, .int .i64 N, .int .i64 k, .slice sa n cap] 24 (0, 0)) := fun w1 hb => (hb.block _ hbl).trans hbox
  have HC := Lib.hid cells
  clear hw0 hbw hbox hbl h' cells h hw hn hl hl' hwl
  go_enter Tryz.func3, Tryz.ntmps3
  go_wp2_with fail
  rw [← HW0.out]
  refine (CA.out w0).mono ?_
  rintro e w1 ⟨rfl, hb1⟩
  have c0 : w1.cell? ⟨w.heap.size, 0, none⟩ = some (.int .i64 K) := cell_of (HC.out w1 hb1) 0 rfl
  have c1 : w1.cell? ⟨w.heap.size, 1, none⟩ = some (.int .i64 N) := cell_of (HC.out w1 hb1) 1 rfl
  have c2 : w1.cell? ⟨w.heap.size, 2, none⟩ = some (.int .i64 k) := cell_of (HC.out w1 hb1) 2 rfl
  have c3 : w1.cell? ⟨w.heap.size, 3, none⟩ = some (.slice sa n cap) := cell_of (HC.out w1 hb1) 3 rfl
  have HB1 := Lib.hid hb1
  clear hb1 CA
  by_cases hbig : 100 < l.length
  · go_wp2_with fail
    go_ret
    exact ⟨rfl, HBW.out.trans (HB1.out.mono HBW.out.size)⟩
  by_cases hN : (40 : Int) < N ∧ N ≤ 256
  · obtain ⟨hN1, hN2⟩ := hN
    go_wp2_with fail
    go_ret
    exact ⟨rfl, HBW.out.trans (HB1.out.mono HBW.out.size)⟩
  have hl5 : l.length < 50000 := by omega
  have hcase : (¬ (40 : Int) < N ∧ (¬ (40 : Int) < N ∨ (40 : Int) < N)) ∨ ((40 : Int) < N ∧ ¬ N ≤ 256) := by omega
  clear hN
  have NW := Lib.hid (fun w2 (hb : Below w0.heap.size w0 w2) => new_any w2 (.slice sl l.length cl) (zsN l) (by rw [zsN_len]; exact HLS.out.below hb) (by rw [zsN_len]; exact hl5))
  have hsz5 : w0.heap.size ≤ w1.heap.size := HB1.out.size
  by_cases h0 : askE K N k ws = 0
  · have CK1 := Lib.hid (fun w1 hb => (by have := CK.out w1 hb; rw [h0] at this; exact this : Calls Tryz.prog 8 #[.agg #[.int .i64 K, .int .i64 N, .int .i64 k, .slice sa n cap]] w1 fun e w' => e = .returned (.int .i64 0) ∧ Below w1.heap.size w1 w'))
    have DO := Lib.hid (fun w2 (hb : Below w0.heap.size w0 w2) B b wv ht => sdo_ok w2 B b wv (.slice none 0 0) l ht hl5 HWL.out K N k sa n cap ws (HWS.out.below hb) HWW.out h0)
    have RD := Lib.hid (fun w2 (hb : Below w0.heap.size w0 w2) => rdo46_any w2 sl cl l (HLS.out.below hb) hl5 HWL.out K N k sa n cap ws (HWS.out.below hb) HWW.out h0)
    have hlen := fun r (h : askD l K N k ws = some r) => askD_len h0 h
    obtain ⟨R, hR⟩ : ∃ R, R = askD l K N k ws := ⟨_, rfl⟩
    rw [← hR] at DO RD hlen
    have HLEN := Lib.hid hlen
    clear hR h0 DB CK hlen
    rcases hcase with ⟨q1, -⟩ | ⟨q1, q2⟩
    all_goals
      go_upto_region 5 with fail
      go_region_held3 (fun w' => w'.cell? ⟨w.heap.size, 0, none⟩ = some (.int .i64 K) ∧ w'.cell? ⟨w.heap.size, 1, none⟩ = some (.int .i64 N) ∧ w'.cell? ⟨w.heap.size, 2, none⟩ = some (.int .i64 k) ∧ w'.cell? ⟨w.heap.size, 3, none⟩ = some (.slice sa n cap))
        (first | exact ⟨k0, k1, k2, k3⟩ | exact ⟨e0, e1, e2, e3⟩ | go_keep)
        (first
          | (go_at_call 7; refine (NW.out _ (by first | exact HB1.out.drew | exact HB1.out)).mono ?_; rintro e w6 ⟨b, wv, rfl, ht, hb⟩;
              have hb6 : Below w0.heap.size w0 w6 := (by first | exact HB1.out.drew.trans (hb.mono HB1.out.size) | exact HB1.out.trans (hb.mono HB1.out.size));
              have e0 : w6.cell? ⟨w.heap.size, 0, none⟩ = some (.int .i64 K) := cell_of (HC.out w6 hb6) 0 rfl; have e1 : w6.cell? ⟨w.heap.size, 1, none⟩ = some (.int .i64 N) := cell_of (HC.out w6 hb6) 1 rfl; have e2 : w6.cell? ⟨w.heap.size, 2, none⟩ = some (.int .i64 k) := cell_of (HC.out w6 hb6) 2 rfl; have e3 : w6.cell? ⟨w.heap.size, 3, none⟩ = some (.slice sa n cap) := cell_of (HC.out w6 hb6) 3 rfl;
              have HT6 := Lib.hid ht; have HB6 := Lib.hid hb6; have hlb : w1.heap.size ≤ b := ht.2.1; clear ht hb hb6)
          | (go_at_call 6; refine (DO.out _ HB6.out _ b wv HT6.out).mono ?_; rintro e w7 ⟨hd, hc⟩;
              have hb7 : Below w0.heap.size w0 w7 := HB6.out.trans (hc.below HB6.out.size fun g hg => (by rcases hg with rfl | hg; exact Nat.le_trans hsz5 hlb; cases hg));
              have k0 : w7.cell? ⟨w.heap.size, 0, none⟩ = some (.int .i64 K) := cell_of (HC.out w7 hb7) 0 rfl; have k1 : w7.cell? ⟨w.heap.size, 1, none⟩ = some (.int .i64 N) := cell_of (HC.out w7 hb7) 1 rfl; have k2 : w7.cell? ⟨w.heap.size, 2, none⟩ = some (.int .i64 k) := cell_of (HC.out w7 hb7) 2 rfl; have k3 : w7.cell? ⟨w.heap.size, 3, none⟩ = some (.slice sa n cap) := cell_of (HC.out w7 hb7) 3 rfl;
              have HB7 := Lib.hid hb7; have HD7 := Lib.hid hd; clear hc hb7 hd; obtain ⟨t1, t2, t3, rfl, HT3⟩ := ado_of HD7.out; clear HD7))
      all_goals
        clear c0 c1 c2 c3 e0 e1 e2 e3
        go_wp2_with fail
        refine (CK1.out w7 HB7.out).mono ?_
        rintro e w8 ⟨rfl, hb⟩
        have HB8 := Lib.hid (HB7.out.trans (hb.mono HB7.out.size)); have HB78 := Lib.hid hb
        have c0 : w8.cell? ⟨w.heap.size, 0, none⟩ = some (.int .i64 K) := cell_of (HC.out w8 HB8.out) 0 rfl
        have c1 : w8.cell? ⟨w.heap.size, 1, none⟩ = some (.int .i64 N) := cell_of (HC.out w8 HB8.out) 1 rfl
        have c2 : w8.cell? ⟨w.heap.size, 2, none⟩ = some (.int .i64 k) := cell_of (HC.out w8 HB8.out) 2 rfl
        have c3 : w8.cell? ⟨w.heap.size, 3, none⟩ = some (.slice sa n cap) := cell_of (HC.out w8 HB8.out) 3 rfl
        clear hb k0 k1 k2 k3
        go_wp2_with fail
        refine (RD.out w8 HB8.out).mono ?_
        rintro e w9 ⟨hd, hb⟩
        have HB9 := Lib.hid (HB8.out.trans (hb.mono HB8.out.size)); have HB79 := Lib.hid (below_two HB78.out hb)
        clear hb c0 c1 c2 c3
        cases R with
        | none =>
          obtain rfl : e = .returned (.tuple #[.slice none 0 0, .int .i64 (l.length : Int), .bool false]) := hd
          obtain ⟨rfl, rfl, rfl⟩ := HT3.out
          clear HT3
          go_wp2_with fail
          go_ret
          exact ⟨ret_bool (by simp), HBW.out.trans (HB9.out.mono HBW.out.size)⟩
        | some r =>
          obtain ⟨sp, mm, cp, rfl, hr⟩ := hd
          obtain ⟨rfl, rfl, sp2, m2, cp2, rfl, hr2⟩ := HT3.out
          have hlr := HLEN.out r rfl
          have l1 := hr.len_u64
          have l2 := hr2.len_u64
          subst l1; subst l2
          have W := words_any w9 _ _ r.1 r.1 _ _ (hr2.below HB79.out) hr (by omega) (by omega)
          rw [eqL_self] at W
          have HWW2 := Lib.hid W
          obtain ⟨r1, r2⟩ := r
          simp only at HWW2 hlr
          clear HT3 hr hr2 W
          go_wp2_with fail
          refine HWW2.out.mono ?_
          rintro e w10 ⟨rfl, q, rfl⟩
          go_wp2_with fail
          go_ret
          exact ⟨ret_bool (by simp), HBW.out.trans (below_drewN' (HB9.out.mono HBW.out.size) q)⟩
  · have DB1 := Lib.hid (fun w1 hb v => DB.out w1 hb v h0)
    obtain ⟨E, hE⟩ : ∃ E, E = askE K N k ws := ⟨_, rfl⟩
    have q : (E != 0) = true := by rw [hE]; simpa using h0
    rw [← hE] at DB1 CK
    clear h0 hE DB
    rcases hcase with ⟨q1, -⟩ | ⟨q1, q2⟩
    all_goals
      go_upto_region 5 with fail
      go_region_held3 (fun w' => w'.cell? ⟨w.heap.size, 0, none⟩ = some (.int .i64 K) ∧ w'.cell? ⟨w.heap.size, 1, none⟩ = some (.int .i64 N) ∧ w'.cell? ⟨w.heap.size, 2, none⟩ = some (.int .i64 k) ∧ w'.cell? ⟨w.heap.size, 3, none⟩ = some (.slice sa n cap))
        (first | exact ⟨k0, k1, k2, k3⟩ | exact ⟨e0, e1, e2, e3⟩ | go_keep)
        (first
          | (go_at_call 7; refine (NW.out _ (by first | exact HB1.out.drew | exact HB1.out)).mono ?_; rintro e w6 ⟨b, wv, rfl, ht, hb⟩;
              have hb6 : Below w0.heap.size w0 w6 := (by first | exact HB1.out.drew.trans (hb.mono HB1.out.size) | exact HB1.out.trans (hb.mono HB1.out.size));
              have e0 : w6.cell? ⟨w.heap.size, 0, none⟩ = some (.int .i64 K) := cell_of (HC.out w6 hb6) 0 rfl; have e1 : w6.cell? ⟨w.heap.size, 1, none⟩ = some (.int .i64 N) := cell_of (HC.out w6 hb6) 1 rfl; have e2 : w6.cell? ⟨w.heap.size, 2, none⟩ = some (.int .i64 k) := cell_of (HC.out w6 hb6) 2 rfl; have e3 : w6.cell? ⟨w.heap.size, 3, none⟩ = some (.slice sa n cap) := cell_of (HC.out w6 hb6) 3 rfl;
              have HB6 := Lib.hid hb6; clear ht hb hb6)
          | (go_at_call 6; refine (DB1.out _ HB6.out _).mono ?_; rintro e w7 ⟨rfl, hb⟩;
              have hb7 : Below w0.heap.size w0 w7 := HB6.out.trans (hb.mono HB6.out.size);
              have k0 : w7.cell? ⟨w.heap.size, 0, none⟩ = some (.int .i64 K) := cell_of (HC.out w7 hb7) 0 rfl; have k1 : w7.cell? ⟨w.heap.size, 1, none⟩ = some (.int .i64 N) := cell_of (HC.out w7 hb7) 1 rfl; have k2 : w7.cell? ⟨w.heap.size, 2, none⟩ = some (.int .i64 k) := cell_of (HC.out w7 hb7) 2 rfl; have k3 : w7.cell? ⟨w.heap.size, 3, none⟩ = some (.slice sa n cap) := cell_of (HC.out w7 hb7) 3 rfl;
              have HB7 := Lib.hid hb7; clear hb hb7))
      all_goals
        clear c0 c1 c2 c3 e0 e1 e2 e3
        go_wp2_with fail
        refine (CK.out w7 HB7.out).mono ?_
        rintro e w8 ⟨rfl, hb⟩
        have HB8 := Lib.hid (HB7.out.trans (hb.mono HB7.out.size))
        clear hb k0 k1 k2 k3
        go_wp2_with fail
        go_ret
        exact ⟨ret_bool (by simp), HBW.out.trans (HB8.out.mono HBW.out.size)⟩

end Go.Proofs.YtcoohepkmhpdkaaGreat
