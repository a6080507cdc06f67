/-
  SamplerRuns: the law's walk.
-/
import Derived.Test.YtcoohepkmhpdkaaRej2
import Derived.Deep.RegionHeld3
import Derived.Laws.EntriesVeiled
namespace Go.Proofs.Ytcoohepkmhpdkaa
open Go.RowKit
set_option linter.unusedVariables false
set_option linter.unusedSimpArgs false

theorem takeM_loss {n : Nat} : ∀ {l : List Nat} {u : Nat}, (takeM n u l).isSome = decide (lossF (fun a => tmB a n) l < l.length)
  | [], u => by simp [takeM, lossF]
  | a :: l, u => by
    by_cases ht : tmB a n = true
    · simp only [takeM, lossF, ht, if_true, List.length_cons, Option.isSome_some]
      simp
    · have ht' : tmB a n = false := by simpa using ht
      have ih := takeM_loss (n := n) (l := l) (u := u + 1)
      simp only [takeM, lossF, ht', List.length_cons, Bool.false_eq_true, if_false]
      rw [ih]
      exact decide_eq_decide.2 (by omega)
theorem takeN_some {n : Nat} {l : List Nat} {u : Nat} : (takeN n u l).isSome = decide (lossF (fun a => tknB a n) l < l.length) := by
  have h := takeN_loss (n := n) (l := l) (u := u)
  cases ht : takeN n u l with
  | none => rw [ht] at h; simp only at h; rw [decide_eq_false h]; rfl
  | some d => rw [ht] at h; simp only at h; rw [decide_eq_true h.1]; rfl

/-- there are words for all draws just where something is told -/
theorem askD_run {K N k : Int} {ws : List Nat} (l : List Nat) (h : askE K N k ws = 0) : (askD l K N k ws).isSome = runT (tkK K) (askL K N k ws) l := by
  by_cases h12 : K = 1 ∨ K = 2
  · have hL : askL K N k ws = ws := by simp [askL, h, h12]
    have h1 : ws.length = 1 := by
      by_cases hh : ws.length = 1
      · exact hh
      · simp [askE, h12, hh] at h
    obtain ⟨x, rfl⟩ := List.length_eq_one_iff.1 h1
    rw [hL, run_one]
    rcases h12 with rfl | rfl
    · have e : askD l 1 N k [x] = (takeN x 0 l).map fun d => ([(d.1 : Int)], d.2.2) := by simp [askD]
      rw [e, Option.isSome_map, takeN_some]
      rfl
    · have e : askD l 2 N k [x] = (takeM x 0 l).map fun d => ([(d.1 : Int)], d.2.2) := by simp [askD]
      rw [e, Option.isSome_map, takeM_loss]
      rfl
  have hT : tkK K = tknB := by
    funext a n
    have : K ≠ 2 := fun e => h12 (.inr e)
    simp [tkK, this]
  rw [hT]
  by_cases h3 : K = 3
  · subst h3
    have hL : askL 3 N k ws = limH N.toNat := by simp [askL, h]; rfl
    rw [hL, ← rowN_run]
    simp [askD]
  by_cases h4 : K = 4
  · subst h4
    have hL : askL 4 N k ws = limS N.toNat k.toNat := by simp [askL, h]; rfl
    rw [hL, ← rowN_run]
    simp [askD]
  by_cases h5 : K = 5
  · subst h5
    have hL : askL 5 N k ws = limR N.toNat k.toNat := by rw [limR_up]; simp [askL, h]
    rw [hL, ← rowN_run]
    simp [askD]
  have h1 : K ≠ 1 := fun e => h12 (.inl e)
  have h2 : K ≠ 2 := fun e => h12 (.inr e)
  have hL : askL K N k ws = [ws.length, ws.sum] := by
    by_cases h6 : K = 6
    · subst h6
      simp [askL, h]
    · exfalso
      simp [askE, h1, h2, h3, h4, h5, h6] at h
  rw [hL, ← rowN_run]
  simp [askD, h1, h2, h3, h4, h5]

/-- too few words: some draw lost many -/
theorem askD_few {K N k : Int} {ws : List Nat} {l : List Nat} (h : askE K N k ws = 0) (hn : askD l K N k ws = none) : 0 < (askL K N k ws).length ∧ l.length / (askL K N k ws).length ≤ rejF (tkK K) (askL K N k ws) l := by
  refine run_law ?_
  rw [← askD_run l h, hn]
  rfl

/-- what Do answers, as far as this law asks -/
theorem do7 {R0 : Option (List Int × Nat)} {w7 : World} {l : List Nat} {e : Ending} {n R : Nat}
    (h : TkE R0 (fun r => ∃ sp m cp, e = .returned (.tuple #[.slice sp m cp, .int .i64 (r.2 : Int), .int .i64 0]) ∧ Rd w7 1 (.slice sp m cp) m (u64s r.1)) (e = .returned (.tuple #[.slice none 0 0, .int .i64 (l.length : Int), .int .i64 7])))
    (hf : R0 = none → 0 < n ∧ l.length / n ≤ R) : ∃ (t1 : Value) (t2 t3 : Int), e = .returned (.tuple #[t1, .int .i64 t2, .int .i64 t3]) ∧ Hid (t3 ≠ 0 → t3 = 7 ∧ 0 < n ∧ l.length / n ≤ R) := by
  cases R0 with
  | none => exact ⟨_, _, _, h, Lib.hid fun _ => ⟨rfl, hf rfl⟩⟩
  | some r =>
    obtain ⟨sp, m, cp, he, -⟩ := h
    exact ⟨_, _, _, he, Lib.hid fun h => absurd rfl h⟩

set_option maxRecDepth 100000 in
set_option maxHeartbeats 8000000 in
theorem law_SamplerRuns (w : World) (sl : Option Addr) (m cl : Nat) (l : List Nat) (hl : Rd w 1 (.slice sl m cl) m (u64s (zsN l))) (hwl : W64 l)
    (K N k : Int) (sa : Option Addr) (n cap : Nat) (ws : List Nat) (h : Rd w 1 (.slice sa n cap) n (u64s (zsN ws))) (hw : W64 ws) (hn : n ≤ 17592186043904) :
    Calls Try.prog 4 #[.slice sl m cl, .agg #[.int .i64 K, .int .i64 N, .int .i64 k, .slice sa n cap]] w fun e w' => e = .returned (.bool true) ∧ Below w.heap.size w w' := by
  have hml : m = l.length := by have := hl.len_u64; rw [zsN_len] at this; exact this
  subst hml
  obtain ⟨w0, hw0⟩ : ∃ w0, w0 = w.alloc (.cells #[.int .i64 K, .int .i64 N, .int .i64 k, .slice sa n cap] 24) := ⟨_, rfl⟩
  have hbw : Below w.heap.size w w0 := by rw [hw0]; exact (Below.refl _ _).alloc (Nat.le_refl _) _
  have hbox : w0.heap[w.heap.size]? = some (.cells #[.int .i64 K, .int .i64 N, .int .i64 k, .slice sa n cap] 24 (0, 0)) := by rw [hw0]; exact heap_at rfl
  have hbl := block_lt hbox
  have h' := h.below hbw
  have hl' := hl.below hbw
  have hmax := hl.2.1
  unfold maxLen at hmax
  have CA := Lib.hid (fun w1 => awake46 w1)
  have CK := Lib.hid (fun w1 (hb : Below w0.heap.size w0 w1) => chk_law w1 K N k sa n cap ws (h'.below hb) hw)
  have CJ := Lib.hid (fun w1 (hb : Below w0.heap.size w0 w1) (hll : l.length < 50000) (h0 : askE K N k ws = 0) => srej_ok w1 sl l.length cl l (hl'.below hb) hll hwl K N k sa n cap ws (h'.below hb) hw h0)
  have CJ0 := Lib.hid (fun w1 (hb : Below w0.heap.size w0 w1) (h0 : askE K N k ws ≠ 0) => srej_bad w1 (.slice sl l.length cl) K N k sa n cap ws (h'.below hb) hw hn h0)
  have CR := Lib.hid (fun w1 (hb : Below w0.heap.size w0 w1) (h0 : askE K N k ws = 0) => lim46_any w1 K N k sa n cap ws (h'.below hb) h0)
  have HLS := Lib.hid hl'; have HWL := Lib.hid hwl; have HWS := Lib.hid h'; have HWW := Lib.hid hw
  have HW0 := Lib.hid hw0; have HBW := Lib.hid hbw; have HBX := Lib.hid hbox; have HBL := Lib.hid hbl
  have cells : ∀ w1, Below w0.heap.size w0 w1 → w1.heap[w.heap.size]? = some (.cells #[.int .i64 K, .int .i64 N, .int .i64 k, .slice sa n cap] 24 (0, 0)) := fun w1 hb => (hb.block _ hbl).trans hbox
  have HC := Lib.hid cells
  clear hw0 hbw hbox hbl h' cells h hw hn hl hl' hwl
  have y1 : (w0.heap[w.heap.size]? = w0.heap[w.heap.size]?) := rfl
  clear y1
  go_enter Try.func4, Try.ntmps4
  go_wp2_with fail
  rw [← HW0.out]
  refine (CA.out w0).mono ?_
  rintro e w1 ⟨rfl, hb1⟩
  have c0 : w1.cell? ⟨w.heap.size, 0, none⟩ = some (.int .i64 K) := cell_of (HC.out w1 hb1) 0 rfl
  have c1 : w1.cell? ⟨w.heap.size, 1, none⟩ = some (.int .i64 N) := cell_of (HC.out w1 hb1) 1 rfl
  have c2 : w1.cell? ⟨w.heap.size, 2, none⟩ = some (.int .i64 k) := cell_of (HC.out w1 hb1) 2 rfl
  have c3 : w1.cell? ⟨w.heap.size, 3, none⟩ = some (.slice sa n cap) := cell_of (HC.out w1 hb1) 3 rfl
  have HB1 := Lib.hid hb1
  clear hb1 CA
  by_cases hbig : 100 < l.length
  · go_wp2_with fail
    go_ret
    exact ⟨rfl, HBW.out.trans (HB1.out.mono HBW.out.size)⟩
  by_cases hN : (40 : Int) < N ∧ N ≤ 256
  · obtain ⟨hN1, hN2⟩ := hN
    go_wp2_with fail
    go_ret
    exact ⟨rfl, HBW.out.trans (HB1.out.mono HBW.out.size)⟩
  have hl5 : l.length < 50000 := by omega
  have hcase : (¬ (40 : Int) < N ∧ (¬ (40 : Int) < N ∨ (40 : Int) < N)) ∨ ((40 : Int) < N ∧ ¬ N ≤ 256) := by omega
  clear hN
  by_cases h0 : askE K N k ws = 0
  · obtain ⟨L, hL⟩ : ∃ L, L = askL K N k ws := ⟨_, rfl⟩
    have hlen := askL_len h0
    have hlim := askL_lims HWW.out h0
    have hfew := fun hh => askD_few (l := l) h0 hh
    obtain ⟨R, hR⟩ : ∃ R, R = rejF (tkK K) L l := ⟨_, rfl⟩
    rw [← hL] at hlen hlim hfew
    rw [← hR] at hfew
    have CJ' := Lib.hid (CJ.out w1 HB1.out hl5 h0)
    have CK1 := Lib.hid (fun w1 hb => (by have := CK.out w1 hb; rw [h0] at this; exact this : Calls Try.prog 6 #[.agg #[.int .i64 K, .int .i64 N, .int .i64 k, .slice sa n cap]] w1 fun e w' => e = .returned (.int .i64 0) ∧ Below w1.heap.size w1 w'))
    have CR1 := Lib.hid (fun w1 hb => CR.out w1 hb h0)
    rw [← hL, ← hR] at CJ'
    have HL := Lib.hid hL; have HLEN := Lib.hid hlen; have HLIM := Lib.hid hlim; have HFEW := Lib.hid hfew; have HR := Lib.hid hR; have H0 := Lib.hid h0
    have NW := Lib.hid (fun w2 (hb : Below w0.heap.size w0 w2) => new_any w2 (.slice sl l.length cl) (zsN l) (by rw [zsN_len]; exact HLS.out.below hb) (by rw [zsN_len]; exact hl5))
    have DO := Lib.hid (fun w2 (hb : Below w0.heap.size w0 w2) B b wv ht => sdo_ok w2 B b wv (.slice none 0 0) l ht hl5 HWL.out K N k sa n cap ws (HWS.out.below hb) HWW.out h0)
    clear hL hlen hlim hfew hR h0 CJ CJ0 CK CR
    rcases hcase with ⟨q1, -⟩ | ⟨q1, q2⟩
    all_goals
      go_wp2_with fail
      refine CJ'.out.mono ?_
      rintro e w2 ⟨rfl, hb⟩
      have HB2 := Lib.hid (HB1.out.trans (hb.mono HB1.out.size))
      have d0 : w2.cell? ⟨w.heap.size, 0, none⟩ = some (.int .i64 K) := cell_of (HC.out w2 HB2.out) 0 rfl
      have d1 : w2.cell? ⟨w.heap.size, 1, none⟩ = some (.int .i64 N) := cell_of (HC.out w2 HB2.out) 1 rfl
      have d2 : w2.cell? ⟨w.heap.size, 2, none⟩ = some (.int .i64 k) := cell_of (HC.out w2 HB2.out) 2 rfl
      have d3 : w2.cell? ⟨w.heap.size, 3, none⟩ = some (.slice sa n cap) := cell_of (HC.out w2 HB2.out) 3 rfl
      clear hb CJ' HB1 c0 c1 c2 c3
      go_wp2_with fail
      refine (CK1.out w2 HB2.out).mono ?_
      rintro e w3 ⟨rfl, hb⟩
      have HB3 := Lib.hid (HB2.out.trans (hb.mono HB2.out.size))
      have c0 : w3.cell? ⟨w.heap.size, 0, none⟩ = some (.int .i64 K) := cell_of (HC.out w3 HB3.out) 0 rfl
      have c1 : w3.cell? ⟨w.heap.size, 1, none⟩ = some (.int .i64 N) := cell_of (HC.out w3 HB3.out) 1 rfl
      have c2 : w3.cell? ⟨w.heap.size, 2, none⟩ = some (.int .i64 k) := cell_of (HC.out w3 HB3.out) 2 rfl
      have c3 : w3.cell? ⟨w.heap.size, 3, none⟩ = some (.slice sa n cap) := cell_of (HC.out w3 HB3.out) 3 rfl
      clear hb CK1 HB2 d0 d1 d2 d3
      go_wp2_with fail
      refine (CR1.out w3 HB3.out).mono ?_
      rintro e w4 ⟨sr, mr, rfl, hr, hb⟩
      rw [← HL.out] at hr
      have hm := hr.len_u64
      rw [zsN_len] at hm
      subst hm
      obtain ⟨sx, cx, rfl⟩ := hr.form
      have HB4 := Lib.hid (HB3.out.trans (hb.mono HB3.out.size))
      have d0 : w4.cell? ⟨w.heap.size, 0, none⟩ = some (.int .i64 K) := cell_of (HC.out w4 HB4.out) 0 rfl
      have CX := rrej46_any w4 K sl sx cl 0 cx l L (HLS.out.below HB4.out) hl5 HWL.out hr HLEN.out HLIM.out
      rw [← HR.out] at CX
      have HCX := Lib.hid CX
      clear hb hr CX HB3 c0 c1 c2 c3
      go_wp2_with fail
      refine HCX.out.mono ?_
      rintro e w5 ⟨rfl, hb⟩
      have HB5 := Lib.hid (HB4.out.trans (hb.mono HB4.out.size))
      have c0 : w5.cell? ⟨w.heap.size, 0, none⟩ = some (.int .i64 K) := cell_of (HC.out w5 HB5.out) 0 rfl
      have c1 : w5.cell? ⟨w.heap.size, 1, none⟩ = some (.int .i64 N) := cell_of (HC.out w5 HB5.out) 1 rfl
      have c2 : w5.cell? ⟨w.heap.size, 2, none⟩ = some (.int .i64 k) := cell_of (HC.out w5 HB5.out) 2 rfl
      have c3 : w5.cell? ⟨w.heap.size, 3, none⟩ = some (.slice sa n cap) := cell_of (HC.out w5 HB5.out) 3 rfl
      clear hb HCX HB4 d0
      go_upto_region 11 with fail
      have hsz5 : w0.heap.size ≤ w5.heap.size := HB5.out.size
      go_region_held3 (fun w' => w'.cell? ⟨w.heap.size, 0, none⟩ = some (.int .i64 K) ∧ w'.cell? ⟨w.heap.size, 1, none⟩ = some (.int .i64 N) ∧ w'.cell? ⟨w.heap.size, 2, none⟩ = some (.int .i64 k) ∧ w'.cell? ⟨w.heap.size, 3, none⟩ = some (.slice sa n cap))
        (first | exact ⟨k0, k1, k2, k3⟩ | exact ⟨e0, e1, e2, e3⟩ | go_keep)
        (first
          | (go_at_call 15; refine (NW.out _ (by first | exact HB5.out.drew | exact HB5.out)).mono ?_; rintro e w6 ⟨b, wv, rfl, ht, hb⟩;
              have hb6 : Below w0.heap.size w0 w6 := (by first | exact HB5.out.drew.trans (hb.mono HB5.out.size) | exact HB5.out.trans (hb.mono HB5.out.size));
              have e0 : w6.cell? ⟨w.heap.size, 0, none⟩ = some (.int .i64 K) := cell_of (HC.out w6 hb6) 0 rfl; have e1 : w6.cell? ⟨w.heap.size, 1, none⟩ = some (.int .i64 N) := cell_of (HC.out w6 hb6) 1 rfl; have e2 : w6.cell? ⟨w.heap.size, 2, none⟩ = some (.int .i64 k) := cell_of (HC.out w6 hb6) 2 rfl; have e3 : w6.cell? ⟨w.heap.size, 3, none⟩ = some (.slice sa n cap) := cell_of (HC.out w6 hb6) 3 rfl;
              have HT6 := Lib.hid ht; have HB6 := Lib.hid hb6; have hlb : w5.heap.size ≤ b := ht.2.1; clear ht hb hb6)
          | (go_at_call 14; refine (DO.out _ HB6.out _ b wv HT6.out).mono ?_; rintro e w7 ⟨hd, hc⟩;
              have hb7 : Below w0.heap.size w0 w7 := HB6.out.trans (hc.below HB6.out.size fun g hg => (by rcases hg with rfl | hg; exact Nat.le_trans hsz5 hlb; cases hg));
              have k0 : w7.cell? ⟨w.heap.size, 0, none⟩ = some (.int .i64 K) := cell_of (HC.out w7 hb7) 0 rfl; have k1 : w7.cell? ⟨w.heap.size, 1, none⟩ = some (.int .i64 N) := cell_of (HC.out w7 hb7) 1 rfl; have k2 : w7.cell? ⟨w.heap.size, 2, none⟩ = some (.int .i64 k) := cell_of (HC.out w7 hb7) 2 rfl; have k3 : w7.cell? ⟨w.heap.size, 3, none⟩ = some (.slice sa n cap) := cell_of (HC.out w7 hb7) 3 rfl;
              have HB7 := Lib.hid hb7; have HD7 := Lib.hid hd; clear hc hb7 hd; obtain ⟨t1, t2, t3, rfl, HT3⟩ : ∃ (t1 : Value) (t2 t3 : Int), e = .returned (.tuple #[t1, .int .i64 t2, .int .i64 t3]) ∧ Hid (t3 ≠ 0 → t3 = 7 ∧ 0 < L.length ∧ l.length / L.length ≤ R) := do7 HD7.out HFEW.out; clear HD7))
      all_goals
        clear c0 c1 c2 c3 e0 e1 e2 e3 k0 k1 k2 k3
        by_cases h3 : t3 = 0
        · subst h3
          go_wp2_with fail
          go_ret
          exact ⟨rfl, HBW.out.trans (HB7.out.mono HBW.out.size)⟩
        · obtain ⟨rfl, p1, p2⟩ := HT3.out h3
          have p3 : (0 : Int) < (L.length : Int) := by omega
          have p5 : ((L.length : Int) == 0) = false := by rw [beq_eq_false_iff_ne]; omega
          have p6 : (L.length : Int) ≤ 256 := by have := HLEN.out; omega
          have e1 : (l.length : Int) / (L.length : Int) = ((l.length / L.length : Nat) : Int) := by simp
          have bQ : l.length / L.length ≤ 100 := Nat.le_trans (Nat.div_le_self _ _) (Nat.le_of_not_lt hbig)
          generalize l.length / L.length = Q at *
          have p4 : (Q : Int) ≤ (R : Int) := by omega
          clear h3 HT3
          go_wp2_with fail
          go_ret
          exact ⟨ret_bool (by first | rfl | (simp; omega)), HBW.out.trans (HB7.out.mono HBW.out.size)⟩
  · have CJ1 := Lib.hid (CJ0.out w1 HB1.out h0)
    obtain ⟨E, hE⟩ : ∃ E, E = askE K N k ws := ⟨_, rfl⟩
    have q : (E != 0) = true := by rw [hE]; simpa using h0
    have HE := Lib.hid hE
    clear h0 hE CJ CJ0
    rcases hcase with ⟨q1, -⟩ | ⟨q1, q2⟩
    all_goals
      go_wp2_with fail
      refine CJ1.out.mono ?_
      rintro e w2 ⟨rfl, hb⟩
      have HB2 := Lib.hid (HB1.out.trans (hb.mono HB1.out.size))
      have d0 : w2.cell? ⟨w.heap.size, 0, none⟩ = some (.int .i64 K) := cell_of (HC.out w2 HB2.out) 0 rfl
      have d1 : w2.cell? ⟨w.heap.size, 1, none⟩ = some (.int .i64 N) := cell_of (HC.out w2 HB2.out) 1 rfl
      have d2 : w2.cell? ⟨w.heap.size, 2, none⟩ = some (.int .i64 k) := cell_of (HC.out w2 HB2.out) 2 rfl
      have d3 : w2.cell? ⟨w.heap.size, 3, none⟩ = some (.slice sa n cap) := cell_of (HC.out w2 HB2.out) 3 rfl
      clear hb CJ1 HB1 c0 c1 c2 c3
      go_wp2_with fail
      refine (CK.out w2 HB2.out).mono ?_
      rintro e w3 ⟨rfl, hb⟩
      rw [← HE.out]
      have HB3 := Lib.hid (HB2.out.trans (hb.mono HB2.out.size))
      clear hb
      go_wp2_with fail
      go_ret
      exact ⟨rfl, HBW.out.trans (HB3.out.mono HBW.out.size)⟩

end Go.Proofs.Ytcoohepkmhpdkaa
